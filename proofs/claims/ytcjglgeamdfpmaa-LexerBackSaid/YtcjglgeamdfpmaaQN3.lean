/- The law of the lexer LexerJoins. -/
import Derived.Test.YtcjglgeamdfpmaaQN2
set_option linter.unusedSimpArgs false
set_option linter.unnecessarySimpa false
set_option linter.unusedVariables false
set_option maxRecDepth 10000
namespace Go.Am
open Go Go.Pu Go.RowKit

theorem scan_rem : ∀ (n : Nat) (s : List UInt8), s.length < n → (∀ ts, scan s = .ok ts → ∀ x ∈ ts, x.2 ≤ s.length) ∧ (∀ rem e, scan s = .err rem e → rem ≤ s.length)
  | 0, s, h => by omega
  | n + 1, s, hn => by
    have hsk := skipB_le false s
    cases hk : skipB false s with
    | nil =>
      rw [scan_nil hk]
      exact ⟨fun ts h x hx => by cases h; simp at hx; subst hx; exact Nat.zero_le _, fun rem e h => by cases h⟩
    | cons b l =>
      rw [hk] at hsk
      simp at hsk
      cases ho : lexOne b l with
      | err e' =>
        rw [scan_err hk ho]
        exact ⟨fun ts h => (by cases h), fun rem e h => by cases h; omega⟩
      | ok t r' =>
        have hle := lexOne_le ho
        obtain ⟨i1, i2⟩ := scan_rem n r' (by omega)
        rw [scan_ok hk ho]
        cases hr : scan r' with
        | ok ts' =>
          refine ⟨fun ts h x hx => ?_, fun rem e h => by cases h⟩
          cases h
          cases hx with
          | head => exact hsk
          | tail _ hx => have := i1 ts' hr x hx; omega
        | err r2 e2 =>
          refine ⟨fun ts h => (by cases h), fun rem e h => ?_⟩
          cases h
          have := i2 _ _ hr
          omega
theorem scan_rem_ok {s : List UInt8} {ts : List (Tk × Nat)} (h : scan s = .ok ts) : ∀ x ∈ ts, x.2 ≤ s.length := (scan_rem _ s (Nat.lt_succ_self _)).1 ts h
theorem scan_rem_err {s : List UInt8} {rem e : Nat} (h : scan s = .err rem e) : rem ≤ s.length := (scan_rem _ s (Nat.lt_succ_self _)).2 rem e h

theorem joinT_snoc (k : Nat) (z : Tk × Nat) (us : List (Tk × Nat)) : ∀ l : List (Tk × Nat), joinT k (l ++ [z]) us = l.map (fun x => (x.1, x.2 + k)) ++ us
  | [] => rfl
  | [x] => rfl
  | x :: y :: l => by
    have := joinT_snoc k z us (y :: l)
    simp only [List.cons_append] at this ⊢
    simp only [joinT, this]
    rfl
theorem toks_snoc {ts : List (Tk × Nat)} (h : Toks ts) : ∃ l, ts = l ++ [(.fin, 0)] := by
  induction h with
  | fin => exact ⟨[], rfl⟩
  | cons t k ts _ _ ih => obtain ⟨l, rfl⟩ := ih; exact ⟨(t, k) :: l, rfl⟩

/-- A token that stands so much further on. -/
def shiftV (d : Nat) : V → V
  | .agg [.int .i64 k, .int .i64 n, .int .i64 p, .str s] => .agg [.int .i64 k, .int .i64 n, .int .i64 (p + d), .str s]
  | v => v

def smallTok (v : V) : Prop := ∃ (k n : Int) (p : Nat) (s : List UInt8), v = tokV k n p s ∧ p ≤ 100000

theorem Joins_2 (s : List UInt8) (A bV : List V) (z : V) (hs : s.length ≤ 2000) (hA : A.length ≤ 100000) : ∀ (m2 m1 : List V), bV = m1 ++ m2 → (∀ v ∈ m2, smallTok v) → bV.length ≤ 100000 →
    Run mach (.c billinglaw23_LexerJoins_l1b :: .lp billinglaw23_LexerJoins_l1 :: .endB 0 :: .c billinglaw23_LexerJoins_k1 :: []) .norm ⟨(.str s :: .undef :: .undef :: .undef :: .undef :: .sl false 4 (A ++ [z]) :: .undef :: .undef :: .sl false 4 bV :: .undef :: .undef :: .sl false 4 (A ++ bV.map (shiftV (s.length + 1))) :: .undef :: .undef :: .int .i64 (A.length + m1.length : Nat) :: .undef :: .undef :: .undef :: .undef :: .undef :: .undef :: .undef :: .undef :: .undef :: .undef :: .undef :: .undef :: .undef :: .undef :: .undef :: .undef :: .undef :: .undef :: .undef :: .undef :: .undef :: .undef :: .undef :: .undef :: .undef :: .undef :: .undef :: .undef :: .undef :: .undef :: .undef :: .undef :: .undef :: .undef :: .undef :: .undef :: .undef :: .undef :: .undef :: .undef :: .undef :: .undef :: .undef :: .undef :: .undef :: .undef :: .undef :: .undef :: .undef :: .undef :: .undef :: .undef :: .undef :: .undef :: .undef :: .undef :: .undef :: .undef :: .undef :: .undef :: .undef :: .undef :: .undef :: .undef :: .undef :: .undef :: .undef :: .undef :: .undef :: .undef :: .undef :: .undef :: .undef :: .undef :: .undef :: .undef :: .undef :: .undef :: .undef :: .undef :: .undef :: .undef :: .undef :: .undef :: .undef :: .undef :: .undef :: .undef :: .undef :: .undef :: .undef :: .undef :: .undef :: .undef :: .undef :: .undef :: .undef :: .undef :: .undef :: .undef :: .undef :: .undef :: .undef :: .undef :: .undef :: .undef :: .undef :: .undef :: .undef :: .undef :: []), []⟩
      (FinQ [.tmp 4] 0 (.ret (.bool true) []))
  | [], m1, hb, ht, hl => by
    simp only [List.append_nil] at hb
    subst hb
    have q : ¬ ((A.length : Int) + bV.length < A.length + bV.length) := by omega
    unfold billinglaw23_LexerJoins_l1b
    simp [go_sem, q, billinglaw23_LexerJoins_k1]
    unfold billinglaw23_LexerJoins_k1b
    simp [go_sem, e_awake23]
  | x :: m2, m1, hb, ht, hl => by
    have ih := Joins_2 s A bV z hs hA m2 (m1 ++ [x]) (by rw [hb]; simp) (fun v hv => ht v (by simp [hv])) hl
    obtain ⟨k, n, p, t, hx, hp⟩ := ht x (by simp)
    have hbl : bV.length = m1.length + (m2.length + 1) := by rw [hb]; simp
    have hn : nth bV m1.length = tokV k n p t := by rw [hb, hx]; exact nth_mid
    have hn2 : nth (A ++ bV.map (shiftV (s.length + 1))) (A.length + m1.length) = tokV k n (p + (s.length + 1) : Nat) t := by
      rw [hb, hx]
      simp only [List.map_append, List.map_cons]
      rw [← List.append_assoc]
      have e : A.length + m1.length = (A ++ m1.map (shiftV (s.length + 1))).length := by simp
      rw [e, nth_mid]
      simp [shiftV, tokV]
    have q : (A.length : Int) + m1.length < A.length + bV.length := by omega
    have q2 : ¬ ((A.length : Int) + m1.length < A.length) := by omega
    have w1 : IntKind.wrap .i64 ((A.length : Int) + 1 - 1) = A.length := by rw [wrap_i64 (by omega)]; omega
    have w1' : IntKind.wrap .i64 (A.length : Int) = A.length := wrap_i64 (by omega)
    have w2 : IntKind.wrap .i64 ((A.length : Int) + m1.length - (A.length + 1)) = (m1.length : Int) - 1 := by rw [wrap_i64 (by omega)]; omega
    have w3 : IntKind.wrap .i64 ((m1.length : Int) - 1 + 1) = m1.length := by rw [wrap_i64 (by omega)]; omega
    have w3' : IntKind.wrap .i64 (m1.length : Int) = m1.length := wrap_i64 (by omega)
    have w4 : IntKind.wrap .i64 ((p : Int) + s.length) = (p : Int) + s.length := wrap_i64 (by omega)
    have w5 : IntKind.wrap .i64 ((p : Int) + s.length + 1) = (p : Int) + (s.length + 1) := by rw [wrap_i64 (by omega)]; omega
    have w6 : IntKind.wrap .i64 ((A.length : Int) + m1.length + 1) = (A.length : Int) + (m1.length + 1) := by rw [wrap_i64 (by omega)]; omega
    have e1 : ((A.length : Int) + (m1.length : Int)).toNat = A.length + m1.length := by omega
    have q3 : (m1.length : Int) < bV.length := by omega
    have q4 : m1.length < bV.length := by omega
    have z1 : (0 : Int) ≤ (A.length : Int) + m1.length := by omega
    simp only [List.length_append, List.length_cons, List.length_nil, Nat.zero_add] at ih
    simp only [tokV] at hn hn2
    simp at hn2
    unfold billinglaw23_LexerJoins_l1b
    simp [go_sem, q, q2, w1, w1', w2, w3, w3', q3, q4, hn, hn2, w4, w5, w6, e1, z1]
    simpa using ih

theorem Joins_1 (s : List UInt8) (A bV : List V) (z : V) (hs : s.length ≤ 2000) (hA : A.length ≤ 100000) (hb : ∀ v ∈ bV, smallTok v) (hbl : bV.length ≤ 100000) : ∀ (l2 l1 : List V), A = l1 ++ l2 → (∀ v ∈ l2, isTok v) →
    Run mach (.c billinglaw23_LexerJoins_l1b :: .lp billinglaw23_LexerJoins_l1 :: .endB 0 :: .c billinglaw23_LexerJoins_k1 :: []) .norm ⟨(.str s :: .undef :: .undef :: .undef :: .undef :: .sl false 4 (A ++ [z]) :: .undef :: .undef :: .sl false 4 bV :: .undef :: .undef :: .sl false 4 (A ++ bV.map (shiftV (s.length + 1))) :: .undef :: .undef :: .int .i64 (l1.length : Nat) :: .undef :: .undef :: .undef :: .undef :: .undef :: .undef :: .undef :: .undef :: .undef :: .undef :: .undef :: .undef :: .undef :: .undef :: .undef :: .undef :: .undef :: .undef :: .undef :: .undef :: .undef :: .undef :: .undef :: .undef :: .undef :: .undef :: .undef :: .undef :: .undef :: .undef :: .undef :: .undef :: .undef :: .undef :: .undef :: .undef :: .undef :: .undef :: .undef :: .undef :: .undef :: .undef :: .undef :: .undef :: .undef :: .undef :: .undef :: .undef :: .undef :: .undef :: .undef :: .undef :: .undef :: .undef :: .undef :: .undef :: .undef :: .undef :: .undef :: .undef :: .undef :: .undef :: .undef :: .undef :: .undef :: .undef :: .undef :: .undef :: .undef :: .undef :: .undef :: .undef :: .undef :: .undef :: .undef :: .undef :: .undef :: .undef :: .undef :: .undef :: .undef :: .undef :: .undef :: .undef :: .undef :: .undef :: .undef :: .undef :: .undef :: .undef :: .undef :: .undef :: .undef :: .undef :: .undef :: .undef :: .undef :: .undef :: .undef :: .undef :: .undef :: .undef :: .undef :: .undef :: .undef :: .undef :: .undef :: .undef :: .undef :: .undef :: []), []⟩
      (FinQ [.tmp 4] 0 (.ret (.bool true) []))
  | [], l1, ha, ht => by
    simp only [List.append_nil] at ha
    subst ha
    have := Joins_2 s A bV z hs hA bV [] rfl hb hbl
    simpa using this
  | x :: l2, l1, ha, ht => by
    have ih := Joins_1 s A bV z hs hA hb hbl l2 (l1 ++ [x]) (by rw [ha]; simp) (fun v hv => ht v (by simp [hv]))
    obtain ⟨k, n, p, t, hx⟩ := ht x (by simp)
    have hal : A.length = l1.length + (l2.length + 1) := by rw [ha]; simp
    have hn : nth (A ++ [z]) l1.length = tokV k n p t := by rw [ha, hx, List.append_assoc]; exact nth_mid
    have hn2 : nth (A ++ bV.map (shiftV (s.length + 1))) l1.length = tokV k n p t := by rw [ha, hx, List.append_assoc]; exact nth_mid
    have q : (l1.length : Int) < A.length + bV.length := by omega
    have q2 : (l1.length : Int) < A.length := by omega
    have q3 : (l1.length : Int) < A.length + 1 := by omega
    have w1' : IntKind.wrap .i64 (A.length : Int) = A.length := wrap_i64 (by omega)
    have w6 : IntKind.wrap .i64 ((l1.length : Int) + 1) = (l1.length : Int) + 1 := wrap_i64 (by omega)
    simp only [List.length_append, List.length_cons, List.length_nil, Nat.zero_add] at ih
    simp only [tokV] at hn hn2
    unfold billinglaw23_LexerJoins_l1b
    simp [go_sem, q, q2, q3, w1', hn, hn2, w6]
    simpa using ih

theorem law_joins (s t : List UInt8) : acall mach n_billinglaw23_LexerJoins [.str s, .str t] [] = some (.ret (.bool true) []) := by
  refine acall_fn rfl (af := a_billinglaw23_LexerJoins) rfl rfl ?_
  by_cases h : s.length > 2000
  · have h' : (2000 : Int) < s.length := by omega
    simp [List.replicate, go_sem, h', e_awake23]
  have h' : ¬ (2000 : Int) < s.length := by omega
  by_cases h2 : t.length > 2000
  · have h2' : (2000 : Int) < t.length := by omega
    simp [List.replicate, go_sem, h', h2', e_awake23]
  have h2' : ¬ (2000 : Int) < t.length := by omega
  have e1 := e_Scan s
  have e2 := e_Scan t
  have e3 := e_Scan (s ++ 10 :: t)
  have hj := scan_join t s.length s (Nat.le_refl _)
  have hlen : (s ++ 10 :: t).length = s.length + (t.length + 1) := by simp
  have c1 : s.length + 1 ≤ 9223372036854775807 := by omega
  have c2 : s.length + 1 + t.length ≤ 9223372036854775807 := by omega
  unfold scanV at e1 e2 e3
  rw [if_neg (by omega)] at e1 e2
  rw [if_neg (by rw [hlen]; omega), hj, hlen] at e3
  cases hs : scan s with
  | err r1 f1 =>
    rw [hs] at e1 e3
    have n1 : ¬ ((f1 : Nat) : Int) = 0 := by have := scan_err_code _ hs; omega
    cases ht : scan t with
    | err r2 f2 =>
      rw [ht] at e2
      simp [List.replicate, go_sem, h', h2', e1, e2, c1, c2, e3, nt' n1, e_awake23]
    | ok us =>
      rw [ht] at e2
      simp [List.replicate, go_sem, h', h2', e1, e2, c1, c2, e3, nt' n1, e_awake23]
  | ok ts =>
    rw [hs] at e1 e3
    cases ht : scan t with
    | err r2 f2 =>
      rw [ht] at e2 e3
      simp only at e2 e3
      have n2 : ¬ ((f2 : Nat) : Int) = 0 := by have := scan_err_code _ ht; omega
      have hr := scan_rem_err ht
      obtain ⟨d, hd⟩ : ∃ d, d = t.length - r2 := ⟨_, rfl⟩
      have e5 : s.length + (t.length + 1) - r2 = d + s.length + 1 := by omega
      rw [← hd] at e2
      rw [e5] at e3
      have w1 : IntKind.wrap .i64 ((d : Int) + s.length) = (d : Int) + s.length := wrap_i64 (by omega)
      have w2 : IntKind.wrap .i64 ((d : Int) + s.length + 1) = (d : Int) + s.length + 1 := wrap_i64 (by omega)
      simp at e3
      simp [List.replicate, go_sem, h', h2', e1, e2, c1, c2, e3, nt' n2, w1, w2, e_awake23]
    | ok us =>
      rw [ht] at e2 e3
      simp only at e2 e3
      obtain ⟨l0, hl0⟩ := toks_snoc (scan_toks _ s ts (Nat.le_refl _) hs)
      have hlen1 := scan_len s hs
      have hlen2 := scan_len t ht
      subst hl0
      rw [joinT_snoc] at e3
      have hA : (l0.map fun x => (x.1, x.2 + (t.length + 1))).map (tkV (s.length + (t.length + 1))) = l0.map (tkV s.length) := by
        rw [List.map_map]
        apply List.map_congr_left
        intro x _
        simp only [Function.comp, tkV]
        have : s.length + (t.length + 1) - (x.2 + (t.length + 1)) = s.length - x.2 := by omega
        rw [this]
      have hB : us.map (tkV (s.length + (t.length + 1))) = (us.map (tkV t.length)).map (shiftV (s.length + 1)) := by
        rw [List.map_map]
        apply List.map_congr_left
        intro x hx
        have hr := scan_rem_ok ht x hx
        simp only [Function.comp, tkV, tokV, shiftV]
        have hx2 : ((s.length + (t.length + 1) - x.2 : Nat) : Int) = ((t.length - x.2 : Nat) : Int) + ((s.length + 1 : Nat) : Int) := by omega
        rw [hx2]
      rw [List.map_append, hA, hB] at e3
      have hsm : ∀ v ∈ us.map (tkV t.length), smallTok v := by
        intro v hv
        obtain ⟨x, _, rfl⟩ := List.mem_map.1 hv
        exact ⟨_, _, t.length - x.2, _, rfl, by omega⟩
      have := Joins_1 s (l0.map (tkV s.length)) (us.map (tkV t.length)) (tkV s.length (.fin, 0)) (by omega) (by simp at hlen1 ⊢; omega) hsm (by simp; omega) (l0.map (tkV s.length)) [] rfl (by
        intro v hv
        obtain ⟨x, _, rfl⟩ := List.mem_map.1 hv
        exact isTok_tkV _ _)
      simp at hlen1
      simp only [List.map_append, List.map_cons, List.map_nil] at e1
      have hAl : (l0.map (tkV s.length)).length ≤ 100000 := by simp; omega
      have hBl : (us.map (tkV t.length)).length ≤ 100000 := by simp; omega
      generalize l0.map (tkV s.length) = A at *
      generalize us.map (tkV t.length) = bV at *
      generalize tkV s.length (.fin, 0) = z at *
      have q1 : ¬ ((A.length : Int) + 1 < 1) := by omega
      have w1 : IntKind.wrap .i64 (A.length : Int) = A.length := wrap_i64 (by omega)
      have w2 : IntKind.wrap .i64 ((A.length : Int) + bV.length) = (A.length : Int) + bV.length := wrap_i64 (by omega)
      simp [List.replicate, go_sem, h', h2', e1, e2, c1, c2, e3, q1, w1, w2]
      simpa using this
theorem all_lexerJoins (us : List V) (h : TyArgs Go.Proofs.Try.prog Go.Proofs.Try.f7.params.toList us) : acall mach 7 us [] = some (.ret (.bool true) []) := by
  obtain ⟨u, v, rfl, h1, h2⟩ := TyArgs.two h
  obtain ⟨b, rfl, _⟩ := arg_string u9 h1
  obtain ⟨c, rfl, _⟩ := arg_string u9 h2
  exact law_joins b c
end Go.Am
