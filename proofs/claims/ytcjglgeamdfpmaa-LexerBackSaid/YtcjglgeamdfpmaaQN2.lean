/- The laws of the lexer: LexerLimits, LexerPlaces. -/
import Derived.Test.YtcjglgeamdfpmaaQN1
set_option linter.unusedSimpArgs false
set_option linter.unnecessarySimpa false
set_option linter.unusedVariables false
set_option maxRecDepth 10000
namespace Go.Am
open Go Go.Pu Go.RowKit

theorem wz0 : IntKind.wrap .i64 0 = 0 := by decide
theorem wz1 : IntKind.wrap .i64 1 = 1 := by decide

theorem B_replace0 (n : Nat) : List.replicate n (V.int .u8 0) = B (List.replicate n 0) := by
  unfold B
  rw [List.map_replicate]
  rfl
theorem scan_blanks0 (n : Nat) : scan (List.replicate n 32) = .ok [(.fin, 0)] := by
  have := scan_spaces [] n
  simp only [List.append_nil] at this
  rw [this]; rfl
theorem scan_blanks1 (n : Nat) : scan (List.replicate n 32 ++ [97]) = .ok [(.word [97], 1), (.fin, 0)] := by
  rw [scan_spaces]; rfl

theorem law_limits (m : Nat) (w : Bool) (hm : m ≤ 255) : acall mach n_billinglaw23_LexerLimits [.int .u8 m, .bool w] [] = some (.ret (.bool true) []) := by
  refine acall_fn rfl (af := a_billinglaw23_LexerLimits) rfl rfl ?_
  obtain ⟨n, hn⟩ : ∃ n : Nat, n = 65526 + m % 21 := ⟨_, rfl⟩
  have hn1 : 65526 ≤ n ∧ n ≤ 65546 := by omega
  have t1 : (m : Int).tmod 21 = ((m % 21 : Nat) : Int) := rfl
  have w1 : IntKind.wrap .i64 ((m : Int) % 21) = (m : Int) % 21 := wrap_i64 (by omega)
  have w2 : IntKind.wrap .i64 (65526 + (m : Int) % 21) = (n : Int) := by rw [wrap_i64 (by omega)]; omega
  have q1 : (n : Int) ≤ 281474976710656 := by omega
  have q2 : (n : Int) ≤ 9223372036854775807 := by omega
  have key : Run mach (.c billinglaw23_LexerLimits_k1b :: []) .norm ⟨(.undef :: .bool w :: .undef :: .undef :: .undef :: .int .i64 n :: .sl true 1 (blanksV n n) :: .undef :: .undef :: .undef :: .undef :: .undef :: .undef :: .undef :: .undef :: .undef :: .undef :: .undef :: .undef :: .undef :: .undef :: .undef :: .undef :: .undef :: .undef :: .undef :: .undef :: .undef :: .undef :: .undef :: .undef :: .undef :: .undef :: .undef :: .undef :: .undef :: .undef :: .undef :: .undef :: .undef :: .undef :: .undef :: .undef :: .undef :: .undef :: .undef :: .undef :: .undef :: .undef :: .undef :: .undef :: .undef :: .undef :: .undef :: .undef :: .undef :: .undef :: .undef :: .undef :: .undef :: .undef :: .undef :: .undef :: .undef :: .undef :: .undef :: .undef :: .undef :: .undef :: .undef :: .undef :: .undef :: .undef :: .undef :: .undef :: .undef :: .undef :: .undef :: .undef :: .undef :: .undef :: []), []⟩ (FinQ [.tmp 4] 0 (.ret (.bool true) [])) := by
    have hb : blanksV n n = B (List.replicate n 32) := by simp [blanksV]
    have hl : (B (List.replicate n 32)).length = n := by simp [B]
    have hw : IntKind.wrap .i64 ((n : Int) - 1) = ((n - 1 : Nat) : Int) := by rw [wrap_i64 (by omega)]; omega
    have hlt : n - 1 < n := by omega
    have hu : upd (B (List.replicate n 32)) (n - 1) (.int .u8 97) = B (List.replicate (n - 1) 32 ++ [97]) := by
      have e := upd_B (List.replicate n 32) (n - 1) 97
      have : (V.int .u8 (((97 : UInt8).toNat : Nat) : Int)) = .int .u8 97 := rfl
      rw [this] at e
      rw [e]
      congr 1
      have e1 : n = (n - 1) + 1 := by omega
      rw [e1, List.replicate_succ', Nat.add_sub_cancel, List.set_append_right _ _ (by simp)]
      simp
    rw [hb]
    have hall : ∀ l : List UInt8, (B l).all isU8 = true := B_all
    have hmap : ∀ l : List UInt8, (B l).map byteOf = l := B_map
    unfold billinglaw23_LexerLimits_k1b
    cases w with
    | false =>
      have e1 := e_Scan (List.replicate n 32)
      unfold scanV at e1
      simp only [List.length_replicate, scan_blanks0] at e1
      by_cases h : n > 65536
      · have h' : (65536 : Int) < n := by omega
        rw [if_pos h] at e1
        simp [go_sem, hall, hmap, e1, h', e_awake23]
      · have h' : ¬ (65536 : Int) < n := by omega
        rw [if_neg h] at e1
        simp [go_sem, hall, hmap, e1, h', e_awake23, wz0, wz1, tkV, tokV, Tk.kind, Tk.val, Tk.str]
    | true =>
      have e1 := e_Scan (List.replicate (n - 1) 32 ++ [97])
      have hl2 : (List.replicate (n - 1) (32 : UInt8) ++ [97]).length = n := by simp; omega
      unfold scanV at e1
      simp only [hl2, scan_blanks1] at e1
      by_cases h : n > 65536
      · have h' : (65536 : Int) < n := by omega
        rw [if_pos h] at e1
        simp [go_sem, hl, hw, hlt, hu, hall, hmap, e1, h', e_awake23]
      · have h' : ¬ (65536 : Int) < n := by omega
        rw [if_neg h] at e1
        simp [go_sem, hl, hw, hlt, hu, hall, hmap, e1, h', e_awake23, wz0, wz1, tkV, tokV, Tk.kind, Tk.val, Tk.str]
  have := Limits_l n w [] (by omega) _ key n 0 (by omega)
  have e0 : blanksV 0 n = List.replicate n (.int .u8 0) := by rw [B_replace0]; simp [blanksV]
  rw [e0] at this
  simp [List.replicate, go_sem, t1, w1, w2, q1, q2]
  simpa using this

theorem u5 : Go.Proofs.Try.prog.underlying 5 = some (.int .u8) := by kernel_rfl
theorem u4 : Go.Proofs.Try.prog.underlying 4 = some .bool := by kernel_rfl
theorem arg_u8 {u : V} (h : u = mkEl Go.Proofs.Try.prog 5 u.cells ∧ ∃ f, TyC Go.Proofs.Try.prog f 5 u.cells) : ∃ n : Nat, u = .int .u8 n ∧ n ≤ 255 := by
  obtain ⟨n, rfl, hn⟩ := arg_int u5 h
  have hb : 0 ≤ n ∧ n ≤ 255 := by
    simp [Lit.wf, IntKind.min, IntKind.max, IntKind.signed, IntKind.bits] at hn
    omega
  obtain ⟨c, rfl⟩ := Int.eq_ofNat_of_zero_le hb.1
  exact ⟨c, rfl, by omega⟩
theorem all_lexerLimits (us : List V) (h : TyArgs Go.Proofs.Try.prog Go.Proofs.Try.f10.params.toList us) : acall mach 10 us [] = some (.ret (.bool true) []) := by
  obtain ⟨u, v, rfl, h1, h2⟩ := TyArgs.two h
  obtain ⟨n, rfl, hn⟩ := arg_u8 h1
  obtain ⟨b, rfl⟩ := arg_bool u4 h2
  exact law_limits n b hn

theorem src_srcP {t : Tk} : srcP t.kind t.str = t.src := by cases t <;> rfl

theorem Places_l (n0 : Nat) : ∀ (m : Nat) (p r : List UInt8) (l1 : List V) (ts : List (Tk × Nat)), r.length < m → p.length + r.length ≤ 2000 → l1.length ≤ p.length → scan r = .ok ts → n0 = p.length + r.length →
    Run mach (.c billinglaw23_LexerPlaces_l1b :: .lp billinglaw23_LexerPlaces_l1 :: .endB 0 :: .c billinglaw23_LexerPlaces_k1 :: []) .norm ⟨(.str (p ++ r) :: .undef :: .undef :: .sl false 4 (l1 ++ ts.map (tkV n0)) :: .undef :: .undef :: .int .i64 p.length :: .int .i64 l1.length :: .undef :: .undef :: .undef :: .undef :: .undef :: .undef :: .undef :: .undef :: .undef :: .undef :: .undef :: .undef :: .undef :: .undef :: .undef :: .undef :: .undef :: .undef :: .undef :: .undef :: .undef :: .undef :: .undef :: .undef :: .undef :: .undef :: .undef :: .undef :: .undef :: .undef :: .undef :: .undef :: .undef :: .undef :: .undef :: .undef :: .undef :: .undef :: .undef :: .undef :: .undef :: .undef :: .undef :: .undef :: .undef :: .undef :: .undef :: .undef :: .undef :: .undef :: .undef :: .undef :: .undef :: .undef :: .undef :: .undef :: .undef :: .undef :: .undef :: .undef :: .undef :: .undef :: .undef :: .undef :: .undef :: .undef :: .undef :: .undef :: .undef :: .undef :: .undef :: .undef :: .undef :: .undef :: .undef :: .undef :: .undef :: .undef :: .undef :: .undef :: .undef :: .undef :: []), []⟩
      (FinQ [.tmp 2] 0 (.ret (.bool true) [])) := by
  intro m
  induction m with
  | zero => intro p r l1 ts hr; omega
  | succ m ih =>
    intro p r l1 ts hr hl h1 hs hn0
    have hsk := skipB_le false r
    have es := m_Skip p r (by omega)
    cases hk : skipB false r with
    | nil =>
      rw [scan_nil hk] at hs
      cases hs
      rw [hk] at es
      have q : (l1.length : Int) < l1.length + 1 := by omega
      have hn : nth (l1 ++ [tkV n0 (.fin, 0)]) l1.length = tkV n0 (.fin, 0) := nth_mid
      have e1 := m_Source 0 0 n0 [] (by decide)
      have w1 : IntKind.wrap .i64 ((l1.length : Int) + 1 - 1) = l1.length := by rw [wrap_i64 (by omega)]; omega
      have w1' : IntKind.wrap .i64 (l1.length : Int) = l1.length := wrap_i64 (by omega)
      have w2 : IntKind.wrap .i64 ((l1.length : Int) + 1) = l1.length + 1 := wrap_i64 (by omega)
      have w3 : IntKind.wrap .i64 ((n0 : Int) + 0) = n0 := by rw [wrap_i64 (by omega)]; omega
      have w3' : IntKind.wrap .i64 (n0 : Int) = n0 := wrap_i64 (by omega)
      have e9 : (n0 : Int) = p.length + r.length := by omega
      have e10 : p.length + r.length = n0 := by omega
      have q2 : ¬ ((l1.length : Int) + 1 < l1.length + 1) := by omega
      simp only [tkV, tokV, Tk.kind, Tk.val, Tk.str, srcP] at hn e1
      simp at es hn e1
      rw [← e9] at es
      unfold billinglaw23_LexerPlaces_l1b
      simp [go_sem, q, hn, es, w1, w1', w2, q2, ← e9, tkV, tokV, Tk.kind, Tk.val, Tk.str, e1, w3, w3']
      unfold billinglaw23_LexerPlaces_l1b
      simp [go_sem, q2, billinglaw23_LexerPlaces_k1]
      unfold billinglaw23_LexerPlaces_k1b
      simp [go_sem, e_awake23, bt' e9]
    | cons b l =>
      rw [hk] at hsk
      simp only [List.length_cons] at hsk
      cases ho : lexOne b l with
      | err e => rw [scan_err hk ho] at hs; cases hs
      | ok t r' =>
        rw [scan_ok hk ho] at hs
        cases hr' : scan r' with
        | err rem e => rw [hr'] at hs; cases hs
        | ok ts' =>
          rw [hr'] at hs
          cases hs
          have hle := lexOne_le ho
          obtain ⟨hok, _, hsrc⟩ := lexOne_ok ho
          obtain ⟨d, hd⟩ := skip_suf false r
          rw [hk, hsrc] at hd
          have hdl : r.length = d.length + (t.src.length + r'.length) := by have := congrArg List.length hd; simpa using this
          have hbl : l.length + 1 = t.src.length + r'.length := by have := congrArg List.length hsrc; simpa using this
          have ih := ih (p ++ d ++ t.src) r' (l1 ++ [tkV n0 (t, l.length + 1)]) ts' (by omega) (by simp; omega) (by simp; have := List.length_pos_iff.2 (src_ne hok); omega) hr' (by simp; omega)
          rw [hk] at es
          have e0 : p ++ d ++ t.src ++ r' = p ++ r := by rw [hd]; simp
          rw [e0] at ih
          have e2 : p.length + (r.length - (b :: l).length) = p.length + d.length := by simp; omega
          have e3 : n0 - (l.length + 1) = p.length + d.length := by omega
          rw [e2] at es
          have ek := kind_ne hok
          have q : (l1.length : Int) < l1.length + (ts'.length + 1) := by omega
          have hn : nth (l1 ++ tkV n0 (t, l.length + 1) :: ts'.map (tkV n0)) l1.length = tkV n0 (t, l.length + 1) := nth_mid
          have hsl : t.src.length ≤ 4611686018427387904 := by omega
          have hstr : t.str.length ≤ 4611686018427387904 := by
            have : t.str.length ≤ t.src.length := by cases t <;> simp [Tk.src, Tk.str]; omega
            omega
          have e1 := m_Source t.kind t.val (p.length + d.length : Nat) t.str hstr
          rw [src_srcP] at e1
          have esl : ((p ++ r).take (p.length + d.length + t.src.length)).drop (p.length + d.length) = t.src := by
            have := slice_mid (p := p ++ d) (w := t.src) (r := r')
            rw [hd]
            simpa using this
          simp only [tkV, tokV, e3] at hn e1 ih
          simp only [List.append_assoc, List.singleton_append, List.length_append, List.length_cons, List.length_nil, Nat.zero_add] at ih
          simp only [List.map_cons, tkV, tokV, e3]
          generalize t.kind = K at *
          generalize t.val = X at *
          generalize hT : t.src = T at *
          obtain ⟨P, hP⟩ : ∃ P, P = p.length + d.length := ⟨_, rfl⟩
          have w2 : IntKind.wrap .i64 ((l1.length : Int) + 1) = l1.length + 1 := wrap_i64 (by omega)
          have w3 : IntKind.wrap .i64 ((P : Int) + T.length) = (P : Int) + T.length := wrap_i64 (by omega)
          have q5 : (P : Int) ≤ (P : Int) + T.length := by omega
          have q6 : (P : Int) + T.length ≤ (p.length : Int) + r.length := by omega
          have e7 : ((P : Int) + T.length).toNat = P + T.length := by omega
          have e6 : p.length + (d.length + T.length) = P + T.length := by omega
          rw [e6] at ih
          rw [← hP] at hn e1 es esl ih ⊢
          unfold billinglaw23_LexerPlaces_l1b
          simp [go_sem, q, hn, es, bf' ek, e1, w3, q5, q6, e7, esl, w2]
          simpa using ih

theorem law_places (s : List UInt8) : acall mach n_billinglaw23_LexerPlaces [.str s] [] = some (.ret (.bool true) []) := by
  refine acall_fn rfl (af := a_billinglaw23_LexerPlaces) rfl rfl ?_
  by_cases h : s.length > 2000
  · have h' : (2000 : Int) < s.length := by omega
    simp [List.replicate, go_sem, h', e_awake23]
  · have h' : ¬ (2000 : Int) < s.length := by omega
    have e1 := e_Scan s
    have h6 : ¬ s.length > 65536 := by omega
    unfold scanV at e1
    rw [if_neg h6] at e1
    cases hs : scan s with
    | err rem e =>
      rw [hs] at e1
      have h0 : ¬ ((e : Nat) : Int) = 0 := by have := scan_err_code _ hs; omega
      simp [List.replicate, go_sem, h', e1, nt' h0, e_awake23]
    | ok ts =>
      rw [hs] at e1
      have := Places_l s.length (s.length + 1) [] s [] ts (by omega) (by simp; omega) (by simp) hs (by simp)
      simp [List.replicate, go_sem, h', e1]
      simpa using this
theorem all_lexerPlaces (us : List V) (h : TyArgs Go.Proofs.Try.prog Go.Proofs.Try.f8.params.toList us) : acall mach 8 us [] = some (.ret (.bool true) []) := by
  obtain ⟨u, rfl, h1⟩ := TyArgs.one h
  obtain ⟨b, rfl, _⟩ := arg_string u9 h1
  exact law_places b
end Go.Am
