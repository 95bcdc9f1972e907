/- The reference's symbols and its token. -/
import Derived.Test.YtcjglgeamdfpmaaEM5
set_option linter.unusedSimpArgs false
set_option linter.unnecessarySimpa false
set_option linter.unusedVariables false
set_option maxRecDepth 10000
namespace Go.Am
open Go Go.Pu

def syms : List (List UInt8) := [[60, 62], [60, 61], [62, 61], [59], [44], [43], [45], [58], [40], [41], [61], [60], [62], [42], [47], [37]]
def symR (cands : List (List UInt8)) (r : List UInt8) : LR := match cands.find? (fun c => r.take c.length == c) with
  | some c => .ok (.sym c) (r.drop c.length)
  | none => .err 1

theorem toNat_ne {b c : UInt8} (h : ¬ b.toNat = c.toNat) : (b == c) = false := by
  simp only [beq_eq_false_iff_ne, ne_eq]
  intro e
  exact h (by rw [e])

theorem symR_eq (b : UInt8) (l : List UInt8) : symR syms (b :: l) = lexSym b l := by
  unfold lexSym
  by_cases h60 : b.toNat = 60
  · obtain rfl : b = 60 := toNat_eq h60
    rw [if_pos h60]
    cases l with
    | nil => rfl
    | cons c l =>
      simp only
      by_cases hc : c.toNat = 62 ∨ c.toNat = 61
      · rw [if_pos hc]
        rcases hc with hc | hc
        · obtain rfl := toNat_eq hc; rfl
        · obtain rfl := toNat_eq hc; rfl
      · rw [if_neg hc]
        have h1 : ¬ c = 62 := fun h => hc (.inl (by rw [h]; rfl))
        have h2 : ¬ c = 61 := fun h => hc (.inr (by rw [h]; rfl))
        simp [symR, syms, h1, h2]
  · rw [if_neg h60]
    have n60 : ¬ b = 60 := fun h => h60 (by rw [h]; rfl)
    by_cases h62 : b.toNat = 62
    · obtain rfl : b = 62 := toNat_eq h62
      rw [if_pos h62]
      cases l with
      | nil => rfl
      | cons c l =>
        simp only
        by_cases hc : c.toNat = 61
        · rw [if_pos hc]
          obtain rfl := toNat_eq hc; rfl
        · rw [if_neg hc]
          have h2 : ¬ c = 61 := fun h => hc (by rw [h]; rfl)
          simp [symR, syms, h2]
    · rw [if_neg h62]
      have n62 : ¬ b = 62 := fun h => h62 (by rw [h]; rfl)
      by_cases hs : b.toNat ∈ singles
      · rw [if_pos hs]
        simp only [singles, List.mem_cons, List.not_mem_nil, or_false] at hs
        rcases hs with hv | hv | hv | hv | hv | hv | hv | hv | hv | hv | hv <;> (obtain rfl := toNat_eq hv; rfl)
      · rw [if_neg hs]
        simp only [singles, List.mem_cons, List.not_mem_nil, or_false, not_or] at hs
        obtain ⟨a1, a2, a3, a4, a5, a6, a7, a8, a9, a10, a11⟩ := hs
        have i : ∀ {n : UInt8}, ¬ b.toNat = n.toNat → ¬ b = n := fun h e => h (by rw [e])
        simp [symR, syms, n60, n62, i (n := 59) a1, i (n := 44) a2, i (n := 43) a3, i (n := 45) a4, i (n := 58) a5, i (n := 40) a6, i (n := 41) a7, i (n := 61) a8, i (n := 42) a9, i (n := 47) a10, i (n := 37) a11]

theorem e_Symbols : acall mach0 n_billingref23_Symbols [] [] = some (.ret (.sl true 1 (ssV syms)) []) := (acall_iff _).2 ⟨60, by kernel_rfl⟩

theorem take_drop_mid {p r : List UInt8} {n : Nat} : ((p ++ r).take (p.length + n)).drop p.length = r.take n := by
  rw [List.take_length_add_append, List.drop_left']; rfl

theorem rsym_l (p r : List UInt8) (hp : p.length + r.length ≤ 1000000) : ∀ (l2 l1 : List (List UInt8)), l1.length + l2.length ≤ 1000 → (∀ c ∈ l2, c.length ≤ 10) →
    Run mach0 (.c billingref23_symbol_l1b :: .lp billingref23_symbol_l1 :: .endB 0 :: .c billingref23_symbol_k1 :: []) .norm
      ⟨(.str (p ++ r) :: .int .i64 p.length :: .undef :: .undef :: .box [.int .i64 0, .int .i64 0, .int .i64 0, .str []] :: .undef :: .undef :: .sl false 1 (ssV (l1 ++ l2)) :: .int .i64 l1.length :: .undef :: .undef :: .undef :: .undef :: .undef :: .undef :: .undef :: .undef :: .undef :: .undef :: .undef :: .undef :: .undef :: .undef :: .undef :: .undef :: .undef :: .undef :: .undef :: .undef :: .undef :: .undef :: .undef :: .undef :: .undef :: .undef :: .undef :: .undef :: .undef :: .undef :: .undef :: .undef :: .undef :: .undef :: .undef :: .undef :: .undef :: .undef :: .undef :: .undef :: .undef :: .undef :: .undef :: []), []⟩
      (FinQ [.cell 4 (some 4), .tmp 5, .tmp 6] 0 (.ret (rtokV (p ++ r).length p.length (symR l2 r)) []))
  | [], l1, hl, hc => by
    have q : ¬ ((l1.length : Int) < l1.length) := by omega
    unfold billingref23_symbol_l1b
    simp [go_sem, ssV, q, billingref23_symbol_k1]
    simp [go_sem, billingref23_symbol_k1b, symR, rtokV, tokV]
  | x :: l2, l1, hl, hc => by
    simp only [List.length_cons] at hl
    have hx := hc x (by simp)
    have ih := rsym_l p r hp l2 (l1 ++ [x]) (by simp; omega) (fun c h => hc c (by simp [h]))
    have q : (l1.length : Int) < l1.length + (l2.length + 1) := by omega
    have w : IntKind.wrap .i64 ((l1.length : Int) + 1) = l1.length + 1 := wrap_i64 (by omega)
    have w2 : IntKind.wrap .i64 ((p.length : Int) + x.length) = p.length + x.length := wrap_i64 (by omega)
    have hn := nth_ss (l1 := l1) (l2 := l2) (x := x)
    have hlen : (ssV (l1 ++ x :: l2)).length = l1.length + (l2.length + 1) := by simp [ssV]
    have e1 : ((p.length : Int) + (x.length : Int)).toNat = p.length + x.length := by omega
    have e2 := take_drop_mid (p := p) (r := r) (n := x.length)
    have q2 : (p.length : Int) ≤ p.length + x.length := by omega
    by_cases h : r.take x.length = x
    · have hle : x.length ≤ r.length := by
        have := congrArg List.length h
        simp at this; omega
      have q3 : (p.length : Int) + x.length ≤ p.length + r.length := by omega
      have e : symR (x :: l2) r = .ok (.sym x) (r.drop x.length) := by simp [symR, h]
      have e5 : p.length + r.length - (r.length - x.length) = p.length + x.length := by omega
      rw [e]
      unfold billingref23_symbol_l1b
      simp [go_sem, hlen, q, hn, w2, q2, q3, e1, e2, h, rtokV, tokV, Tk.kind, Tk.val, Tk.str, e5]
    · have h' : (r.take x.length == x) = false := by simpa using h
      have e : symR (x :: l2) r = symR l2 r := by simp [symR, h']
      rw [e]
      simp only [List.append_assoc, List.singleton_append, List.length_append, List.length_cons, List.length_nil, Nat.zero_add] at ih
      by_cases hle : x.length ≤ r.length
      · have q3 : (p.length : Int) + x.length ≤ p.length + r.length := by omega
        unfold billingref23_symbol_l1b
        simp [go_sem, hlen, q, hn, w2, q2, q3, e1, e2, h', w]
        simpa using ih
      · have q3 : ¬ (p.length : Int) + x.length ≤ p.length + r.length := by omega
        unfold billingref23_symbol_l1b
        simp [go_sem, hlen, q, hn, w2, q2, q3, w]
        simpa using ih

theorem e_rsymbol (p l : List UInt8) (b : UInt8) (hl : p.length + 1 + l.length ≤ 1000000) : acall mach0 n_billingref23_symbol [.str (p ++ b :: l), .int .i64 p.length] [] = some (.ret (rtokV (p ++ b :: l).length p.length (lexSym b l)) []) := by
  refine acall_fn rfl (af := a_billingref23_symbol) rfl rfl ?_
  have h := rsym_l p (b :: l) (by simp; omega) syms [] (by decide) (by decide)
  rw [symR_eq] at h
  simp [List.replicate, go_sem, e_Symbols]
  simpa using h

theorem rtokV_tup (n k : Nat) (o : LR) : ∃ a b c d x y, rtokV n k o = .tup [.agg [.int .i64 a, .int .i64 b, .int .i64 c, .str d], .int .i64 x, .int .i64 y] := by
  cases o <;> exact ⟨_, _, _, _, _, _, rfl⟩

theorem e_token (p l : List UInt8) (b : UInt8) (hl : p.length + 1 + l.length ≤ 1000000) : acall mach0 n_billingref23_token [.str (p ++ b :: l), .int .i64 p.length] [] = some (.ret (rtokV (p ++ b :: l).length p.length (lexOne b l)) []) := by
  refine acall_fn rfl (af := a_billingref23_token) rfl rfl ?_
  have q : (p.length : Int) < p.length + (l.length + 1) := by omega
  have g := get_mid (p := p) (r := l) (b := b)
  unfold lexOne
  by_cases h1 : lowerB b = true
  · have e := e_rword p (b :: l) (by simp; omega)
    rw [if_pos h1]
    obtain ⟨a, b', c, d, x, y, ht⟩ := rtokV_tup (p ++ b :: l).length p.length (lexWord (b :: l))
    rw [ht] at e ⊢
    simp [List.replicate, go_sem, q, g, e_rLower, h1, e]
  have h1 : lowerB b = false := by simpa using h1
  rw [if_neg (by simp [h1])]
  by_cases h2 : digitB b = true
  · have e := e_rnumber p (b :: l) (by simp; omega)
    rw [if_pos h2]
    obtain ⟨a, b', c, d, x, y, ht⟩ := rtokV_tup (p ++ b :: l).length p.length (lexNum (b :: l))
    rw [ht] at e ⊢
    simp [List.replicate, go_sem, q, g, e_rLower, h1, e_rDigit, h2, e]
  have h2 : digitB b = false := by simpa using h2
  rw [if_neg (by simp [h2])]
  by_cases h3 : b.toNat = 34
  · have hi : (b.toNat : Int) = 34 := by omega
    have e := e_rtext p l b hl
    rw [if_pos h3]
    obtain ⟨a, b', c, d, x, y, ht⟩ := rtokV_tup (p ++ b :: l).length p.length (lexText l)
    rw [ht] at e ⊢
    simp [List.replicate, go_sem, q, g, e_rLower, h1, e_rDigit, h2, bt' hi, e]
  · have hi : ¬ (b.toNat : Int) = 34 := by omega
    have e := e_rsymbol p l b hl
    rw [if_neg h3]
    obtain ⟨a, b', c, d, x, y, ht⟩ := rtokV_tup (p ++ b :: l).length p.length (lexSym b l)
    rw [ht] at e ⊢
    simp [List.replicate, go_sem, q, g, e_rLower, h1, e_rDigit, h2, bf' hi, e]
end Go.Am
