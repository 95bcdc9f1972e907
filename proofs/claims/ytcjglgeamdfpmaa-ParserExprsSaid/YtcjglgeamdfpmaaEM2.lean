/- Keywords and the text of a text, the program's and the reference's; what is skipped; values. -/
import Derived.Test.YtcjglgeamdfpmaaEM1
set_option linter.unusedSimpArgs false
set_option linter.unnecessarySimpa false
set_option linter.unusedVariables false
set_option maxRecDepth 10000
namespace Go.Am
open Go Go.Pu

theorem e_Keyword (s : List UInt8) : acall mach0 n_lexer_Keyword [.str s] [] = some (.ret (.bool (isKw s)) []) := by
  by_cases hs : s ∈ kws
  · have e : isKw s = true := by simpa [isKw] using hs
    rw [e]
    simp only [kws, List.mem_cons, List.not_mem_nil, or_false] at hs
    repeat' (rcases hs with rfl | hs)
    all_goals first
      | exact (acall_iff _).2 ⟨60, by kernel_rfl⟩
      | (subst hs; exact (acall_iff _).2 ⟨60, by kernel_rfl⟩)
  · have e : isKw s = false := by simpa [isKw] using hs
    rw [e]
    simp only [kws, List.mem_cons, List.not_mem_nil, or_false, not_or] at hs
    have hb : ∀ {x : List UInt8}, ¬ s = x → (s == x) = false := fun h => by simpa using h
    obtain ⟨h1, h2, h3, h4, h5, h6, h7, h8, h9, h10, h11, h12, h13, h14, h15, h16, h17, h18, h19, h20, h21, h22, h23, h24, h25, h26, h27, h28, h29, h30, h31, h32, h33, h34, h35, h36, h37, h38, h39⟩ := hs
    refine acall_fn rfl (af := a_lexer_Keyword) rfl rfl ?_
    simp [List.replicate, go_sem, hb h1, hb h2, hb h3, hb h4, hb h5, hb h6, hb h7, hb h8, hb h9, hb h10, hb h11, hb h12, hb h13, hb h14, hb h15, hb h16, hb h17, hb h18, hb h19, hb h20, hb h21, hb h22, hb h23, hb h24, hb h25, hb h26, hb h27, hb h28, hb h29, hb h30, hb h31, hb h32, hb h33, hb h34, hb h35, hb h36, hb h37, hb h38, hb h39]

theorem Quote_l (r : List UInt8) : ∀ (p : List UInt8), p.length + r.length ≤ 200 →
    Run mach0 (.c lexer_Quote_l1b :: .lp lexer_Quote_l1 :: .endB 0 :: .c lexer_Quote_k1 :: []) .norm ⟨(.str (p ++ r) :: .undef :: .undef :: .int .i64 p.length :: .undef :: .undef :: .undef :: .undef :: .undef :: .undef :: .undef :: .undef :: .undef :: .undef :: .undef :: .undef :: .undef :: .undef :: .undef :: .undef :: .undef :: .undef :: .undef :: .undef :: .undef :: .undef :: .undef :: .undef :: .undef :: .undef :: .undef :: .undef :: []), []⟩
      (FinQ [.tmp 2] 0 (.ret (.str (if r.all textB then 34 :: ((p ++ r) ++ [34]) else [])) [])) := by
  induction r with
  | nil =>
    intro p hl
    have q : ¬ ((p.length : Int) < p.length) := by omega
    have q1 : 1 + p.length ≤ 9223372036854775807 := by simp at hl; omega
    have q2 : p.length + 1 + 1 ≤ 9223372036854775807 := by simp at hl; omega
    unfold lexer_Quote_l1b
    simp [go_sem, q, lexer_Quote_k1]
    simp [go_sem, lexer_Quote_k1b, q1, q2]
  | cons b r ih =>
    intro p hl
    simp only [List.length_cons] at hl
    have ih := ih (p ++ [b]) (by simp; omega)
    simp only [List.append_assoc, List.singleton_append, List.length_append, List.length_cons, List.length_nil, Nat.zero_add] at ih
    have q : (p.length : Int) < p.length + (r.length + 1) := by omega
    have w : IntKind.wrap .i64 ((p.length : Int) + 1) = p.length + 1 := wrap_i64 (by omega)
    have g := get_mid (p := p) (r := r) (b := b)
    unfold lexer_Quote_l1b
    by_cases h1 : (b.toNat : Int) < 32
    · have ht : textB b = false := by simp [textB]; omega
      simp [go_sem, q, g, h1, ht]
    · by_cases h2 : (126 : Int) < (b.toNat : Int)
      · have ht : textB b = false := by simp [textB]; omega
        simp [go_sem, q, g, h1, h2, ht]
      · by_cases h3 : (b.toNat : Int) = 34
        · have ht : textB b = false := by simp [textB]; omega
          simp [go_sem, q, g, h1, h2, bt' h3, ht]
        · have ht : textB b = true := by simp [textB]; omega
          simp only [List.all_cons, ht, Bool.true_and]
          simp [go_sem, q, g, h1, h2, bf' h3, w]
          simpa using ih

theorem e_Quote (s : List UInt8) (hl : s.length ≤ 1000000) : acall mach0 n_lexer_Quote [.str s] [] = some (.ret (.str (quote s)) []) := by
  refine acall_fn rfl (af := a_lexer_Quote) rfl rfl ?_
  by_cases h : s.length ≤ 200
  · have h' : ¬ (200 : Int) < s.length := by omega
    have := Quote_l s [] (by simpa using h)
    simp [List.replicate, go_sem, h']
    simpa [quote, h] using this
  · have h' : (200 : Int) < s.length := by omega
    have e : quote s = [] := by simp [quote, h]
    rw [e]
    simp [List.replicate, go_sem, h']

theorem rQuote_l (r : List UInt8) : ∀ (p : List UInt8), p.length + r.length ≤ 1000000 →
    Run mach0 (.c billingref23_Quote_l1b :: .lp billingref23_Quote_l1 :: .endB 0 :: .c billingref23_Quote_k1 :: []) .norm ⟨(.str (p ++ r) :: .undef :: .undef :: .int .i64 p.length :: .undef :: .undef :: .undef :: .undef :: .undef :: .undef :: .undef :: .undef :: .undef :: .undef :: .undef :: .undef :: .undef :: .undef :: .undef :: .undef :: .undef :: []), []⟩
      (FinQ [.tmp 2] 0 (.ret (.str (if r.all textB && decide ((p ++ r).length ≤ 200) then 34 :: ((p ++ r) ++ [34]) else [])) [])) := by
  induction r with
  | nil =>
    intro p hl
    have q : ¬ ((p.length : Int) < p.length) := by omega
    simp at hl
    unfold billingref23_Quote_l1b
    by_cases h : p.length ≤ 200
    · have h' : ¬ (200 : Int) < p.length := by omega
      simp [go_sem, q, billingref23_Quote_k1, h]
      have q1 : 1 + p.length ≤ 9223372036854775807 := by omega
      have q2 : p.length + 1 + 1 ≤ 9223372036854775807 := by omega
      simp [go_sem, billingref23_Quote_k1b, h', q1, q2]
    · have h' : (200 : Int) < p.length := by omega
      simp [go_sem, q, billingref23_Quote_k1, h]
      simp [go_sem, billingref23_Quote_k1b, h']
  | cons b r ih =>
    intro p hl
    simp only [List.length_cons] at hl
    have ih := ih (p ++ [b]) (by simp; omega)
    simp only [List.append_assoc, List.singleton_append, List.length_append, List.length_cons, List.length_nil, Nat.zero_add] at ih
    have q : (p.length : Int) < p.length + (r.length + 1) := by omega
    have w : IntKind.wrap .i64 ((p.length : Int) + 1) = p.length + 1 := wrap_i64 (by omega)
    have g := get_mid (p := p) (r := r) (b := b)
    unfold billingref23_Quote_l1b
    cases ht : textB b with
    | false => simp [go_sem, q, g, e_inText, ht]
    | true =>
      simp only [List.all_cons, ht, Bool.true_and, List.length_append, List.length_cons]
      simp [go_sem, q, g, e_inText, ht, w]
      simpa using ih

theorem e_rQuote (s : List UInt8) (hl : s.length ≤ 1000000) : acall mach0 n_billingref23_Quote [.str s] [] = some (.ret (.str (quote s)) []) := by
  refine acall_fn rfl (af := a_billingref23_Quote) rfl rfl ?_
  have := rQuote_l s [] (by simpa using hl)
  simp [List.replicate, go_sem]
  simpa [quote] using this
end Go.Am
