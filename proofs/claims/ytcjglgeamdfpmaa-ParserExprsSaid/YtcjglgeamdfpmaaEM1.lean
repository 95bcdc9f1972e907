/- The reference's small functions; keywords; the text of a text. -/
import Derived.Test.YtcjglgeamdfpmaaEL7
import Derived.KernelRfl
set_option linter.unusedSimpArgs false
set_option linter.unnecessarySimpa false
set_option linter.unusedVariables false
set_option maxRecDepth 10000
namespace Go.Am
open Go Go.Pu

theorem e_rLower (b : UInt8) : acall mach0 n_billingref23_Lower [.int .u8 b.toNat] [] = some (.ret (.bool (lowerB b)) []) := by
  refine acall_fn rfl (af := a_billingref23_Lower) rfl rfl ?_
  by_cases h1 : 97 ≤ b.toNat <;> by_cases h2 : b.toNat ≤ 122
  · simp [List.replicate, go_sem, lowerB, h1, h2, show (97 : Int) ≤ (b.toNat : Int) by omega, show (b.toNat : Int) ≤ 122 by omega]
  · simp [List.replicate, go_sem, lowerB, h1, h2, show (97 : Int) ≤ (b.toNat : Int) by omega, show ¬ (b.toNat : Int) ≤ 122 by omega]
  · simp [List.replicate, go_sem, lowerB, h1, h2, show ¬ (97 : Int) ≤ (b.toNat : Int) by omega, show (b.toNat : Int) ≤ 122 by omega]
  · simp [List.replicate, go_sem, lowerB, h1, h2, show ¬ (97 : Int) ≤ (b.toNat : Int) by omega, show ¬ (b.toNat : Int) ≤ 122 by omega]
theorem e_rDigit (b : UInt8) : acall mach0 n_billingref23_Digit [.int .u8 b.toNat] [] = some (.ret (.bool (digitB b)) []) := by
  refine acall_fn rfl (af := a_billingref23_Digit) rfl rfl ?_
  by_cases h1 : 48 ≤ b.toNat <;> by_cases h2 : b.toNat ≤ 57
  · simp [List.replicate, go_sem, digitB, h1, h2, show (48 : Int) ≤ (b.toNat : Int) by omega, show (b.toNat : Int) ≤ 57 by omega]
  · simp [List.replicate, go_sem, digitB, h1, h2, show (48 : Int) ≤ (b.toNat : Int) by omega, show ¬ (b.toNat : Int) ≤ 57 by omega]
  · simp [List.replicate, go_sem, digitB, h1, h2, show ¬ (48 : Int) ≤ (b.toNat : Int) by omega, show (b.toNat : Int) ≤ 57 by omega]
  · simp [List.replicate, go_sem, digitB, h1, h2, show ¬ (48 : Int) ≤ (b.toNat : Int) by omega, show ¬ (b.toNat : Int) ≤ 57 by omega]
theorem e_inWord (b : UInt8) : acall mach0 n_billingref23_inWord [.int .u8 b.toNat] [] = some (.ret (.bool (wordB b)) []) := by
  refine acall_fn rfl (af := a_billingref23_inWord) rfl rfl ?_
  cases h1 : lowerB b <;> cases h2 : digitB b <;> by_cases h3 : (b.toNat : Int) = 45
  · have hw : wordB b = true := by simp [wordB]; omega
    simp [List.replicate, go_sem, e_rLower, e_rDigit, hw, h1, h2, bt' h3]
  · have hw : wordB b = false := by simp [wordB, h1, h2]; omega
    simp [List.replicate, go_sem, e_rLower, e_rDigit, hw, h1, h2, bf' h3]
  all_goals simp [List.replicate, go_sem, e_rLower, e_rDigit, wordB, h1, h2]
theorem e_inText (b : UInt8) : acall mach0 n_billingref23_inText [.int .u8 b.toNat] [] = some (.ret (.bool (textB b)) []) := by
  refine acall_fn rfl (af := a_billingref23_inText) rfl rfl ?_
  by_cases h1 : (32 : Int) ≤ (b.toNat : Int) <;> by_cases h2 : (b.toNat : Int) ≤ 126 <;> by_cases h3 : (b.toNat : Int) = 34
  · have : textB b = false := by simp [textB]; omega
    simp [List.replicate, go_sem, this, h1, h2, nf' h3]
  · have : textB b = true := by simp [textB]; omega
    simp [List.replicate, go_sem, this, h1, h2, nt' h3]
  all_goals
    have : textB b = false := by simp [textB]; omega
    simp [List.replicate, go_sem, this, h1, h2]

def ssV (l : List (List UInt8)) : List V := l.map V.str
theorem nth_ss {l1 l2 : List (List UInt8)} {x : List UInt8} : nth (ssV (l1 ++ x :: l2)) l1.length = .str x := by
  induction l1 with
  | nil => rfl
  | cons y l1 ih => exact ih

theorem Has_l (s : List UInt8) (o : Bool) : ∀ (l2 l1 : List (List UInt8)), l1.length + l2.length ≤ 1000 →
    Run mach0 (.c billingref23_Has_l1b :: .lp billingref23_Has_l1 :: .endB 0 :: .c billingref23_Has_k1 :: []) .norm ⟨(.sl false 1 (ssV (l1 ++ l2)) :: .str s :: .undef :: .undef :: .undef :: .int .i64 l1.length :: .undef :: .undef :: .undef :: .undef :: .undef :: .undef :: .undef :: .undef :: .undef :: .undef :: .undef :: .undef :: []), []⟩
      (FinQ [.tmp 4] 0 (.ret (.bool (l2.contains s)) []))
  | [], l1, hl => by
    have q : ¬ ((l1.length : Int) < l1.length) := by omega
    unfold billingref23_Has_l1b
    simp [go_sem, ssV, q, billingref23_Has_k1]
    simp [go_sem, billingref23_Has_k1b]
  | x :: l2, l1, hl => by
    simp only [List.length_cons] at hl
    have ih := Has_l s o l2 (l1 ++ [x]) (by simp; omega)
    have q : (l1.length : Int) < l1.length + (l2.length + 1) := by omega
    have w : IntKind.wrap .i64 ((l1.length : Int) + 1) = l1.length + 1 := wrap_i64 (by omega)
    have hn := nth_ss (l1 := l1) (l2 := l2) (x := x)
    have hlen : (ssV (l1 ++ x :: l2)).length = l1.length + (l2.length + 1) := by simp [ssV]
    unfold billingref23_Has_l1b
    by_cases h : x = s
    · subst h
      simp [go_sem, hlen, q, hn]
    · have h' : (x == s) = false := by simpa using h
      have hc : (x :: l2).contains s = l2.contains s := by
        simp [List.contains_cons, Ne.symm h]
      rw [hc]
      simp only [List.append_assoc, List.singleton_append, List.length_append, List.length_cons, List.length_nil, Nat.zero_add] at ih
      simp [go_sem, hlen, q, hn, h', w, -List.contains_eq_mem]
      simpa [-List.contains_eq_mem] using ih

theorem e_Has (l : List (List UInt8)) (s : List UInt8) (hl : l.length ≤ 1000) : acall mach0 n_billingref23_Has [.sl false 1 (ssV l), .str s] [] = some (.ret (.bool (l.contains s)) []) := by
  refine acall_fn rfl (af := a_billingref23_Has) rfl rfl ?_
  have := Has_l s true l [] (by simpa using hl)
  simp [List.replicate, go_sem, -List.contains_eq_mem]
  simpa [-List.contains_eq_mem] using this

theorem e_rKeyword (s : List UInt8) : acall mach0 n_billingref23_Keyword [.str s] [] = some (.ret (.bool (isKw s)) []) := by
  refine acall_fn rfl (af := a_billingref23_Keyword) rfl rfl ?_
  have h := e_Has kws s (by decide)
  simp only [ssV, kws, List.map_cons, List.map_nil] at h
  simp [List.replicate, go_sem, h, isKw, kws, -List.contains_eq_mem]
end Go.Am
