/- The lexer's blanks. -/
import Derived.Test.YtcjglgeamdfpmaaEFt
import Derived.Test.YtcjglgeamdfpmaaEAmD
import Derived.Test.YtcjglgeamdfpmaaEPl
set_option linter.unusedSimpArgs false
set_option linter.unnecessarySimpa false
set_option linter.unusedVariables false
namespace Go.Am
open Go Go.Pu

theorem nt' {a b : Int} (h : ¬ a = b) : (a != b) = true := by simpa using h
theorem nf' {a b : Int} (h : a = b) : (a != b) = false := by simpa using h
theorem bt' {a b : Int} (h : a = b) : (a == b) = true := beq_iff_eq.2 h
theorem bf' {a b : Int} (h : ¬ a = b) : (a == b) = false := by simpa using h

theorem skip_le' (c : Bool) (l : List UInt8) : (skipB c l).length ≤ l.length := skipB_le c l

abbrev hq (x0 x1 x2 : List V) (s : List UInt8) (k : Nat) : Heap := [x0, x1, x2, [.str s, .int .i64 (k : Int)]]
abbrev kB (x0 x1 x2 : List V) (s : List UInt8) (k : Nat) : Ex → St → Prop := FinQ [] 4 (.ret (.tup []) (hq x0 x1 x2 s k))

theorem blanks_l (x0 x1 x2 : List V) : ∀ (r p : List UInt8), p.length + r.length ≤ 65536 →
    Run mach0 (.c lexer_scanner_blanks_l2b :: .lp lexer_scanner_blanks_l2 :: .endB 0 :: []) .norm ⟨(.ptr 3 0 :: .undef :: .undef :: .undef :: .undef :: .undef :: .undef :: .undef :: .undef :: .undef :: .undef :: .undef :: .undef :: .undef :: .undef :: .undef :: .undef :: .undef :: .undef :: .undef :: .undef :: .undef :: .undef :: .undef :: .undef :: .undef :: .undef :: .undef :: .undef :: .undef :: .undef :: .undef :: .undef :: .undef :: .undef :: .undef :: .undef :: .undef :: .undef :: .undef :: .undef :: .undef :: .undef :: .undef :: .undef :: .undef :: .undef :: .undef :: .undef :: .undef :: .undef :: .undef :: .undef :: .undef :: .undef :: .undef :: .undef :: .undef :: .undef :: .undef :: .undef :: .undef :: .undef :: []), hq x0 x1 x2 (p ++ r) p.length⟩ (kB x0 x1 x2 (p ++ r) (p.length + (r.length - (skipB false r).length))) ∧
    Run mach0 (.c lexer_scanner_blanks_l1b :: .lp lexer_scanner_blanks_l1 :: .endB 3 :: .endB 2 :: .endB 1 :: .lp lexer_scanner_blanks_l2 :: .endB 0 :: []) .norm ⟨(.ptr 3 0 :: .undef :: .undef :: .undef :: .undef :: .undef :: .undef :: .undef :: .undef :: .undef :: .undef :: .undef :: .undef :: .undef :: .undef :: .undef :: .undef :: .undef :: .undef :: .undef :: .undef :: .undef :: .undef :: .undef :: .undef :: .undef :: .undef :: .undef :: .undef :: .undef :: .undef :: .undef :: .undef :: .undef :: .undef :: .undef :: .undef :: .undef :: .undef :: .undef :: .undef :: .undef :: .undef :: .undef :: .undef :: .undef :: .undef :: .undef :: .undef :: .undef :: .undef :: .undef :: .undef :: .undef :: .undef :: .undef :: .undef :: .undef :: .undef :: .undef :: .undef :: .undef :: .undef :: []), hq x0 x1 x2 (p ++ r) p.length⟩ (kB x0 x1 x2 (p ++ r) (p.length + (r.length - (skipB true r).length)))
  | [], p, hl => by
    have q : ¬ ((p.length : Int) < p.length) := by omega
    constructor
    · unfold lexer_scanner_blanks_l2b
      simp [go_sem, q, skipB]
    · unfold lexer_scanner_blanks_l1b
      simp [go_sem, q, skipB]
      unfold lexer_scanner_blanks_l2b
      simp [go_sem, q, skipB]
  | b :: l, p, hl => by
    simp only [List.length_cons] at hl
    obtain ⟨i1, i2⟩ := blanks_l x0 x1 x2 l (p ++ [b]) (by simp; omega)
    have w : IntKind.wrap .i64 ((p.length : Int) + 1) = (p.length : Int) + 1 := wrap_i64 (by omega)
    have q : (p.length : Int) < (p.length : Int) + ((l.length : Int) + 1) := by omega
    have h1 := skip_le' false l
    have h2 := skip_le' true l
    simp only [List.append_assoc, List.singleton_append, List.length_append, List.length_cons, List.length_nil, Nat.zero_add] at i1 i2
    have outer : Run mach0 (.c lexer_scanner_blanks_l2b :: .lp lexer_scanner_blanks_l2 :: .endB 0 :: []) .norm ⟨(.ptr 3 0 :: .undef :: .undef :: .undef :: .undef :: .undef :: .undef :: .undef :: .undef :: .undef :: .undef :: .undef :: .undef :: .undef :: .undef :: .undef :: .undef :: .undef :: .undef :: .undef :: .undef :: .undef :: .undef :: .undef :: .undef :: .undef :: .undef :: .undef :: .undef :: .undef :: .undef :: .undef :: .undef :: .undef :: .undef :: .undef :: .undef :: .undef :: .undef :: .undef :: .undef :: .undef :: .undef :: .undef :: .undef :: .undef :: .undef :: .undef :: .undef :: .undef :: .undef :: .undef :: .undef :: .undef :: .undef :: .undef :: .undef :: .undef :: .undef :: .undef :: .undef :: .undef :: .undef :: []), hq x0 x1 x2 (p ++ b :: l) p.length⟩ (kB x0 x1 x2 (p ++ b :: l) (p.length + ((b :: l).length - (skipB false (b :: l)).length))) := by
      unfold lexer_scanner_blanks_l2b
      by_cases hb : blankB b = true
      · have e : skipB false (b :: l) = skipB false l := by rw [skipB, if_pos hb]
        have e3 : p.length + 1 + (l.length - (skipB false l).length) = p.length + (l.length + 1 - (skipB false l).length) := by omega
        rw [e3] at i1
        have hbi : (b.toNat : Int) = 32 ∨ (b.toNat : Int) = 9 ∨ (b.toNat : Int) = 10 := by
          simp [blankB] at hb; omega
        rcases hbi with hbi | hbi | hbi <;> simp [go_sem, q, hbi, e, w] <;> simpa [hq] using i1
      · have h32 : ¬ (b.toNat : Int) = 32 := by intro h; apply hb; simp [blankB]; omega
        have h9 : ¬ (b.toNat : Int) = 9 := by intro h; apply hb; simp [blankB]; omega
        have h10 : ¬ (b.toNat : Int) = 10 := by intro h; apply hb; simp [blankB]; omega
        by_cases h35 : b.toNat = 35
        · have e : skipB false (b :: l) = skipB true l := by rw [skipB, if_neg hb, if_pos h35]
          have e3 : p.length + 1 + (l.length - (skipB true l).length) = p.length + (l.length + 1 - (skipB true l).length) := by omega
          rw [e3] at i2
          have hbi : (b.toNat : Int) = 35 := by omega
          simp [go_sem, q, h32, h9, h10, hbi, e]
          unfold lexer_scanner_blanks_l1b
          simp [go_sem, q, hbi, w]
          simpa [hq] using i2
        · have e : skipB false (b :: l) = b :: l := by rw [skipB, if_neg hb, if_neg h35]
          have hbi : ¬ (b.toNat : Int) = 35 := by omega
          simp [go_sem, q, h32, h9, h10, hbi, e]
    refine ⟨outer, ?_⟩
    unfold lexer_scanner_blanks_l1b
    by_cases hb : b.toNat = 10
    · have e : skipB true (b :: l) = skipB false l := by rw [skipB, if_pos hb]
      have e2 : skipB false (b :: l) = skipB false l := by rw [skipB, if_pos (by simp [blankB, hb])]
      have hbi : (b.toNat : Int) = 10 := by omega
      rw [e2] at outer
      simp [go_sem, q, hbi, e]
      simpa [hq] using outer
    · have e : skipB true (b :: l) = skipB true l := by rw [skipB, if_neg hb]
      have hbi : ¬ (b.toNat : Int) = 10 := by omega
      have e3 : p.length + 1 + (l.length - (skipB true l).length) = p.length + (l.length + 1 - (skipB true l).length) := by omega
      rw [e3] at i2
      simp [go_sem, q, hbi, e, w]
      simpa [hq] using i2

theorem e_blanks (x0 x1 x2 : List V) (p r : List UInt8) (hl : p.length + r.length ≤ 65536) : acall mach0 n_lexer_scanner_blanks [.ptr 3 0] (hq x0 x1 x2 (p ++ r) p.length) = some (.ret (.tup []) (hq x0 x1 x2 (p ++ r) (p.length + (r.length - (skipB false r).length)))) := by
  refine acall_fn rfl (af := a_lexer_scanner_blanks) rfl rfl ?_
  have := (blanks_l x0 x1 x2 r p hl).1
  simp [List.replicate, go_sem]
  simpa [hq, kB] using this

theorem e_lower (b : UInt8) (h : Heap) : acall mach0 n_lexer_lower [.int .u8 b.toNat] h = some (.ret (.bool (lowerB b)) h) := by
  refine acall_fn rfl (af := a_lexer_lower) rfl rfl ?_
  by_cases h1 : 97 ≤ b.toNat <;> by_cases h2 : b.toNat ≤ 122
  · simp [List.replicate, go_sem, lowerB, h1, h2, show (97 : Int) ≤ (b.toNat : Int) by omega, show (b.toNat : Int) ≤ 122 by omega]
  · simp [List.replicate, go_sem, lowerB, h1, h2, show (97 : Int) ≤ (b.toNat : Int) by omega, show ¬ (b.toNat : Int) ≤ 122 by omega]
  · simp [List.replicate, go_sem, lowerB, h1, h2, show ¬ (97 : Int) ≤ (b.toNat : Int) by omega, show (b.toNat : Int) ≤ 122 by omega]
  · simp [List.replicate, go_sem, lowerB, h1, h2, show ¬ (97 : Int) ≤ (b.toNat : Int) by omega, show ¬ (b.toNat : Int) ≤ 122 by omega]
theorem e_digit (b : UInt8) (h : Heap) : acall mach0 n_lexer_digit [.int .u8 b.toNat] h = some (.ret (.bool (digitB b)) h) := by
  refine acall_fn rfl (af := a_lexer_digit) rfl rfl ?_
  by_cases h1 : 48 ≤ b.toNat <;> by_cases h2 : b.toNat ≤ 57
  · simp [List.replicate, go_sem, digitB, h1, h2, show (48 : Int) ≤ (b.toNat : Int) by omega, show (b.toNat : Int) ≤ 57 by omega]
  · simp [List.replicate, go_sem, digitB, h1, h2, show (48 : Int) ≤ (b.toNat : Int) by omega, show ¬ (b.toNat : Int) ≤ 57 by omega]
  · simp [List.replicate, go_sem, digitB, h1, h2, show ¬ (48 : Int) ≤ (b.toNat : Int) by omega, show (b.toNat : Int) ≤ 57 by omega]
  · simp [List.replicate, go_sem, digitB, h1, h2, show ¬ (48 : Int) ≤ (b.toNat : Int) by omega, show ¬ (b.toNat : Int) ≤ 57 by omega]
end Go.Am
