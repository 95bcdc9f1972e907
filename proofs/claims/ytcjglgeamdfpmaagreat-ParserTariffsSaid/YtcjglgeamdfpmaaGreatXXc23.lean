/- The lexer's blanks. -/
import Derived.Test.YtcjglgeamdfpmaaGreatXFt
import Derived.Test.YtcjglgeamdfpmaaGreatXAmD
import Derived.Test.YtcjglgeamdfpmaaGreatXXpure
import Derived.KernelRfl
set_option linter.unusedSimpArgs false
set_option linter.unnecessarySimpa false
set_option linter.unusedVariables false
namespace Go.Am
open Go Go.Pu
theorem nt' {a b : Int} (h : ¬ a = b) : (a != b) = true := by simpa using h
theorem nf' {a b : Int} (h : a = b) : (a != b) = false := by simpa using h
theorem bt' {a b : Int} (h : a = b) : (a == b) = true := beq_iff_eq.2 h
theorem bf' {a b : Int} (h : ¬ a = b) : (a == b) = false := by simpa using h
theorem skip_le' (c : Bool) (l : List UInt8) : (skipB c l).length ≤ l.length := skipB_le c l
abbrev hq (x0 x1 x2 : List V) (s : List UInt8) (k : Nat) : Heap := [x0, x1, x2, [.str s, .int .i64 (k : Int)]]
abbrev kB (x0 x1 x2 : List V) (s : List UInt8) (k : Nat) : Ex → St → Prop := FinQ [] 4 (.ret (.tup []) (hq x0 x1 x2 s k))
theorem blanks_l (x0 x1 x2 : List V) : ∀ (r p : List UInt8), p.length + r.length ≤ 65536 →
  Run mach0 (.c lexer_scanner_blanks_l2b :: .lp lexer_scanner_blanks_l2 :: .endB 0 :: []) .norm ⟨(.ptr 3 0 :: .undef :: .undef :: .undef :: .undef :: .undef :: .undef :: .undef :: .undef :: .undef :: .undef :: .undef :: .undef :: .undef :: .undef :: .undef :: .undef :: .undef :: .undef :: .undef :: .undef :: .undef :: .undef :: .undef :: .undef :: .undef :: .undef :: .undef :: .undef :: .undef :: .undef :: .undef :: .undef :: .undef :: .undef :: .undef :: .undef :: .undef :: .undef :: .undef :: .undef :: .undef :: .undef :: .undef :: .undef :: .undef :: .undef :: .undef :: .undef :: .undef :: .undef :: .undef :: .undef :: .undef :: .undef :: .undef :: .undef :: .undef :: .undef :: .undef :: .undef :: .undef :: .undef :: []), hq x0 x1 x2 (p ++ r) p.length⟩ (kB x0 x1 x2 (p ++ r) (p.length + (r.length - (skipB false r).length))) ∧
  Run mach0 (.c lexer_scanner_blanks_l1b :: .lp lexer_scanner_blanks_l1 :: .endB 3 :: .endB 2 :: .endB 1 :: .lp lexer_scanner_blanks_l2 :: .endB 0 :: []) .norm ⟨(.ptr 3 0 :: .undef :: .undef :: .undef :: .undef :: .undef :: .undef :: .undef :: .undef :: .undef :: .undef :: .undef :: .undef :: .undef :: .undef :: .undef :: .undef :: .undef :: .undef :: .undef :: .undef :: .undef :: .undef :: .undef :: .undef :: .undef :: .undef :: .undef :: .undef :: .undef :: .undef :: .undef :: .undef :: .undef :: .undef :: .undef :: .undef :: .undef :: .undef :: .undef :: .undef :: .undef :: .undef :: .undef :: .undef :: .undef :: .undef :: .undef :: .undef :: .undef :: .undef :: .undef :: .undef :: .undef :: .undef :: .undef :: .undef :: .undef :: .undef :: .undef :: .undef :: .undef :: .undef :: []), hq x0 x1 x2 (p ++ r) p.length⟩ (kB x0 x1 x2 (p ++ r) (p.length + (r.length - (skipB true r).length)))
 | [], p, hl => by
  have q : ¬ ((p.length : Int) < p.length) := by omega
  constructor
  ·unfold lexer_scanner_blanks_l2b
   simp [go_sem, q, skipB]
  ·unfold lexer_scanner_blanks_l1b
   simp [go_sem, q, skipB]
   unfold lexer_scanner_blanks_l2b
   simp [go_sem, q, skipB]
 | b :: l, p, hl => by
  simp only [List.length_cons] at hl
  obtain ⟨i1, i2⟩ := blanks_l x0 x1 x2 l (p ++ [b]) (by simp; omega)
  have w : IntKind.wrap .i64 ((p.length : Int) + 1) = (p.length : Int) + 1 := wrap_i64 (by omega)
  have q : (p.length : Int) < (p.length : Int) + ((l.length : Int) + 1) := by omega
  have h1 := skip_le' false l
  have h2 := skip_le' true l
  simp only [List.append_assoc, List.singleton_append, List.length_append, List.length_cons, List.length_nil, Nat.zero_add] at i1 i2
  have outer : Run mach0 (.c lexer_scanner_blanks_l2b :: .lp lexer_scanner_blanks_l2 :: .endB 0 :: []) .norm ⟨(.ptr 3 0 :: .undef :: .undef :: .undef :: .undef :: .undef :: .undef :: .undef :: .undef :: .undef :: .undef :: .undef :: .undef :: .undef :: .undef :: .undef :: .undef :: .undef :: .undef :: .undef :: .undef :: .undef :: .undef :: .undef :: .undef :: .undef :: .undef :: .undef :: .undef :: .undef :: .undef :: .undef :: .undef :: .undef :: .undef :: .undef :: .undef :: .undef :: .undef :: .undef :: .undef :: .undef :: .undef :: .undef :: .undef :: .undef :: .undef :: .undef :: .undef :: .undef :: .undef :: .undef :: .undef :: .undef :: .undef :: .undef :: .undef :: .undef :: .undef :: .undef :: .undef :: .undef :: .undef :: []), hq x0 x1 x2 (p ++ b :: l) p.length⟩ (kB x0 x1 x2 (p ++ b :: l) (p.length + ((b :: l).length - (skipB false (b :: l)).length))) := by
   unfold lexer_scanner_blanks_l2b
   by_cases hb : blankB b = true
   ·have e : skipB false (b :: l) = skipB false l := by rw [skipB, if_pos hb]
    have e3 : p.length + 1 + (l.length - (skipB false l).length) = p.length + (l.length + 1 - (skipB false l).length) := by omega
    rw [e3] at i1
    have hbi : (b.toNat : Int) = 32 ∨ (b.toNat : Int) = 9 ∨ (b.toNat : Int) = 10 := by
     simp [blankB] at hb; omega
    rcases hbi with hbi | hbi | hbi <;> simp [go_sem, q, hbi, e, w] <;> simpa [hq] using i1
   ·have h32 : ¬ (b.toNat : Int) = 32 := by intro h; apply hb; simp [blankB]; omega
    have h9 : ¬ (b.toNat : Int) = 9 := by intro h; apply hb; simp [blankB]; omega
    have h10 : ¬ (b.toNat : Int) = 10 := by intro h; apply hb; simp [blankB]; omega
    by_cases h35 : b.toNat = 35
    ·have e : skipB false (b :: l) = skipB true l := by rw [skipB, if_neg hb, if_pos h35]
     have e3 : p.length + 1 + (l.length - (skipB true l).length) = p.length + (l.length + 1 - (skipB true l).length) := by omega
     rw [e3] at i2
     have hbi : (b.toNat : Int) = 35 := by omega
     simp [go_sem, q, h32, h9, h10, hbi, e]
     unfold lexer_scanner_blanks_l1b
     simp [go_sem, q, hbi, w]
     simpa [hq] using i2
    ·have e : skipB false (b :: l) = b :: l := by rw [skipB, if_neg hb, if_neg h35]
     have hbi : ¬ (b.toNat : Int) = 35 := by omega
     simp [go_sem, q, h32, h9, h10, hbi, e]
  refine ⟨outer, ?_⟩
  unfold lexer_scanner_blanks_l1b
  by_cases hb : b.toNat = 10
  ·have e : skipB true (b :: l) = skipB false l := by rw [skipB, if_pos hb]
   have e2 : skipB false (b :: l) = skipB false l := by rw [skipB, if_pos (by simp [blankB, hb])]
   have hbi : (b.toNat : Int) = 10 := by omega
   rw [e2] at outer
   simp [go_sem, q, hbi, e]
   simpa [hq] using outer
  ·have e : skipB true (b :: l) = skipB true l := by rw [skipB, if_neg hb]
   have hbi : ¬ (b.toNat : Int) = 10 := by omega
   have e3 : p.length + 1 + (l.length - (skipB true l).length) = p.length + (l.length + 1 - (skipB true l).length) := by omega
   rw [e3] at i2
   simp [go_sem, q, hbi, e, w]
   simpa [hq] using i2
theorem e_blanks (x0 x1 x2 : List V) (p r : List UInt8) (hl : p.length + r.length ≤ 65536) : acall mach0 n_lexer_scanner_blanks [.ptr 3 0] (hq x0 x1 x2 (p ++ r) p.length) = some (.ret (.tup []) (hq x0 x1 x2 (p ++ r) (p.length + (r.length - (skipB false r).length)))) := by
 refine acall_fn rfl (af := a_lexer_scanner_blanks) rfl rfl ?_
 have := (blanks_l x0 x1 x2 r p hl).1
 simp [List.replicate, go_sem]
 simpa [hq, kB] using this
theorem e_lower (b : UInt8) (h : Heap) : acall mach0 n_lexer_lower [.int .u8 b.toNat] h = some (.ret (.bool (lowerB b)) h) := by
 refine acall_fn rfl (af := a_lexer_lower) rfl rfl ?_
 by_cases h1 : 97 ≤ b.toNat <;> by_cases h2 : b.toNat ≤ 122
 ·simp [List.replicate, go_sem, lowerB, h1, h2, show (97 : Int) ≤ (b.toNat : Int) by omega, show (b.toNat : Int) ≤ 122 by omega]
 ·simp [List.replicate, go_sem, lowerB, h1, h2, show (97 : Int) ≤ (b.toNat : Int) by omega, show ¬ (b.toNat : Int) ≤ 122 by omega]
 ·simp [List.replicate, go_sem, lowerB, h1, h2, show ¬ (97 : Int) ≤ (b.toNat : Int) by omega, show (b.toNat : Int) ≤ 122 by omega]
 ·simp [List.replicate, go_sem, lowerB, h1, h2, show ¬ (97 : Int) ≤ (b.toNat : Int) by omega, show ¬ (b.toNat : Int) ≤ 122 by omega]
theorem e_digit (b : UInt8) (h : Heap) : acall mach0 n_lexer_digit [.int .u8 b.toNat] h = some (.ret (.bool (digitB b)) h) := by
 refine acall_fn rfl (af := a_lexer_digit) rfl rfl ?_
 by_cases h1 : 48 ≤ b.toNat <;> by_cases h2 : b.toNat ≤ 57
 ·simp [List.replicate, go_sem, digitB, h1, h2, show (48 : Int) ≤ (b.toNat : Int) by omega, show (b.toNat : Int) ≤ 57 by omega]
 ·simp [List.replicate, go_sem, digitB, h1, h2, show (48 : Int) ≤ (b.toNat : Int) by omega, show ¬ (b.toNat : Int) ≤ 57 by omega]
 ·simp [List.replicate, go_sem, digitB, h1, h2, show ¬ (48 : Int) ≤ (b.toNat : Int) by omega, show (b.toNat : Int) ≤ 57 by omega]
 ·simp [List.replicate, go_sem, digitB, h1, h2, show ¬ (48 : Int) ≤ (b.toNat : Int) by omega, show ¬ (b.toNat : Int) ≤ 57 by omega]
end Go.Am
namespace Go.Am
open Go Go.Pu
def tokV (k n p : Int) (s : List UInt8) : V := .agg [.int .i64 k, .int .i64 n, .int .i64 p, .str s]
def failV (p e : Int) : V := .ifc 66 (.agg [.int .i64 p, .int .i64 e])
theorem e_fail (p e : Int) (h : Heap) : acall mach0 n_lexer_fail [.int .i64 p, .int .i64 e] h = some (.pan (failV p e) h) := by
 refine acall_fn rfl (af := a_lexer_fail) rfl rfl ?_
 simp [List.replicate, go_sem, failV]
theorem get_mid {p r : List UInt8} {b : UInt8} : (p ++ b :: r)[p.length]?.getD 0 = b := by simp
theorem slice_mid {p w r : List UInt8} : ((p ++ (w ++ r)).take (p.length + w.length)).drop p.length = w := by
 rw [List.take_length_add_append, List.take_left', List.drop_left'] <;> simp
def wordRt (x0 x1 x2 : List V) (s : List UInt8) (k : Nat) (w : List UInt8) : Rt :=
 if w.length > 24 then .pan (failV k 5) (hq x0 x1 x2 s (k + w.length)) else .ret (tokV 1 0 k w) (hq x0 x1 x2 s (k + w.length))
theorem word_l (x0 x1 x2 : List V) (p : List UInt8) : ∀ (r w : List UInt8), p.length + w.length + r.length ≤ 65536 →
    Run mach0 (.c lexer_scanner_word_l1b :: .lp lexer_scanner_word_l1 :: .endB 0 :: .c lexer_scanner_word_k1 :: []) .norm
      ⟨(.ptr 3 0 :: .undef :: .box [.int .i64 0, .int .i64 0, .int .i64 0, .str []] :: .int .i64 p.length :: .undef :: .undef :: .undef :: .undef :: .undef :: .undef :: .undef :: .undef :: .undef :: .undef :: .undef :: .undef :: .undef :: .undef :: .undef :: .undef :: .undef :: .undef :: .undef :: .undef :: .undef :: .undef :: .undef :: .undef :: .undef :: .undef :: .undef :: .undef :: .undef :: .undef :: .undef :: .undef :: .undef :: .undef :: .undef :: .undef :: .undef :: .undef :: .undef :: .undef :: .undef :: .undef :: .undef :: .undef :: .undef :: .undef :: .undef :: .undef :: .undef :: .undef :: .undef :: .undef :: .undef :: .undef :: .undef :: .undef :: .undef :: .undef :: .undef :: .undef :: .undef :: .undef :: .undef :: .undef :: .undef :: .undef :: .undef :: .undef :: .undef :: .undef :: .undef :: .undef :: .undef :: .undef :: .undef :: .undef :: .undef :: .undef :: []), hq x0 x1 x2 (p ++ (w ++ r)) (p.length + w.length)⟩
      (FinQ [.cell 2 (some 4)] 4 (wordRt x0 x1 x2 (p ++ (w ++ r)) p.length (w ++ r.takeWhile wordB))) := by
  have fin : ∀ (w r : List UInt8), p.length + w.length + r.length ≤ 65536 → Run mach0 [.c lexer_scanner_word_k1b] .norm ⟨(.ptr 3 0 :: .undef :: .box [.int .i64 0, .int .i64 0, .int .i64 0, .str []] :: .int .i64 p.length :: .undef :: .undef :: .undef :: .undef :: .undef :: .undef :: .undef :: .undef :: .undef :: .undef :: .undef :: .undef :: .undef :: .undef :: .undef :: .undef :: .undef :: .undef :: .undef :: .undef :: .undef :: .undef :: .undef :: .undef :: .undef :: .undef :: .undef :: .undef :: .undef :: .undef :: .undef :: .undef :: .undef :: .undef :: .undef :: .undef :: .undef :: .undef :: .undef :: .undef :: .undef :: .undef :: .undef :: .undef :: .undef :: .undef :: .undef :: .undef :: .undef :: .undef :: .undef :: .undef :: .undef :: .undef :: .undef :: .undef :: .undef :: .undef :: .undef :: .undef :: .undef :: .undef :: .undef :: .undef :: .undef :: .undef :: .undef :: .undef :: .undef :: .undef :: .undef :: .undef :: .undef :: .undef :: .undef :: .undef :: .undef :: .undef :: []), hq x0 x1 x2 (p ++ (w ++ r)) (p.length + w.length)⟩
      (FinQ [.cell 2 (some 4)] 4 (wordRt x0 x1 x2 (p ++ (w ++ r)) p.length w)) := by
    intro w r hl
    have w1 : IntKind.wrap .i64 ((p.length : Int) + w.length - p.length) = w.length := by rw [wrap_i64 (by omega)]; omega
    unfold lexer_scanner_word_k1b wordRt
    by_cases h : w.length > 24
    · have h' : (24 : Int) < w.length := by omega
      simp [go_sem, w1, h, h', e_fail]
      simp [failV, go_sem]
    · have h' : ¬ (24 : Int) < w.length := by omega
      have q1 : (p.length : Int) ≤ (p.length : Int) + w.length := by omega
      have q2 : (p.length : Int) + w.length ≤ (p.length : Int) + (w.length + r.length) := by omega
      have e1 : ((p.length : Int) + (w.length : Int)).toNat = p.length + w.length := by omega
      have e2 := slice_mid (p := p) (w := w) (r := r)
      simp [go_sem, w1, h, h', q1, q2, e1]
      rw [e2]; rfl
  intro r
  induction r with
  | nil =>
    intro w hl
    have f := fin w [] hl
    have q : ¬ ((p.length : Int) + w.length < p.length + w.length) := by omega
    unfold lexer_scanner_word_l1b
    simp [go_sem, lexer_scanner_word_k1, q]
    simpa [hq] using f
  | cons b r ih =>
    intro w hl
    simp only [List.length_cons] at hl
    have f := fin w (b :: r) (by simp; omega)
    have ih := ih (w ++ [b]) (by simp; omega)
    have q : (p.length : Int) + w.length < (p.length : Int) + (w.length + (r.length + 1)) := by omega
    have e1 : ((p.length : Int) + (w.length : Int)).toNat = p.length + w.length := by omega
    have g : (p ++ (w ++ b :: r))[p.length + w.length]?.getD 0 = b := by rw [← List.append_assoc, ← List.length_append]; exact get_mid
    have pos : (0 : Int) ≤ (p.length : Int) + w.length := by omega
    have wr : IntKind.wrap .i64 ((p.length : Int) + w.length + 1) = (p.length : Int) + (w.length + 1) := by rw [wrap_i64 (by omega)]; omega
    simp only [List.append_assoc, List.singleton_append, List.length_append, List.length_cons, List.length_nil, Nat.zero_add] at ih
    by_cases h1 : lowerB b = true
    · have e : (b :: r).takeWhile wordB = b :: r.takeWhile wordB := List.takeWhile_cons_of_pos (by simp [wordB, h1])
      unfold lexer_scanner_word_l1b
      simp [go_sem, q, e1, g, pos, e_lower, e_digit, h1, wr, e]
      simpa [hq] using ih
    · have h1 : lowerB b = false := by simpa using h1
      by_cases h2 : digitB b = true
      · have e : (b :: r).takeWhile wordB = b :: r.takeWhile wordB := List.takeWhile_cons_of_pos (by simp [wordB, h2])
        unfold lexer_scanner_word_l1b
        simp [go_sem, q, e1, g, pos, e_lower, e_digit, h1, h2, wr, e]
        simpa [hq] using ih
      · have h2 : digitB b = false := by simpa using h2
        by_cases h3 : (b.toNat : Int) = 45
        · have e : (b :: r).takeWhile wordB = b :: r.takeWhile wordB := List.takeWhile_cons_of_pos (by simp [wordB]; omega)
          unfold lexer_scanner_word_l1b
          simp [go_sem, q, e1, g, pos, e_lower, e_digit, h1, h2, bt' h3, wr, e]
          simpa [hq] using ih
        · have e : (b :: r).takeWhile wordB = [] := List.takeWhile_cons_of_neg (by simp [wordB, h1, h2]; omega)
          unfold lexer_scanner_word_l1b
          simp [go_sem, q, e1, g, pos, e_lower, e_digit, h1, h2, h3, wr, e, lexer_scanner_word_k1]
          simpa [hq] using f
theorem e_word (x0 x1 x2 : List V) (p r : List UInt8) (hl : p.length + r.length ≤ 65536) : acall mach0 n_lexer_scanner_word [.ptr 3 0] (hq x0 x1 x2 (p ++ r) p.length) = some (wordRt x0 x1 x2 (p ++ r) p.length (r.takeWhile wordB)) := by
 refine acall_fn rfl (af := a_lexer_scanner_word) rfl rfl ?_
 have := word_l x0 x1 x2 p r [] (by simpa using hl)
 simp only [List.nil_append, List.length_nil, Nat.add_zero] at this
 simp [List.replicate, go_sem]
 simpa [hq] using this
end Go.Am
namespace Go.Am
open Go Go.Pu
theorem valF_snoc : ∀ (k n : Nat) (w : List UInt8) (b : UInt8), valF k n (w ++ [b]) = if w.length < k then 10 * valF k n w + (b.toNat - 48) else valF k n w
 | 0, n, w, b => by simp [valF]
 | k + 1, n, [], b => by simp [valF]; cases k <;> rfl
 | k + 1, n, c :: w, b => by
  simp only [List.cons_append, valF, valF_snoc k _ w b, List.length_cons, Nat.add_lt_add_iff_right]
theorem valF_lt : ∀ (k n m : Nat) (w : List UInt8), w.all digitB = true → n < 10 ^ m → valF k n w < 10 ^ (m + k)
 | 0, n, m, w, _, h => by simpa [valF] using h
 | k + 1, n, m, [], _, h => by
  simp only [valF]
  exact Nat.lt_of_lt_of_le h (Nat.pow_le_pow_right (by omega) (by omega))
 | k + 1, n, m, b :: w, hw, h => by
  simp only [List.all_cons, Bool.and_eq_true] at hw
  have hb : b.toNat - 48 < 10 := by have := hw.1; simp [digitB] at this; omega
  have := valF_lt k (10 * n + (b.toNat - 48)) (m + 1) w hw.2 (by rw [Nat.pow_succ]; omega)
  simp only [valF]
  have e : m + 1 + k = m + (k + 1) := by omega
  rw [e] at this
  exact this
theorem value_lt {w : List UInt8} (h : w.all digitB = true) : value w < 10000000000000000 := by
 have := valF_lt 16 0 0 w h (by decide)
 simpa [value] using this
def numRt (x0 x1 x2 : List V) (s : List UInt8) (k : Nat) (w rest : List UInt8) : Rt :=
 if w.length > 16 then .pan (failV k 5) (hq x0 x1 x2 s (k + w.length)) else if headIs lowerB rest then .pan (failV k 1) (hq x0 x1 x2 s (k + w.length)) else .ret (tokV 2 (value w) k w) (hq x0 x1 x2 s (k + w.length))
theorem number_l (x0 x1 x2 : List V) (p : List UInt8) : ∀ (r w : List UInt8), p.length + w.length + r.length ≤ 65536 → w.all digitB = true →
    Run mach0 (.c lexer_scanner_number_l1b :: .lp lexer_scanner_number_l1 :: .endB 0 :: .c lexer_scanner_number_k1 :: []) .norm
      ⟨(.ptr 3 0 :: .undef :: .box [.int .i64 0, .int .i64 0, .int .i64 0, .str []] :: .int .i64 p.length :: .int .i64 (value w) :: .undef :: .undef :: .undef :: .undef :: .undef :: .undef :: .undef :: .undef :: .undef :: .undef :: .undef :: .undef :: .undef :: .undef :: .undef :: .undef :: .undef :: .undef :: .undef :: .undef :: .undef :: .undef :: .undef :: .undef :: .undef :: .undef :: .undef :: .undef :: .undef :: .undef :: .undef :: .undef :: .undef :: .undef :: .undef :: .undef :: .undef :: .undef :: .undef :: .undef :: .undef :: .undef :: .undef :: .undef :: .undef :: .undef :: .undef :: .undef :: .undef :: .undef :: .undef :: .undef :: .undef :: .undef :: .undef :: .undef :: .undef :: .undef :: .undef :: .undef :: .undef :: .undef :: .undef :: .undef :: .undef :: .undef :: .undef :: .undef :: .undef :: .undef :: .undef :: .undef :: .undef :: .undef :: .undef :: .undef :: .undef :: .undef :: .undef :: .undef :: .undef :: .undef :: .undef :: .undef :: .undef :: .undef :: .undef :: .undef :: .undef :: .undef :: .undef :: .undef :: .undef :: .undef :: .undef :: .undef :: .undef :: .undef :: .undef :: .undef :: []), hq x0 x1 x2 (p ++ (w ++ r)) (p.length + w.length)⟩
      (FinQ [.cell 2 (some 4)] 4 (numRt x0 x1 x2 (p ++ (w ++ r)) p.length (w ++ r.takeWhile digitB) (r.dropWhile digitB))) := by
  have fin : ∀ (w r : List UInt8), p.length + w.length + r.length ≤ 65536 → Run mach0 [.c lexer_scanner_number_k1b] .norm ⟨(.ptr 3 0 :: .undef :: .box [.int .i64 0, .int .i64 0, .int .i64 0, .str []] :: .int .i64 p.length :: .int .i64 (value w) :: .undef :: .undef :: .undef :: .undef :: .undef :: .undef :: .undef :: .undef :: .undef :: .undef :: .undef :: .undef :: .undef :: .undef :: .undef :: .undef :: .undef :: .undef :: .undef :: .undef :: .undef :: .undef :: .undef :: .undef :: .undef :: .undef :: .undef :: .undef :: .undef :: .undef :: .undef :: .undef :: .undef :: .undef :: .undef :: .undef :: .undef :: .undef :: .undef :: .undef :: .undef :: .undef :: .undef :: .undef :: .undef :: .undef :: .undef :: .undef :: .undef :: .undef :: .undef :: .undef :: .undef :: .undef :: .undef :: .undef :: .undef :: .undef :: .undef :: .undef :: .undef :: .undef :: .undef :: .undef :: .undef :: .undef :: .undef :: .undef :: .undef :: .undef :: .undef :: .undef :: .undef :: .undef :: .undef :: .undef :: .undef :: .undef :: .undef :: .undef :: .undef :: .undef :: .undef :: .undef :: .undef :: .undef :: .undef :: .undef :: .undef :: .undef :: .undef :: .undef :: .undef :: .undef :: .undef :: .undef :: .undef :: .undef :: .undef :: .undef :: []), hq x0 x1 x2 (p ++ (w ++ r)) (p.length + w.length)⟩
      (FinQ [.cell 2 (some 4)] 4 (numRt x0 x1 x2 (p ++ (w ++ r)) p.length w r)) := by
    intro w r hl
    have w1 : IntKind.wrap .i64 ((p.length : Int) + w.length - p.length) = w.length := by rw [wrap_i64 (by omega)]; omega
    have q1 : (p.length : Int) ≤ (p.length : Int) + w.length := by omega
    have q2 : (p.length : Int) + w.length ≤ (p.length : Int) + (w.length + r.length) := by omega
    have e1 : ((p.length : Int) + (w.length : Int)).toNat = p.length + w.length := by omega
    have e2 := slice_mid (p := p) (w := w) (r := r)
    unfold lexer_scanner_number_k1b numRt
    by_cases h : w.length > 16
    · have h' : (16 : Int) < w.length := by omega
      simp [go_sem, w1, h, h', e_fail]
      simp [failV, go_sem]
    · have h' : ¬ (16 : Int) < w.length := by omega
      cases r with
      | nil =>
        have q : ¬ ((p.length : Int) + w.length < p.length + w.length) := by omega
        simp only [List.append_nil] at e2
        simp [go_sem, w1, h, h', q1, e1, q, headIs]
        rw [List.take_of_length_le (by simp)]
        simp [tokV]
      | cons b r =>
        have q : (p.length : Int) + w.length < (p.length : Int) + (w.length + (r.length + 1)) := by omega
        have g : (p ++ (w ++ b :: r))[p.length + w.length]?.getD 0 = b := by rw [← List.append_assoc, ← List.length_append]; exact get_mid
        have pos : (0 : Int) ≤ (p.length : Int) + w.length := by omega
        by_cases hb : lowerB b = true
        · simp [go_sem, w1, h, h', q, e1, g, pos, e_lower, hb, headIs, e_fail]
          simp [failV, go_sem]
        · have hb : lowerB b = false := by simpa using hb
          simp at q2
          simp [go_sem, w1, h, h', q, q1, q2, e1, g, pos, e_lower, hb, headIs, e_fail]
          rw [e2]; rfl
  intro r
  induction r with
  | nil =>
    intro w hl hw
    have f := fin w [] hl
    have q : ¬ ((p.length : Int) + w.length < p.length + w.length) := by omega
    unfold lexer_scanner_number_l1b
    simp [go_sem, lexer_scanner_number_k1, q]
    simpa [hq] using f
  | cons b r ih =>
    intro w hl hw
    simp only [List.length_cons] at hl
    have f := fin w (b :: r) (by simp; omega)
    have q : (p.length : Int) + w.length < (p.length : Int) + (w.length + (r.length + 1)) := by omega
    have e1 : ((p.length : Int) + (w.length : Int)).toNat = p.length + w.length := by omega
    have g : (p ++ (w ++ b :: r))[p.length + w.length]?.getD 0 = b := by rw [← List.append_assoc, ← List.length_append]; exact get_mid
    have pos : (0 : Int) ≤ (p.length : Int) + w.length := by omega
    have wr : IntKind.wrap .i64 ((p.length : Int) + w.length + 1) = (p.length : Int) + (w.length + 1) := by rw [wrap_i64 (by omega)]; omega
    have w1 : IntKind.wrap .i64 ((p.length : Int) + w.length - p.length) = w.length := by rw [wrap_i64 (by omega)]; omega
    by_cases h2 : digitB b = true
    · have e : (b :: r).takeWhile digitB = b :: r.takeWhile digitB := List.takeWhile_cons_of_pos h2
      have e' : (b :: r).dropWhile digitB = r.dropWhile digitB := List.dropWhile_cons_of_pos h2
      have ih := ih (w ++ [b]) (by simp; omega) (by simp [hw, h2])
      have hv : value (w ++ [b]) = if w.length < 16 then 10 * value w + (b.toNat - 48) else value w := valF_snoc 16 0 w b
      simp only [List.append_assoc, List.singleton_append, List.length_append, List.length_cons, List.length_nil, Nat.zero_add, hv] at ih
      have hlt := value_lt hw
      have hd : 48 ≤ b.toNat ∧ b.toNat ≤ 57 := by simpa [digitB] using h2
      have w2 : IntKind.wrap .u8 ((b.toNat : Int) - 48) = ((b.toNat - 48 : Nat) : Int) := by
        have : (b.toNat : Int) - 48 = ((b.toNat - 48 : Nat) : Int) := by omega
        rw [this, wrap_u8]; omega
      generalize value w = v at *
      have w3 : IntKind.wrap .i64 ((b.toNat - 48 : Nat) : Int) = ((b.toNat - 48 : Nat) : Int) := wrap_i64 (by omega)
      have w4 : IntKind.wrap .i64 ((v : Int) * 10) = (v : Int) * 10 := wrap_i64 (by omega)
      have w5 : IntKind.wrap .i64 ((v : Int) * 10 + ((b.toNat - 48 : Nat) : Int)) = 10 * (v : Int) + ((b.toNat - 48 : Nat) : Int) := by rw [wrap_i64 (by omega)]; omega
      by_cases h16 : w.length < 16
      · have h16' : (w.length : Int) < 16 := by omega
        rw [if_pos h16] at ih
        unfold lexer_scanner_number_l1b
        simp only [hq] at ih ⊢
        simp [go_sem, q, e1, g, pos, e_digit, h2, wr, e, e', w1, h16', w2, w3, w4, w5]
        simpa [hq] using ih
      · have h16' : ¬ (w.length : Int) < 16 := by omega
        rw [if_neg h16] at ih
        unfold lexer_scanner_number_l1b
        simp [go_sem, q, e1, g, pos, e_digit, h2, wr, e, e', w1, h16', w2, w3, w4, w5]
        simpa [hq] using ih
    · have e : (b :: r).takeWhile digitB = [] := List.takeWhile_cons_of_neg h2
      have e' : (b :: r).dropWhile digitB = b :: r := List.dropWhile_cons_of_neg h2
      have h2 : digitB b = false := by simpa using h2
      unfold lexer_scanner_number_l1b
      simp [go_sem, q, e1, g, pos, e_digit, h2, wr, e, e', lexer_scanner_number_k1]
      simpa [hq] using f
theorem e_number (x0 x1 x2 : List V) (p r : List UInt8) (hl : p.length + r.length ≤ 65536) : acall mach0 n_lexer_scanner_number [.ptr 3 0] (hq x0 x1 x2 (p ++ r) p.length) = some (numRt x0 x1 x2 (p ++ r) p.length (r.takeWhile digitB) (r.dropWhile digitB)) := by
 refine acall_fn rfl (af := a_lexer_scanner_number) rfl rfl ?_
 have := number_l x0 x1 x2 p r [] (by simpa using hl) rfl
 have e0 : value [] = 0 := rfl
 simp only [List.nil_append, List.length_nil, Nat.add_zero, e0] at this
 simp [List.replicate, go_sem]
 simpa [hq] using this
end Go.Am
namespace Go.Am
open Go Go.Pu
def textRt (x0 x1 x2 : List V) (s : List UInt8) (k : Nat) (w : List UInt8) (rest : List UInt8) (rt : Rt) : Prop :=
 match rest with
 | [] => ∃ j, rt = .pan (failV k 1) (hq x0 x1 x2 s j)
 | c :: _ => if c.toNat = 34 then (if w.length > 200 then ∃ j, rt = .pan (failV k 5) (hq x0 x1 x2 s j) else rt = .ret (tokV 3 0 k w) (hq x0 x1 x2 s (k + 1 + w.length + 1))) else ∃ j, rt = .pan (failV k 1) (hq x0 x1 x2 s j)
theorem slice_txt {p w r : List UInt8} {c : UInt8} : ((p ++ c :: (w ++ r)).take (p.length + 1 + w.length)).drop (p.length + 1) = w := by
 have := slice_mid (p := p ++ [c]) (w := w) (r := r)
 simpa using this
theorem text_l (x0 x1 x2 : List V) (p : List UInt8) (c : UInt8) : ∀ (r w : List UInt8), p.length + 1 + w.length + r.length ≤ 65536 → ∃ rt,
  textRt x0 x1 x2 (p ++ c :: (w ++ r)) p.length (w ++ r.takeWhile textB) (r.dropWhile textB) rt ∧
  Run mach0 (.c lexer_scanner_text_l1b :: .lp lexer_scanner_text_l1 :: .endB 0 :: .c lexer_scanner_text_k1 :: []) .norm
   ⟨(.ptr 3 0 :: .undef :: .box [.int .i64 0, .int .i64 0, .int .i64 0, .str []] :: .int .i64 p.length :: .undef :: .undef :: .undef :: .undef :: .undef :: .undef :: .undef :: .undef :: .undef :: .undef :: .undef :: .undef :: .undef :: .undef :: .undef :: .undef :: .undef :: .undef :: .undef :: .undef :: .undef :: .undef :: .undef :: .undef :: .undef :: .undef :: .undef :: .undef :: .undef :: .undef :: .undef :: .undef :: .undef :: .undef :: .undef :: .undef :: .undef :: .undef :: .undef :: .undef :: .undef :: .undef :: .undef :: .undef :: .undef :: .undef :: .undef :: .undef :: .undef :: .undef :: .undef :: .undef :: .undef :: .undef :: .undef :: .undef :: .undef :: .undef :: .undef :: .undef :: .undef :: .undef :: .undef :: .undef :: .undef :: .undef :: .undef :: .undef :: .undef :: .undef :: .undef :: .undef :: .undef :: .undef :: .undef :: .undef :: .undef :: .undef :: .undef :: .undef :: .undef :: .undef :: .undef :: .undef :: .undef :: .undef :: .undef :: .undef :: .undef :: .undef :: .undef :: .undef :: .undef :: .undef :: .undef :: .undef :: .undef :: .undef :: .undef :: .undef :: .undef :: .undef :: .undef :: []), hq x0 x1 x2 (p ++ c :: (w ++ r)) (p.length + 1 + w.length)⟩
   (FinQ [.cell 2 (some 4)] 4 rt) := by
 intro r
 induction r with
 | nil =>
  intro w hl
  refine ⟨.pan (failV p.length 1) (hq x0 x1 x2 (p ++ c :: (w ++ [])) (p.length + 1 + w.length)), ⟨_, rfl⟩, ?_⟩
  have q : ¬ ((p.length : Int) + 1 + w.length < p.length + (w.length + 1)) := by omega
  have q2 : (p.length : Int) + 1 + w.length = p.length + (w.length + 1) := by omega
  unfold lexer_scanner_text_l1b
  simp [go_sem, lexer_scanner_text_k1, q]
  unfold lexer_scanner_text_k1b
  simp [go_sem, q2, e_fail]
  simp [failV, go_sem]
 | cons b r ih =>
  intro w hl
  simp only [List.length_cons] at hl
  have q : (p.length : Int) + 1 + w.length < (p.length : Int) + (w.length + (r.length + 1) + 1) := by omega
  have e1 : ((p.length : Int) + 1 + (w.length : Int)).toNat = p.length + 1 + w.length := by omega
  have g : (p ++ c :: (w ++ b :: r))[p.length + 1 + w.length]?.getD 0 = b := by
   have := get_mid (p := p ++ c :: w) (r := r) (b := b)
   simp only [List.append_assoc, List.cons_append, List.length_append, List.length_cons] at this
   have e : p.length + 1 + w.length = p.length + (w.length + 1) := by omega
   rw [e]; exact this
  have pos : (0 : Int) ≤ (p.length : Int) + 1 + w.length := by omega
  have wr : IntKind.wrap .i64 ((p.length : Int) + 1 + w.length + 1) = (p.length : Int) + 1 + (w.length + 1) := by rw [wrap_i64 (by omega)]; omega
  by_cases h34 : (b.toNat : Int) = 34
  ·have hb : textB b = false := by simp [textB]; omega
   have e : (b :: r).takeWhile textB = [] := List.takeWhile_cons_of_neg (by simp [hb])
   have e' : (b :: r).dropWhile textB = b :: r := List.dropWhile_cons_of_neg (by simp [hb])
   have hn : b.toNat = 34 := by omega
   rw [e, e']
   simp only [textRt, if_pos hn, List.append_nil]
   have q3 : ¬ ((p.length : Int) + 1 + w.length = (p.length : Int) + (w.length + (r.length + 1) + 1)) := by omega
   have w2 : IntKind.wrap .i64 ((p.length : Int) + 1) = p.length + 1 := wrap_i64 (by omega)
   have p2 : (0 : Int) ≤ (p.length : Int) + 1 := by omega
   have p3 : (p.length : Int) + 1 ≤ (p.length : Int) + 1 + w.length := by omega
   have p4 : (p.length : Int) + 1 + w.length ≤ (p.length : Int) + (w.length + (r.length + 1) + 1) := by omega
   have e3 : ((p.length : Int) + 1).toNat = p.length + 1 := by omega
   have e2 := slice_txt (p := p) (w := w) (r := b :: r) (c := c)
   by_cases h : w.length > 200
   ·simp only [if_pos h]
    refine ⟨_, ⟨p.length + 1 + w.length + 1, rfl⟩, ?_⟩
    have h' : (200 : Int) < w.length := by omega
    unfold lexer_scanner_text_l1b
    simp [go_sem, q, e1, g, pos, nf' h34, lexer_scanner_text_k1]
    unfold lexer_scanner_text_k1b
    simp [go_sem, q3, w2, p2, p3, p4, e1, e3, e2, wr, h', e_fail]
    simp [failV, go_sem]
    omega
   ·simp only [if_neg h]
    refine ⟨_, rfl, ?_⟩
    have h' : ¬ (200 : Int) < w.length := by omega
    unfold lexer_scanner_text_l1b
    simp [go_sem, q, e1, g, pos, nf' h34, lexer_scanner_text_k1]
    unfold lexer_scanner_text_k1b
    simp [go_sem, q3, w2, p2, p3, p4, e1, e3, e2, wr, h', e_fail]
    simp [tokV]
    omega
  ·by_cases h32 : (b.toNat : Int) < 32
   ·have hb : textB b = false := by simp [textB]; omega
    have e : (b :: r).takeWhile textB = [] := List.takeWhile_cons_of_neg (by simp [hb])
    have e' : (b :: r).dropWhile textB = b :: r := List.dropWhile_cons_of_neg (by simp [hb])
    have hn : ¬ b.toNat = 34 := by omega
    rw [e, e']
    simp only [textRt, if_neg hn, List.append_nil]
    refine ⟨_, ⟨p.length + 1 + w.length, rfl⟩, ?_⟩
    unfold lexer_scanner_text_l1b
    simp [go_sem, q, e1, g, pos, nt' h34, h32, e_fail]
    simp [failV, go_sem]
   ·by_cases h126 : (126 : Int) < (b.toNat : Int)
    ·have hb : textB b = false := by simp [textB]; omega
     have e : (b :: r).takeWhile textB = [] := List.takeWhile_cons_of_neg (by simp [hb])
     have e' : (b :: r).dropWhile textB = b :: r := List.dropWhile_cons_of_neg (by simp [hb])
     have hn : ¬ b.toNat = 34 := by omega
     rw [e, e']
     simp only [textRt, if_neg hn, List.append_nil]
     refine ⟨_, ⟨p.length + 1 + w.length, rfl⟩, ?_⟩
     unfold lexer_scanner_text_l1b
     simp [go_sem, q, e1, g, pos, nt' h34, h32, h126, e_fail]
     simp [failV, go_sem]
    ·have hb : textB b = true := by simp [textB]; omega
     have e : (b :: r).takeWhile textB = b :: r.takeWhile textB := List.takeWhile_cons_of_pos hb
     have e' : (b :: r).dropWhile textB = r.dropWhile textB := List.dropWhile_cons_of_pos hb
     obtain ⟨rt, i1, i2⟩ := ih (w ++ [b]) (by simp; omega)
     simp only [List.append_assoc, List.singleton_append, List.length_append, List.length_cons, List.length_nil, Nat.zero_add] at i1 i2
     refine ⟨rt, by rw [e, e']; exact i1, ?_⟩
     unfold lexer_scanner_text_l1b
     simp [go_sem, q, e1, g, pos, nt' h34, h32, h126, e_fail, wr]
     simpa [hq] using i2
theorem e_text (x0 x1 x2 : List V) (p l : List UInt8) (c : UInt8) (hl : p.length + 1 + l.length ≤ 65536) : ∃ rt, textRt x0 x1 x2 (p ++ c :: l) p.length (l.takeWhile textB) (l.dropWhile textB) rt ∧ acall mach0 n_lexer_scanner_text [.ptr 3 0] (hq x0 x1 x2 (p ++ c :: l) p.length) = some rt := by
 obtain ⟨rt, h1, h2⟩ := text_l x0 x1 x2 p c l [] (by simpa using hl)
 simp only [List.nil_append, List.length_nil, Nat.add_zero] at h1 h2
 refine ⟨rt, h1, acall_fn rfl (af := a_lexer_scanner_text) rfl rfl ?_⟩
 have w2 : IntKind.wrap .i64 ((p.length : Int) + 1) = p.length + 1 := wrap_i64 (by omega)
 simp [List.replicate, go_sem, w2]
 simpa [hq] using h2
end Go.Am
set_option maxRecDepth 10000
namespace Go.Am
open Go Go.Pu
def nextRt (x0 x1 x2 : List V) (s : List UInt8) (k : Nat) : LR → Rt → Prop
 | .ok t r, rt => rt = .ret (tokV t.kind t.val k t.str) (hq x0 x1 x2 s (s.length - r.length))
 | .err e, rt => ∃ j, rt = .pan (failV k e) (hq x0 x1 x2 s j)
theorem toNat_eq {b : UInt8} {n : Nat} (h : b.toNat = n) : b = UInt8.ofNat n := by rw [← h]; simp
theorem slice1 {p l : List UInt8} {b : UInt8} : ((p ++ b :: l).take (p.length + 1)).drop p.length = [b] := by
 have := slice_mid (p := p) (w := [b]) (r := l)
 simpa using this
theorem slice2 {p l : List UInt8} {b c : UInt8} : ((p ++ b :: c :: l).take (p.length + 2)).drop p.length = [b, c] := by
 have := slice_mid (p := p) (w := [b, c]) (r := l)
 simpa using this
theorem get_mid2 {p r : List UInt8} {b c : UInt8} : (p ++ b :: c :: r)[p.length + 1]?.getD 0 = c := by
 have := get_mid (p := p ++ [b]) (r := r) (b := c)
 simpa using this
theorem e_symA (x0 x1 x2 : List V) (p l : List UInt8) (b : UInt8) (hl : p.length + 1 + l.length ≤ 65536) (hs : b.toNat = 59 ∨ b.toNat = 44 ∨ b.toNat = 43 ∨ b.toNat = 45) : acall mach0 n_lexer_scanner_symbol [.ptr 3 0] (hq x0 x1 x2 (p ++ b :: l) p.length) = some (.ret (tokV 4 0 p.length [b]) (hq x0 x1 x2 (p ++ b :: l) (p.length + 1))) := by
 have w1 : IntKind.wrap .i64 ((p.length : Int) + 1) = p.length + 1 := wrap_i64 (by omega)
 have q0 : (p.length : Int) < p.length + (l.length + 1) := by omega
 have p1 : (p.length : Int) ≤ p.length + 1 := by omega
 have p2 : (p.length : Int) + 1 ≤ p.length + (l.length + 1) := by omega
 have e1 : ((p.length : Int) + 1).toNat = p.length + 1 := by omega
 have s1 := slice1 (p := p) (l := l) (b := b)
 have g := get_mid (p := p) (r := l) (b := b)
 refine acall_fn rfl (af := a_lexer_scanner_symbol) rfl rfl ?_
 rcases hs with hs | hs | hs | hs <;> (obtain rfl := toNat_eq hs; simp [List.replicate, go_sem, q0, w1, p1, p2, e1, s1, tokV]; exact slice1)
theorem e_symB (x0 x1 x2 : List V) (p l : List UInt8) (b : UInt8) (hl : p.length + 1 + l.length ≤ 65536) (hs : b.toNat = 58 ∨ b.toNat = 40 ∨ b.toNat = 41 ∨ b.toNat = 61) : acall mach0 n_lexer_scanner_symbol [.ptr 3 0] (hq x0 x1 x2 (p ++ b :: l) p.length) = some (.ret (tokV 4 0 p.length [b]) (hq x0 x1 x2 (p ++ b :: l) (p.length + 1))) := by
 have w1 : IntKind.wrap .i64 ((p.length : Int) + 1) = p.length + 1 := wrap_i64 (by omega)
 have q0 : (p.length : Int) < p.length + (l.length + 1) := by omega
 have p1 : (p.length : Int) ≤ p.length + 1 := by omega
 have p2 : (p.length : Int) + 1 ≤ p.length + (l.length + 1) := by omega
 have e1 : ((p.length : Int) + 1).toNat = p.length + 1 := by omega
 have s1 := slice1 (p := p) (l := l) (b := b)
 have g := get_mid (p := p) (r := l) (b := b)
 refine acall_fn rfl (af := a_lexer_scanner_symbol) rfl rfl ?_
 rcases hs with hs | hs | hs | hs <;> (obtain rfl := toNat_eq hs; simp [List.replicate, go_sem, q0, w1, p1, p2, e1, s1, tokV]; exact slice1)
theorem e_symC (x0 x1 x2 : List V) (p l : List UInt8) (b : UInt8) (hl : p.length + 1 + l.length ≤ 65536) (hs : b.toNat = 42 ∨ b.toNat = 47 ∨ b.toNat = 37 ∨ b.toNat = 37) : acall mach0 n_lexer_scanner_symbol [.ptr 3 0] (hq x0 x1 x2 (p ++ b :: l) p.length) = some (.ret (tokV 4 0 p.length [b]) (hq x0 x1 x2 (p ++ b :: l) (p.length + 1))) := by
 have w1 : IntKind.wrap .i64 ((p.length : Int) + 1) = p.length + 1 := wrap_i64 (by omega)
 have q0 : (p.length : Int) < p.length + (l.length + 1) := by omega
 have p1 : (p.length : Int) ≤ p.length + 1 := by omega
 have p2 : (p.length : Int) + 1 ≤ p.length + (l.length + 1) := by omega
 have e1 : ((p.length : Int) + 1).toNat = p.length + 1 := by omega
 have s1 := slice1 (p := p) (l := l) (b := b)
 have g := get_mid (p := p) (r := l) (b := b)
 refine acall_fn rfl (af := a_lexer_scanner_symbol) rfl rfl ?_
 rcases hs with hs | hs | hs | hs <;> (obtain rfl := toNat_eq hs; simp [List.replicate, go_sem, q0, w1, p1, p2, e1, s1, tokV]; exact slice1)
theorem e_symbol (x0 x1 x2 : List V) (p l : List UInt8) (b : UInt8) (hl : p.length + 1 + l.length ≤ 65536) : ∃ rt, nextRt x0 x1 x2 (p ++ b :: l) p.length (lexSym b l) rt ∧ acall mach0 n_lexer_scanner_symbol [.ptr 3 0] (hq x0 x1 x2 (p ++ b :: l) p.length) = some rt := by
 have w1 : IntKind.wrap .i64 ((p.length : Int) + 1) = p.length + 1 := wrap_i64 (by omega)
 have w2 : IntKind.wrap .i64 ((p.length : Int) + 2) = p.length + 2 := wrap_i64 (by omega)
 have q0 : (p.length : Int) < p.length + (l.length + 1) := by omega
 have p1 : (p.length : Int) ≤ p.length + 1 := by omega
 have p2 : (p.length : Int) + 1 ≤ p.length + (l.length + 1) := by omega
 have p3 : (p.length : Int) ≤ p.length + 2 := by omega
 have e1 : ((p.length : Int) + 1).toNat = p.length + 1 := by omega
 have e2 : ((p.length : Int) + 2).toNat = p.length + 2 := by omega
 have z1 : (0 : Int) ≤ (p.length : Int) + 1 := by omega
 have g := get_mid (p := p) (r := l) (b := b)
 have s1 := slice1 (p := p) (l := l) (b := b)
 have one : lexSym b l = .ok (.sym [b]) l → acall mach0 n_lexer_scanner_symbol [.ptr 3 0] (hq x0 x1 x2 (p ++ b :: l) p.length) = some (.ret (tokV 4 0 p.length [b]) (hq x0 x1 x2 (p ++ b :: l) (p.length + 1))) → ∃ rt, nextRt x0 x1 x2 (p ++ b :: l) p.length (lexSym b l) rt ∧ acall mach0 n_lexer_scanner_symbol [.ptr 3 0] (hq x0 x1 x2 (p ++ b :: l) p.length) = some rt := by
  intro h h'
  refine ⟨_, ?_, h'⟩
  rw [h]
  simp only [nextRt, Tk.kind, Tk.val, Tk.str, List.length_append, List.length_cons]
  have : p.length + (l.length + 1) - l.length = p.length + 1 := by omega
  rw [this]
  rfl
 by_cases h60 : b.toNat = 60
 ·obtain rfl : b = 60 := toNat_eq h60
  cases l with
  | nil =>
   refine one rfl (acall_fn rfl (af := a_lexer_scanner_symbol) rfl rfl ?_)
   simp only [List.length_nil] at q0 p2
   simp [List.replicate, go_sem, w1, p1, e1, s1, tokV]
   try omega
  | cons c l =>
   have g2 := get_mid2 (p := p) (r := l) (b := 60) (c := c)
   have s2 := slice2 (p := p) (l := l) (b := 60) (c := c)
   simp only [List.length_cons, Int.natCast_add] at q0 p2
   have q1 : (p.length : Int) + 1 < p.length + (l.length + 1 + 1) := by omega
   have p4 : (p.length : Int) + 2 ≤ p.length + (l.length + 1 + 1) := by omega
   by_cases h62 : c.toNat = 62
   ·obtain rfl : c = 62 := toNat_eq h62
    refine ⟨_, rfl, acall_fn rfl (af := a_lexer_scanner_symbol) rfl rfl ?_⟩
    have e5 : p.length + (l.length + 1 + 1) - l.length = p.length + 2 := by omega
    simp [List.replicate, go_sem, q0, w1, w2, q1, p2, p3, p4, e1, e2, z1, g2, s2, Tk.kind, Tk.val, Tk.str, e5]
    simp [tokV]
    try omega
   ·by_cases h61 : c.toNat = 61
    ·obtain rfl : c = 61 := toNat_eq h61
     refine ⟨_, rfl, acall_fn rfl (af := a_lexer_scanner_symbol) rfl rfl ?_⟩
     have e5 : p.length + (l.length + 1 + 1) - l.length = p.length + 2 := by omega
     simp [List.replicate, go_sem, q0, w1, w2, q1, p2, p3, p4, e1, e2, z1, g2, s2, Tk.kind, Tk.val, Tk.str, e5]
     simp [tokV]
     try omega
    ·have i62 : ¬ (c.toNat : Int) = 62 := by omega
     have i61 : ¬ (c.toNat : Int) = 61 := by omega
     refine one (by simp [lexSym, h62, h61]) (acall_fn rfl (af := a_lexer_scanner_symbol) rfl rfl ?_)
     simp [List.replicate, go_sem, q0, w1, q1, p1, p2, e1, z1, g2, s1, i62, i61]
     simp [tokV]
     try omega
 ·by_cases h62 : b.toNat = 62
  ·obtain rfl : b = 62 := toNat_eq h62
   cases l with
   | nil =>
    refine one rfl (acall_fn rfl (af := a_lexer_scanner_symbol) rfl rfl ?_)
    simp only [List.length_nil] at q0 p2
    simp [List.replicate, go_sem, w1, p1, e1, s1, tokV]
    try omega
   | cons c l =>
    have g2 := get_mid2 (p := p) (r := l) (b := 62) (c := c)
    have s2 := slice2 (p := p) (l := l) (b := 62) (c := c)
    simp only [List.length_cons, Int.natCast_add] at q0 p2
    have q1 : (p.length : Int) + 1 < p.length + (l.length + 1 + 1) := by omega
    have p4 : (p.length : Int) + 2 ≤ p.length + (l.length + 1 + 1) := by omega
    by_cases h61 : c.toNat = 61
    ·obtain rfl : c = 61 := toNat_eq h61
     refine ⟨_, rfl, acall_fn rfl (af := a_lexer_scanner_symbol) rfl rfl ?_⟩
     have e5 : p.length + (l.length + 1 + 1) - l.length = p.length + 2 := by omega
     simp [List.replicate, go_sem, q0, w1, w2, q1, p2, p3, p4, e1, e2, z1, g2, s2, Tk.kind, Tk.val, Tk.str, e5]
     simp [tokV]
     try omega
    ·have i61 : ¬ (c.toNat : Int) = 61 := by omega
     refine one (by simp [lexSym, h61]) (acall_fn rfl (af := a_lexer_scanner_symbol) rfl rfl ?_)
     simp [List.replicate, go_sem, q0, w1, q1, p1, p2, e1, z1, g2, s1, i61]
     simp [tokV]
     try omega
  ·by_cases hs : b.toNat ∈ singles
   ·have hx : lexSym b l = .ok (.sym [b]) l := by simp only [lexSym, if_neg h60, if_neg h62, if_pos hs]
    refine one hx ?_
    simp only [singles, List.mem_cons, List.not_mem_nil, or_false] at hs
    rcases hs with hv | hv | hv | hv | hv | hv | hv | hv | hv | hv | hv
    ·exact e_symA x0 x1 x2 p l b hl (by omega)
    ·exact e_symA x0 x1 x2 p l b hl (by omega)
    ·exact e_symA x0 x1 x2 p l b hl (by omega)
    ·exact e_symA x0 x1 x2 p l b hl (by omega)
    ·exact e_symB x0 x1 x2 p l b hl (by omega)
    ·exact e_symB x0 x1 x2 p l b hl (by omega)
    ·exact e_symB x0 x1 x2 p l b hl (by omega)
    ·exact e_symB x0 x1 x2 p l b hl (by omega)
    ·exact e_symC x0 x1 x2 p l b hl (by omega)
    ·exact e_symC x0 x1 x2 p l b hl (by omega)
    ·exact e_symC x0 x1 x2 p l b hl (by omega)
   ·have hx : lexSym b l = .err 1 := by simp only [lexSym, if_neg h60, if_neg h62, if_neg hs]
    rw [hx]
    refine ⟨_, ⟨p.length, rfl⟩, acall_fn rfl (af := a_lexer_scanner_symbol) rfl rfl ?_⟩
    simp only [singles, List.mem_cons, List.not_mem_nil, or_false, not_or] at hs
    obtain ⟨a1, a2, a3, a4, a5, a6, a7, a8, a9, a10, a11⟩ := hs
    have b1 : ¬ (b.toNat : Int) = 59 := by omega
    have b2 : ¬ (b.toNat : Int) = 44 := by omega
    have b3 : ¬ (b.toNat : Int) = 43 := by omega
    have b4 : ¬ (b.toNat : Int) = 45 := by omega
    have b5 : ¬ (b.toNat : Int) = 58 := by omega
    have b6 : ¬ (b.toNat : Int) = 40 := by omega
    have b7 : ¬ (b.toNat : Int) = 41 := by omega
    have b8 : ¬ (b.toNat : Int) = 61 := by omega
    have b9 : ¬ (b.toNat : Int) = 42 := by omega
    have b10 : ¬ (b.toNat : Int) = 47 := by omega
    have b11 : ¬ (b.toNat : Int) = 37 := by omega
    have c1 : ¬ (b.toNat : Int) = 60 := by omega
    have c2 : ¬ (b.toNat : Int) = 62 := by omega
    simp [List.replicate, go_sem, q0, b1, b2, b3, b4, b5, b6, b7, b8, b9, b10, b11, c1, c2, e_fail]
    simp [failV, go_sem]
end Go.Am
namespace Go.Am
open Go Go.Pu
def nice (x0 x1 x2 : List V) (s : List UInt8) (rt : Rt) : Prop := (∃ k n q t j, rt = .ret (tokV k n q t) (hq x0 x1 x2 s j)) ∨ (∃ q e j, rt = .pan (failV q e) (hq x0 x1 x2 s j))
section
variable {x0 x1 x2 : List V} {p l p0 r : List UInt8} {b : UInt8} {rt : Rt}
theorem next_of (hl : p.length + 1 + l.length ≤ 65536)
    (hb : acall mach0 n_lexer_scanner_blanks [.ptr 3 0] (hq x0 x1 x2 (p0 ++ r) p0.length) = some (.ret (.tup []) (hq x0 x1 x2 (p ++ b :: l) p.length))) (hn : nice x0 x1 x2 (p ++ b :: l) rt)
    (hc : lowerB b = true ∧ acall mach0 n_lexer_scanner_word [.ptr 3 0] (hq x0 x1 x2 (p ++ b :: l) p.length) = some rt ∨
      lowerB b = false ∧ digitB b = true ∧ acall mach0 n_lexer_scanner_number [.ptr 3 0] (hq x0 x1 x2 (p ++ b :: l) p.length) = some rt ∨
      lowerB b = false ∧ digitB b = false ∧ (b.toNat : Int) = 34 ∧ acall mach0 n_lexer_scanner_text [.ptr 3 0] (hq x0 x1 x2 (p ++ b :: l) p.length) = some rt ∨
      lowerB b = false ∧ digitB b = false ∧ ¬ (b.toNat : Int) = 34 ∧ acall mach0 n_lexer_scanner_symbol [.ptr 3 0] (hq x0 x1 x2 (p ++ b :: l) p.length) = some rt) :
    acall mach0 n_lexer_scanner_next [.ptr 3 0] (hq x0 x1 x2 (p0 ++ r) p0.length) = some rt := by
  have q0 : ¬ (p.length : Int) = p.length + (l.length + 1) := by omega
  have q1 : (p.length : Int) < p.length + (l.length + 1) := by omega
  have g := get_mid (p := p) (r := l) (b := b)
  refine acall_fn rfl (af := a_lexer_scanner_next) rfl rfl ?_
  simp only [hq, List.length_append, List.length_cons] at hb hc
  rcases hn with ⟨k, n, q, t, j, rfl⟩ | ⟨q, e, j, rfl⟩
  · simp only [hq, tokV] at hc ⊢
    rcases hc with ⟨h1, e⟩ | ⟨h1, h2, e⟩ | ⟨h1, h2, h3, e⟩ | ⟨h1, h2, h3, e⟩
    · simp [List.replicate, go_sem, hb, q0, q1, g, e_lower, h1, e]
    · simp [List.replicate, go_sem, hb, q0, q1, g, e_lower, e_digit, h1, h2, e]
    · simp [List.replicate, go_sem, hb, q0, q1, g, e_lower, e_digit, h1, h2, bt' h3, e]
    · simp [List.replicate, go_sem, hb, q0, q1, g, e_lower, e_digit, h1, h2, bf' h3, e]
  · simp only [hq, failV] at hc ⊢
    rcases hc with ⟨h1, e⟩ | ⟨h1, h2, e⟩ | ⟨h1, h2, h3, e⟩ | ⟨h1, h2, h3, e⟩
    · simp [List.replicate, go_sem, hb, q0, q1, g, e_lower, h1, e]
    · simp [List.replicate, go_sem, hb, q0, q1, g, e_lower, e_digit, h1, h2, e]
    · simp [List.replicate, go_sem, hb, q0, q1, g, e_lower, e_digit, h1, h2, bt' h3, e]
    · simp [List.replicate, go_sem, hb, q0, q1, g, e_lower, e_digit, h1, h2, bf' h3, e]
theorem nextRt_nice {k : Nat} {o : LR} {s : List UInt8} (h : nextRt x0 x1 x2 s k o rt) : nice x0 x1 x2 s rt := by
 cases o with
 | ok t r => exact .inl ⟨_, _, _, _, _, h⟩
 | err e => obtain ⟨j, hj⟩ := h; exact .inr ⟨_, _, _, hj⟩
theorem next_at (hl : p.length + 1 + l.length ≤ 65536)
    (hb : acall mach0 n_lexer_scanner_blanks [.ptr 3 0] (hq x0 x1 x2 (p0 ++ r) p0.length) = some (.ret (.tup []) (hq x0 x1 x2 (p ++ b :: l) p.length))) :
    ∃ rt, acall mach0 n_lexer_scanner_next [.ptr 3 0] (hq x0 x1 x2 (p0 ++ r) p0.length) = some rt ∧ nextRt x0 x1 x2 (p ++ b :: l) p.length (lexOne b l) rt := by
  by_cases h1 : lowerB b = true
  · have e := e_word x0 x1 x2 p (b :: l) (by simp; omega)
    have ex : lexOne b l = lexWord (b :: l) := by simp only [lexOne, if_pos h1]
    have hk := takeDrop_len wordB (b :: l)
    have hn : nextRt x0 x1 x2 (p ++ b :: l) p.length (lexOne b l) (wordRt x0 x1 x2 (p ++ b :: l) p.length ((b :: l).takeWhile wordB)) := by
      rw [ex]
      unfold lexWord wordRt
      by_cases h : ((b :: l).takeWhile wordB).length > 24
      · rw [if_pos h, if_pos h]; exact ⟨_, rfl⟩
      · rw [if_neg h, if_neg h]
        simp only [nextRt, List.length_append]
        have : p.length + (b :: l).length - ((b :: l).dropWhile wordB).length = p.length + ((b :: l).takeWhile wordB).length := by omega
        rw [this]; rfl
    exact ⟨_, next_of hl hb (nextRt_nice hn) (.inl ⟨h1, e⟩), hn⟩
  have h1 : lowerB b = false := by simpa using h1
  by_cases h2 : digitB b = true
  · have e := e_number x0 x1 x2 p (b :: l) (by simp; omega)
    have ex : lexOne b l = lexNum (b :: l) := by simp only [lexOne, if_neg (show ¬ lowerB b = true by simp [h1]), if_pos h2]
    have hk := takeDrop_len digitB (b :: l)
    have hn : nextRt x0 x1 x2 (p ++ b :: l) p.length (lexOne b l) (numRt x0 x1 x2 (p ++ b :: l) p.length ((b :: l).takeWhile digitB) ((b :: l).dropWhile digitB)) := by
      rw [ex]
      unfold lexNum numRt
      by_cases h : ((b :: l).takeWhile digitB).length > 16
      · rw [if_pos h, if_pos h]; exact ⟨_, rfl⟩
      · rw [if_neg h, if_neg h]
        by_cases h' : headIs lowerB ((b :: l).dropWhile digitB) = true
        · rw [if_pos h', if_pos h']; exact ⟨_, rfl⟩
        · rw [if_neg h', if_neg h']
          simp only [nextRt, List.length_append]
          have : p.length + (b :: l).length - ((b :: l).dropWhile digitB).length = p.length + ((b :: l).takeWhile digitB).length := by omega
          rw [this]; rfl
    exact ⟨_, next_of hl hb (nextRt_nice hn) (.inr (.inl ⟨h1, h2, e⟩)), hn⟩
  have h2 : digitB b = false := by simpa using h2
  by_cases h3 : b.toNat = 34
  · obtain ⟨rt, ht, e⟩ := e_text x0 x1 x2 p l b hl
    have ex : lexOne b l = lexText l := by simp only [lexOne, if_neg (show ¬ lowerB b = true by simp [h1]), if_neg (show ¬ digitB b = true by simp [h2]), if_pos h3]
    have hk := takeDrop_len textB l
    have hn : nextRt x0 x1 x2 (p ++ b :: l) p.length (lexOne b l) rt := by
      rw [ex]
      unfold lexText
      unfold textRt at ht
      cases hd : l.dropWhile textB with
      | nil => rw [hd] at ht; exact ht
      | cons c r =>
        rw [hd] at ht hk
        simp only at ht ⊢
        by_cases hc : c.toNat = 34
        · rw [if_pos hc] at ht ⊢
          by_cases h : (l.takeWhile textB).length > 200
          · rw [if_pos h] at ht ⊢; exact ht
          · rw [if_neg h] at ht ⊢
            simp only [nextRt, List.length_append, List.length_cons] at ht hk ⊢
            have : p.length + (l.length + 1) - r.length = p.length + 1 + (l.takeWhile textB).length + 1 := by omega
            rw [this]; exact ht
        · rw [if_neg hc] at ht ⊢; exact ht
    exact ⟨_, next_of hl hb (nextRt_nice hn) (.inr (.inr (.inl ⟨h1, h2, by omega, e⟩))), hn⟩
  · obtain ⟨rt, hn, e⟩ := e_symbol x0 x1 x2 p l b hl
    have ex : lexOne b l = lexSym b l := by simp only [lexOne, if_neg (show ¬ lowerB b = true by simp [h1]), if_neg (show ¬ digitB b = true by simp [h2]), if_neg h3]
    rw [← ex] at hn
    exact ⟨_, next_of hl hb (nextRt_nice hn) (.inr (.inr (.inr ⟨h1, h2, by omega, e⟩))), hn⟩
end
theorem e_next (x0 x1 x2 : List V) (p r : List UInt8) (hl : p.length + r.length ≤ 65536) : ∃ rt, acall mach0 n_lexer_scanner_next [.ptr 3 0] (hq x0 x1 x2 (p ++ r) p.length) = some rt ∧ (match skipB false r with
  | [] => rt = .ret (tokV 0 0 (p ++ r).length []) (hq x0 x1 x2 (p ++ r) (p ++ r).length)
  | b :: l => nextRt x0 x1 x2 (p ++ r) ((p ++ r).length - (b :: l).length) (lexOne b l) rt) := by
 have hb := e_blanks x0 x1 x2 p r hl
 have hsk := skipB_le false r
 obtain ⟨q, hq1⟩ := skip_suf false r
 cases hr : skipB false r with
 | nil =>
  rw [hr] at hb
  refine ⟨_, acall_fn rfl (af := a_lexer_scanner_next) rfl rfl ?_, rfl⟩
  simp [hq] at hb
  simp [List.replicate, go_sem, hb]
  simp [tokV]
 | cons b l =>
  rw [hr] at hb hq1 hsk
  have e1 : p ++ r = (p ++ q) ++ b :: l := by rw [hq1, List.append_assoc]
  have e2 : p.length + (r.length - (b :: l).length) = (p ++ q).length := by
   rw [hq1]; simp
  have e3 : (p ++ r).length - (b :: l).length = (p ++ q).length := by rw [e1]; simp; omega
  have e4 : (p ++ q).length + 1 + l.length ≤ 65536 := by
   have := congrArg List.length e1
   simp at this ⊢
   omega
  rw [e2] at hb
  have hb' : acall mach0 n_lexer_scanner_blanks [.ptr 3 0] (hq x0 x1 x2 (p ++ r) p.length) = some (.ret (.tup []) (hq x0 x1 x2 ((p ++ q) ++ b :: l) (p ++ q).length)) := by rw [← e1]; exact hb
  obtain ⟨rt, h1, h2⟩ := next_at e4 hb'
  refine ⟨rt, h1, ?_⟩
  simp only
  rw [e3, e1]
  exact h2
end Go.Am
namespace Go.Am
open Go Go.Pu
def tkV (n : Nat) (x : Tk × Nat) : V := tokV x.1.kind x.1.val (n - x.2 : Nat) x.1.str
def scanRt (n : Nat) (acc : List V) : SR → Rt
 | .ok ts => .ret (.tup [.sl false 4 (acc ++ ts.map (tkV n)), .int .i64 0, .int .i64 0]) []
 | .err rem e => .ret (.tup [.sl false 4 [], .int .i64 (n - rem : Nat), .int .i64 e]) []
theorem scanRt_cons (n : Nat) (acc : List V) (t : Tk × Nat) (o : SR) : scanRt n acc (SR.cons t o) = scanRt n (acc ++ [tkV n t]) o := by
 cases o <;> simp [scanRt, SR.cons]
theorem kind_ne {t : Tk} (h : t.ok = true) : ¬ ((t.kind : Nat) : Int) = 0 := by
 cases t <;> simp [Tk.kind, Tk.ok] at h ⊢
theorem Scan_l : ∀ (n : Nat) (p r : List UInt8) (acc : List V), r.length < n → p.length + r.length ≤ 65536 → acc.length ≤ p.length →
  Run mach0 (.c lexer_Scan_l1b :: .lp lexer_Scan_l1 :: .endB 0 :: []) .norm ⟨(.undef :: .undef :: .ptr 0 0 :: .ptr 1 0 :: .ptr 2 0 :: .ptr 3 0 :: .undef :: .undef :: .undef :: .undef :: .undef :: .undef :: .undef :: .undef :: .undef :: .undef :: .undef :: .undef :: .undef :: .undef :: .undef :: .undef :: .undef :: .undef :: []), [[.sl true 4 acc], [.int .i64 0], [.int .i64 0], [.str (p ++ r), .int .i64 p.length]]⟩
   (PostD mach0 d_lexer_Scan 0 [.ptr 0 0, .ptr 1 0, .ptr 2 0] (scanRt (p ++ r).length acc (scan r))) := by
 intro n
 induction n with
 | zero => intro p r acc hn; omega
 | succ n ih =>
  intro p r acc hn hl ha
  obtain ⟨rt, e, hrt⟩ := e_next [.sl true 4 acc] [.int .i64 0] [.int .i64 0] p r hl
  simp only [hq] at e
  have q : (acc.length + 1) * 40 ≤ 140737488355328 := by omega
  cases hk : skipB false r with
  | nil =>
   rw [hk] at hrt
   simp only [hq, tokV] at hrt
   subst hrt
   rw [scan_nil hk]
   unfold lexer_Scan_l1b
   simp [go_sem, e, q]
   simp [d_lexer_Scan, gframe, g_lexer_Scan_1, List.replicate, go_sem]
   simp [scanRt, tkV, tokV, Tk.kind, Tk.val, Tk.str, go_sem]
  | cons b l =>
   have hsk := skipB_le false r
   rw [hk] at hrt hsk
   simp only [List.length_cons] at hsk
   cases ho : lexOne b l with
   | err er =>
    simp only [ho] at hrt
    obtain ⟨j, hrt⟩ := hrt
    simp only [hq, failV] at hrt
    subst hrt
    rw [scan_err hk ho]
    unfold lexer_Scan_l1b
    simp [go_sem, e]
    simp [d_lexer_Scan, gframe, g_lexer_Scan_1, List.replicate, go_sem]
    simp [scanRt, go_sem]
   | ok t r' =>
    simp only [ho] at hrt
    have hle := lexOne_le ho
    have htk := kind_ne (lexOne_ok ho).1
    rw [scan_ok hk ho, scanRt_cons]
    obtain ⟨d, hd⟩ : ∃ d, r = d ++ r' := by
     obtain ⟨q1, h1⟩ := skip_suf false r
     rw [hk, (lexOne_ok ho).2.2] at h1
     exact ⟨q1 ++ t.src, by rw [List.append_assoc]; exact h1⟩
    have hdl : r.length = d.length + r'.length := by rw [hd]; simp
    have ih := ih (p ++ d) r' (acc ++ [tkV (p ++ r).length (t, l.length + 1)]) (by omega) (by simp; omega) (by simp; omega)
    have e2 : (p ++ r).length - r'.length = p.length + d.length := by simp; omega
    simp only [nextRt, hq, tokV, e2] at hrt
    subst hrt
    rw [List.append_assoc, ← hd] at ih
    unfold lexer_Scan_l1b
    simp [go_sem, e, q, bf' htk]
    simpa [tkV, tokV] using ih
theorem ds_pres : d_lexer_Scan.pres = [p1_lexer_Scan, p2_lexer_Scan] := rfl
theorem ds_nt : d_lexer_Scan.ntmps = 24 := rfl
theorem ds_d : d_lexer_Scan.d = 10 := rfl
theorem ds_g : d_lexer_Scan.g = n_lexer_Scan_1 := rfl
theorem ds_caps : d_lexer_Scan.caps = [.t 2, .t 3, .t 4] := rfl
theorem ds_post : d_lexer_Scan.post = b_lexer_Scan := rfl
theorem ds_res : d_lexer_Scan.res = [.cell 2 none, .cell 3 none, .cell 4 none] := rfl
theorem runs_Scan (s : List UInt8) : RunsD mach0 d_lexer_Scan [.str s] [] (if s.length > 65536 then .ret (.tup [.sl false 4 [], .int .i64 0, .int .i64 5]) [] else scanRt s.length [] (scan s)) := by
 unfold RunsD
 by_cases h : s.length > 65536
 ·have h' : (65536 : Int) < s.length := by omega
  rw [if_pos h]
  simp [ds_pres, ds_nt, ds_res, p1_lexer_Scan, p2_lexer_Scan, List.replicate, go_sem, h']
 ·have h' : ¬ (65536 : Int) < s.length := by omega
  rw [if_neg h]
  have := Scan_l (s.length + 1) [] s [] (by omega) (by simp; omega) (by simp)
  simp [ds_pres, ds_nt, ds_d, ds_g, ds_caps, ds_post, p1_lexer_Scan, p2_lexer_Scan, List.replicate, go_sem, h', b_lexer_Scan]
  simpa using this
def scanV (s : List UInt8) : V := if s.length > 65536 then .tup [.sl false 4 [], .int .i64 0, .int .i64 5] else match scan s with
 | .ok ts => .tup [.sl false 4 (ts.map (tkV s.length)), .int .i64 0, .int .i64 0]
 | .err rem e => .tup [.sl false 4 [], .int .i64 (s.length - rem : Nat), .int .i64 e]
theorem scanV_eq (s : List UInt8) : (if s.length > 65536 then Rt.ret (.tup [.sl false 4 [], .int .i64 0, .int .i64 5]) [] else scanRt s.length [] (scan s)) = .ret (scanV s) [] := by
 unfold scanV scanRt
 split
 ·rfl
 ·cases scan s <;> simp
theorem T1_Scan : T1 n_lexer_Scan = some (d_lexer_Scan, mach0) := by unfold T1; rw [if_pos rfl]
theorem e_Scan1 (s : List UInt8) : acall mach1 n_lexer_Scan [.str s] [] = some (.ret (scanV s) []) := by
 rw [← scanV_eq]
 exact acall_ext (M := mach1) (dcall_eq T1_Scan (runs_Scan s))
end Go.Am
namespace Go.Am
open Go Go.Pu
theorem e_rLower (b : UInt8) : acall mach0 n_billingref23_Lower [.int .u8 b.toNat] [] = some (.ret (.bool (lowerB b)) []) := by
 refine acall_fn rfl (af := a_billingref23_Lower) rfl rfl ?_
 by_cases h1 : 97 ≤ b.toNat <;> by_cases h2 : b.toNat ≤ 122
 ·simp [List.replicate, go_sem, lowerB, h1, h2, show (97 : Int) ≤ (b.toNat : Int) by omega, show (b.toNat : Int) ≤ 122 by omega]
 ·simp [List.replicate, go_sem, lowerB, h1, h2, show (97 : Int) ≤ (b.toNat : Int) by omega, show ¬ (b.toNat : Int) ≤ 122 by omega]
 ·simp [List.replicate, go_sem, lowerB, h1, h2, show ¬ (97 : Int) ≤ (b.toNat : Int) by omega, show (b.toNat : Int) ≤ 122 by omega]
 ·simp [List.replicate, go_sem, lowerB, h1, h2, show ¬ (97 : Int) ≤ (b.toNat : Int) by omega, show ¬ (b.toNat : Int) ≤ 122 by omega]
theorem e_rDigit (b : UInt8) : acall mach0 n_billingref23_Digit [.int .u8 b.toNat] [] = some (.ret (.bool (digitB b)) []) := by
 refine acall_fn rfl (af := a_billingref23_Digit) rfl rfl ?_
 by_cases h1 : 48 ≤ b.toNat <;> by_cases h2 : b.toNat ≤ 57
 ·simp [List.replicate, go_sem, digitB, h1, h2, show (48 : Int) ≤ (b.toNat : Int) by omega, show (b.toNat : Int) ≤ 57 by omega]
 ·simp [List.replicate, go_sem, digitB, h1, h2, show (48 : Int) ≤ (b.toNat : Int) by omega, show ¬ (b.toNat : Int) ≤ 57 by omega]
 ·simp [List.replicate, go_sem, digitB, h1, h2, show ¬ (48 : Int) ≤ (b.toNat : Int) by omega, show (b.toNat : Int) ≤ 57 by omega]
 ·simp [List.replicate, go_sem, digitB, h1, h2, show ¬ (48 : Int) ≤ (b.toNat : Int) by omega, show ¬ (b.toNat : Int) ≤ 57 by omega]
theorem e_inWord (b : UInt8) : acall mach0 n_billingref23_inWord [.int .u8 b.toNat] [] = some (.ret (.bool (wordB b)) []) := by
 refine acall_fn rfl (af := a_billingref23_inWord) rfl rfl ?_
 cases h1 : lowerB b <;> cases h2 : digitB b <;> by_cases h3 : (b.toNat : Int) = 45
 ·have hw : wordB b = true := by simp [wordB]; omega
  simp [List.replicate, go_sem, e_rLower, e_rDigit, hw, h1, h2, bt' h3]
 ·have hw : wordB b = false := by simp [wordB, h1, h2]; omega
  simp [List.replicate, go_sem, e_rLower, e_rDigit, hw, h1, h2, bf' h3]
 all_goals simp [List.replicate, go_sem, e_rLower, e_rDigit, wordB, h1, h2]
theorem e_inText (b : UInt8) : acall mach0 n_billingref23_inText [.int .u8 b.toNat] [] = some (.ret (.bool (textB b)) []) := by
 refine acall_fn rfl (af := a_billingref23_inText) rfl rfl ?_
 by_cases h1 : (32 : Int) ≤ (b.toNat : Int) <;> by_cases h2 : (b.toNat : Int) ≤ 126 <;> by_cases h3 : (b.toNat : Int) = 34
 ·have : textB b = false := by simp [textB]; omega
  simp [List.replicate, go_sem, this, h1, h2, nf' h3]
 ·have : textB b = true := by simp [textB]; omega
  simp [List.replicate, go_sem, this, h1, h2, nt' h3]
 all_goals
  have : textB b = false := by simp [textB]; omega
  simp [List.replicate, go_sem, this, h1, h2]
def ssV (l : List (List UInt8)) : List V := l.map V.str
theorem nth_ss {l1 l2 : List (List UInt8)} {x : List UInt8} : nth (ssV (l1 ++ x :: l2)) l1.length = .str x := by
 induction l1 with
 | nil => rfl
 | cons y l1 ih => exact ih
theorem Has_l (s : List UInt8) (o : Bool) : ∀ (l2 l1 : List (List UInt8)), l1.length + l2.length ≤ 1000 →
  Run mach0 (.c billingref23_Has_l1b :: .lp billingref23_Has_l1 :: .endB 0 :: .c billingref23_Has_k1 :: []) .norm ⟨(.sl false 1 (ssV (l1 ++ l2)) :: .str s :: .undef :: .undef :: .undef :: .int .i64 l1.length :: .undef :: .undef :: .undef :: .undef :: .undef :: .undef :: .undef :: .undef :: .undef :: .undef :: .undef :: .undef :: []), []⟩
   (FinQ [.tmp 4] 0 (.ret (.bool (l2.contains s)) []))
 | [], l1, hl => by
  have q : ¬ ((l1.length : Int) < l1.length) := by omega
  unfold billingref23_Has_l1b
  simp [go_sem, ssV, q, billingref23_Has_k1]
  simp [go_sem, billingref23_Has_k1b]
 | x :: l2, l1, hl => by
  simp only [List.length_cons] at hl
  have ih := Has_l s o l2 (l1 ++ [x]) (by simp; omega)
  have q : (l1.length : Int) < l1.length + (l2.length + 1) := by omega
  have w : IntKind.wrap .i64 ((l1.length : Int) + 1) = l1.length + 1 := wrap_i64 (by omega)
  have hn := nth_ss (l1 := l1) (l2 := l2) (x := x)
  have hlen : (ssV (l1 ++ x :: l2)).length = l1.length + (l2.length + 1) := by simp [ssV]
  unfold billingref23_Has_l1b
  by_cases h : x = s
  ·subst h
   simp [go_sem, hlen, q, hn]
  ·have h' : (x == s) = false := by simpa using h
   have hc : (x :: l2).contains s = l2.contains s := by
    simp [List.contains_cons, Ne.symm h]
   rw [hc]
   simp only [List.append_assoc, List.singleton_append, List.length_append, List.length_cons, List.length_nil, Nat.zero_add] at ih
   simp [go_sem, hlen, q, hn, h', w, -List.contains_eq_mem]
   simpa [-List.contains_eq_mem] using ih
theorem e_Has (l : List (List UInt8)) (s : List UInt8) (hl : l.length ≤ 1000) : acall mach0 n_billingref23_Has [.sl false 1 (ssV l), .str s] [] = some (.ret (.bool (l.contains s)) []) := by
 refine acall_fn rfl (af := a_billingref23_Has) rfl rfl ?_
 have := Has_l s true l [] (by simpa using hl)
 simp [List.replicate, go_sem, -List.contains_eq_mem]
 simpa [-List.contains_eq_mem] using this
theorem e_rKeyword (s : List UInt8) : acall mach0 n_billingref23_Keyword [.str s] [] = some (.ret (.bool (isKw s)) []) := by
 refine acall_fn rfl (af := a_billingref23_Keyword) rfl rfl ?_
 have h := e_Has kws s (by decide)
 simp only [ssV, kws, List.map_cons, List.map_nil] at h
 simp [List.replicate, go_sem, h, isKw, kws, -List.contains_eq_mem]
end Go.Am
namespace Go.Am
open Go Go.Pu
theorem e_Keyword (s : List UInt8) : acall mach0 n_lexer_Keyword [.str s] [] = some (.ret (.bool (isKw s)) []) := by
 by_cases hs : s ∈ kws
 ·have e : isKw s = true := by simpa [isKw] using hs
  rw [e]
  simp only [kws, List.mem_cons, List.not_mem_nil, or_false] at hs
  repeat' (rcases hs with rfl | hs)
  all_goals first
   | exact (acall_iff _).2 ⟨60, by kernel_rfl⟩
   | (subst hs; exact (acall_iff _).2 ⟨60, by kernel_rfl⟩)
 ·have e : isKw s = false := by simpa [isKw] using hs
  rw [e]
  simp only [kws, List.mem_cons, List.not_mem_nil, or_false, not_or] at hs
  have hb : ∀ {x : List UInt8}, ¬ s = x → (s == x) = false := fun h => by simpa using h
  obtain ⟨h1, h2, h3, h4, h5, h6, h7, h8, h9, h10, h11, h12, h13, h14, h15, h16, h17, h18, h19, h20, h21, h22, h23, h24, h25, h26, h27, h28, h29, h30, h31, h32, h33, h34, h35, h36, h37, h38, h39⟩ := hs
  refine acall_fn rfl (af := a_lexer_Keyword) rfl rfl ?_
  simp [List.replicate, go_sem, hb h1, hb h2, hb h3, hb h4, hb h5, hb h6, hb h7, hb h8, hb h9, hb h10, hb h11, hb h12, hb h13, hb h14, hb h15, hb h16, hb h17, hb h18, hb h19, hb h20, hb h21, hb h22, hb h23, hb h24, hb h25, hb h26, hb h27, hb h28, hb h29, hb h30, hb h31, hb h32, hb h33, hb h34, hb h35, hb h36, hb h37, hb h38, hb h39]
end Go.Am
namespace Go.Am
open Go Go.Pu
theorem Skip_l : ∀ (r p : List UInt8), p.length + r.length ≤ 1000000 →
  Run mach0 (.c billingref23_Skip_l2b :: .lp billingref23_Skip_l2 :: .endB 0 :: .c billingref23_Skip_k3 :: []) .norm ⟨(.str (p ++ r) :: .int .i64 p.length :: .undef :: .undef :: .undef :: .undef :: .undef :: .undef :: .undef :: .undef :: .undef :: .undef :: .undef :: .undef :: .undef :: .undef :: .undef :: .undef :: .undef :: .undef :: .undef :: .undef :: .undef :: .undef :: .undef :: .undef :: .undef :: .undef :: .undef :: .undef :: .undef :: .undef :: .undef :: .undef :: .undef :: .undef :: .undef :: .undef :: .undef :: .undef :: .undef :: .undef :: .undef :: .undef :: .undef :: []), []⟩
   (FinQ [.tmp 4] 0 (.ret (.int .i64 (p.length + (r.length - (skipB false r).length) : Nat)) [])) ∧
  Run mach0 (.c billingref23_Skip_l1b :: .lp billingref23_Skip_l1 :: .endB 2 :: .c billingref23_Skip_k1 :: .c billingref23_Skip_k2 :: .endB 1 :: .lp billingref23_Skip_l2 :: .endB 0 :: .c billingref23_Skip_k3 :: []) .norm ⟨(.str (p ++ r) :: .int .i64 p.length :: .undef :: .undef :: .undef :: .undef :: .undef :: .undef :: .undef :: .undef :: .undef :: .undef :: .undef :: .undef :: .undef :: .undef :: .undef :: .undef :: .undef :: .undef :: .undef :: .undef :: .undef :: .undef :: .undef :: .undef :: .undef :: .undef :: .undef :: .undef :: .undef :: .undef :: .undef :: .undef :: .undef :: .undef :: .undef :: .undef :: .undef :: .undef :: .undef :: .undef :: .undef :: .undef :: .undef :: []), []⟩
   (FinQ [.tmp 4] 0 (.ret (.int .i64 (p.length + (r.length - (skipB true r).length) : Nat)) []))
 | [], p, hl => by
  have q : ¬ ((p.length : Int) < p.length) := by omega
  have o : Run mach0 (.c billingref23_Skip_l2b :: .lp billingref23_Skip_l2 :: .endB 0 :: .c billingref23_Skip_k3 :: []) .norm ⟨(.str (p ++ []) :: .int .i64 p.length :: .undef :: .undef :: .undef :: .undef :: .undef :: .undef :: .undef :: .undef :: .undef :: .undef :: .undef :: .undef :: .undef :: .undef :: .undef :: .undef :: .undef :: .undef :: .undef :: .undef :: .undef :: .undef :: .undef :: .undef :: .undef :: .undef :: .undef :: .undef :: .undef :: .undef :: .undef :: .undef :: .undef :: .undef :: .undef :: .undef :: .undef :: .undef :: .undef :: .undef :: .undef :: .undef :: .undef :: []), []⟩
   (FinQ [.tmp 4] 0 (.ret (.int .i64 (p.length + (([] : List UInt8).length - (skipB false []).length) : Nat)) [])) := by
   unfold billingref23_Skip_l2b
   simp [go_sem, q, skipB, billingref23_Skip_k3]
   simp [go_sem, billingref23_Skip_k3b]
  refine ⟨o, ?_⟩
  unfold billingref23_Skip_l1b
  simp [go_sem, q, skipB, billingref23_Skip_k1]
  simp [go_sem, billingref23_Skip_k1b]
  simpa [skipB] using o
 | b :: l, p, hl => by
  simp only [List.length_cons] at hl
  obtain ⟨i1, i2⟩ := Skip_l l (p ++ [b]) (by simp; omega)
  have w : IntKind.wrap .i64 ((p.length : Int) + 1) = (p.length : Int) + 1 := wrap_i64 (by omega)
  have q : (p.length : Int) < (p.length : Int) + ((l.length : Int) + 1) := by omega
  have g := get_mid (p := p) (r := l) (b := b)
  have h1 := skip_le' false l
  have h2 := skip_le' true l
  simp only [List.append_assoc, List.singleton_append, List.length_append, List.length_cons, List.length_nil, Nat.zero_add] at i1 i2
  have inner : b.toNat ≠ 10 → Run mach0 (.c billingref23_Skip_l1b :: .lp billingref23_Skip_l1 :: .endB 2 :: .c billingref23_Skip_k1 :: .c billingref23_Skip_k2 :: .endB 1 :: .lp billingref23_Skip_l2 :: .endB 0 :: .c billingref23_Skip_k3 :: []) .norm ⟨(.str (p ++ b :: l) :: .int .i64 p.length :: .undef :: .undef :: .undef :: .undef :: .undef :: .undef :: .undef :: .undef :: .undef :: .undef :: .undef :: .undef :: .undef :: .undef :: .undef :: .undef :: .undef :: .undef :: .undef :: .undef :: .undef :: .undef :: .undef :: .undef :: .undef :: .undef :: .undef :: .undef :: .undef :: .undef :: .undef :: .undef :: .undef :: .undef :: .undef :: .undef :: .undef :: .undef :: .undef :: .undef :: .undef :: .undef :: .undef :: []), []⟩
   (FinQ [.tmp 4] 0 (.ret (.int .i64 (p.length + ((b :: l).length - (skipB true l).length) : Nat)) [])) := fun hb => by
   have hbi : ¬ (b.toNat : Int) = 10 := by omega
   have e3 : p.length + 1 + (l.length - (skipB true l).length) = p.length + (l.length + 1 - (skipB true l).length) := by omega
   rw [e3] at i2
   unfold billingref23_Skip_l1b
   simp [go_sem, q, g, nt' hbi, w]
   simpa using i2
  have outer : Run mach0 (.c billingref23_Skip_l2b :: .lp billingref23_Skip_l2 :: .endB 0 :: .c billingref23_Skip_k3 :: []) .norm ⟨(.str (p ++ b :: l) :: .int .i64 p.length :: .undef :: .undef :: .undef :: .undef :: .undef :: .undef :: .undef :: .undef :: .undef :: .undef :: .undef :: .undef :: .undef :: .undef :: .undef :: .undef :: .undef :: .undef :: .undef :: .undef :: .undef :: .undef :: .undef :: .undef :: .undef :: .undef :: .undef :: .undef :: .undef :: .undef :: .undef :: .undef :: .undef :: .undef :: .undef :: .undef :: .undef :: .undef :: .undef :: .undef :: .undef :: .undef :: .undef :: []), []⟩
   (FinQ [.tmp 4] 0 (.ret (.int .i64 (p.length + ((b :: l).length - (skipB false (b :: l)).length) : Nat)) [])) := by
   by_cases hb : blankB b = true
   ·have e : skipB false (b :: l) = skipB false l := by rw [skipB, if_pos hb]
    have e3 : p.length + 1 + (l.length - (skipB false l).length) = p.length + (l.length + 1 - (skipB false l).length) := by omega
    rw [e3] at i1
    rw [e]
    have h35 : ¬ (b.toNat : Int) = 35 := by simp [blankB] at hb; omega
    have hbi : (b.toNat : Int) = 32 ∨ (b.toNat : Int) = 9 ∨ (b.toNat : Int) = 10 := by
     simp [blankB] at hb; omega
    unfold billingref23_Skip_l2b
    simp [go_sem, q, g, bf' h35, billingref23_Skip_k2]
    unfold billingref23_Skip_k2b
    rcases hbi with hbi | hbi | hbi
    ·simp [go_sem, q, g, nf' hbi, w]; simpa using i1
    ·simp [go_sem, q, g, nf' hbi, nt' (show ¬ (b.toNat : Int) = 32 by omega), w]; simpa using i1
    ·simp [go_sem, q, g, nf' hbi, nt' (show ¬ (b.toNat : Int) = 32 by omega), nt' (show ¬ (b.toNat : Int) = 9 by omega), w]; simpa using i1
   ·have h32 : ¬ (b.toNat : Int) = 32 := by intro h; apply hb; simp [blankB]; omega
    have h9 : ¬ (b.toNat : Int) = 9 := by intro h; apply hb; simp [blankB]; omega
    have h10 : ¬ (b.toNat : Int) = 10 := by intro h; apply hb; simp [blankB]; omega
    by_cases h35 : b.toNat = 35
    ·have e : skipB false (b :: l) = skipB true l := by rw [skipB, if_neg hb, if_pos h35]
     have hbi : (b.toNat : Int) = 35 := by omega
     rw [e]
     unfold billingref23_Skip_l2b
     simp [go_sem, q, g, bt' hbi]
     simpa using inner (by omega)
    ·have e : skipB false (b :: l) = b :: l := by rw [skipB, if_neg hb, if_neg h35]
     have hbi : ¬ (b.toNat : Int) = 35 := by omega
     rw [e]
     unfold billingref23_Skip_l2b
     simp [go_sem, q, g, bf' hbi, billingref23_Skip_k2]
     simp [go_sem, q, g, billingref23_Skip_k2b, nt' h32, nt' h9, nt' h10]
  refine ⟨outer, ?_⟩
  by_cases hb : b.toNat = 10
  ·have e : skipB true (b :: l) = skipB false l := by rw [skipB, if_pos hb]
   have e2 : skipB false (b :: l) = skipB false l := by rw [skipB, if_pos (by simp [blankB, hb])]
   have hbi : (b.toNat : Int) = 10 := by omega
   rw [e2] at outer
   rw [e]
   unfold billingref23_Skip_l1b
   simp [go_sem, q, g, nf' hbi, billingref23_Skip_k1]
   simp [go_sem, billingref23_Skip_k1b]
   simpa using outer
  ·have e : skipB true (b :: l) = skipB true l := by rw [skipB, if_neg hb]
   rw [e]
   exact inner hb
theorem e_rSkip (p r : List UInt8) (hl : p.length + r.length ≤ 1000000) : acall mach0 n_billingref23_Skip [.str (p ++ r), .int .i64 p.length] [] = some (.ret (.int .i64 (p.length + (r.length - (skipB false r).length) : Nat)) []) := by
 refine acall_fn rfl (af := a_billingref23_Skip) rfl rfl ?_
 have := (Skip_l r p hl).1
 simp [List.replicate, go_sem]
 simpa using this
theorem Value_l : ∀ (r p : List UInt8), p.length + r.length ≤ 1000000 → (p ++ r).all digitB = true →
  Run mach0 (.c billingref23_Value_l1b :: .lp billingref23_Value_l1 :: .endB 0 :: .c billingref23_Value_k1 :: []) .norm ⟨(.str (p ++ r) :: .undef :: .undef :: .int .i64 (value p) :: .int .i64 p.length :: .undef :: .undef :: .undef :: .undef :: .undef :: .undef :: .undef :: .undef :: .undef :: .undef :: .undef :: .undef :: .undef :: .undef :: .undef :: .undef :: .undef :: .undef :: .undef :: []), []⟩
   (FinQ [.tmp 2] 0 (.ret (.int .i64 (value (p ++ r))) []))
 | [], p, hl, hd => by
  have q : ¬ ((p.length : Int) < p.length) := by omega
  unfold billingref23_Value_l1b
  simp [go_sem, q, billingref23_Value_k1]
  simp [go_sem, billingref23_Value_k1b]
 | b :: r, p, hl, hd => by
  have hdp : p.all digitB = true := by simp at hd ⊢; exact hd.1
  have hb : 48 ≤ b.toNat ∧ b.toNat ≤ 57 := by
   have : digitB b = true := by simp at hd; exact hd.2.1
   simpa [digitB] using this
  have hlt := value_lt hdp
  have hv : value (p ++ [b]) = if p.length < 16 then 10 * value p + (b.toNat - 48) else value p := valF_snoc 16 0 p b
  by_cases h16 : p.length < 16
  ·have ih := Value_l r (p ++ [b]) (by simp at hl ⊢; omega) (by simpa using hd)
   simp only [List.length_cons] at hl
   rw [if_pos h16] at hv
   simp only [List.append_assoc, List.singleton_append, List.length_append, List.length_cons, List.length_nil, Nat.zero_add, hv] at ih
   have h16' : (p.length : Int) < 16 := by omega
   have q : (p.length : Int) < p.length + (r.length + 1) := by omega
   have g := get_mid (p := p) (r := r) (b := b)
   have w : IntKind.wrap .i64 ((p.length : Int) + 1) = p.length + 1 := wrap_i64 (by omega)
   have w2 : IntKind.wrap .u8 ((b.toNat : Int) - 48) = ((b.toNat - 48 : Nat) : Int) := by
    have : (b.toNat : Int) - 48 = ((b.toNat - 48 : Nat) : Int) := by omega
    rw [this, wrap_u8]; omega
   generalize value p = v at *
   have w3 : IntKind.wrap .i64 ((b.toNat - 48 : Nat) : Int) = ((b.toNat - 48 : Nat) : Int) := wrap_i64 (by omega)
   have w4 : IntKind.wrap .i64 (10 * (v : Int)) = 10 * (v : Int) := wrap_i64 (by omega)
   have w5 : IntKind.wrap .i64 (10 * (v : Int) + ((b.toNat - 48 : Nat) : Int)) = 10 * (v : Int) + ((b.toNat - 48 : Nat) : Int) := by rw [wrap_i64 (by omega)]
   unfold billingref23_Value_l1b
   simp [go_sem, q, h16', g, w, w2, w3, w4, w5]
   simpa using ih
  ·have h16' : ¬ (p.length : Int) < 16 := by omega
   have hsame : ∀ (r p : List UInt8), ¬ p.length < 16 → value (p ++ r) = value p := by
    intro r
    induction r with
    | nil => intro p _; simp
    | cons c r ih =>
     intro p hp
     have h1 := ih (p ++ [c]) (by simp; omega)
     have h2 : value (p ++ [c]) = if p.length < 16 then 10 * value p + (c.toNat - 48) else value p := valF_snoc 16 0 p c
     rw [if_neg hp] at h2
     rw [← h2, ← h1]; simp
   rw [hsame _ _ h16]
   have q : (p.length : Int) < p.length + (r.length + 1) := by omega
   unfold billingref23_Value_l1b
   simp [go_sem, q, h16', billingref23_Value_k1]
   simp [go_sem, billingref23_Value_k1b]
theorem e_Value (s : List UInt8) (hl : s.length ≤ 1000000) (hd : s.all digitB = true) : acall mach0 n_billingref23_Value [.str s] [] = some (.ret (.int .i64 (value s)) []) := by
 refine acall_fn rfl (af := a_billingref23_Value) rfl rfl ?_
 have := Value_l s [] (by simpa using hl) hd
 have e0 : value [] = 0 := rfl
 rw [e0] at this
 simp [List.replicate, go_sem]
 simpa using this
end Go.Am
namespace Go.Am
open Go Go.Pu
def rtokV (n k : Nat) : LR → V
 | .ok t r => .tup [tokV t.kind t.val k t.str, .int .i64 (n - r.length : Nat), .int .i64 0]
 | .err e => .tup [tokV 0 0 0 [], .int .i64 k, .int .i64 e]
theorem rword_l (p : List UInt8) : ∀ (r w : List UInt8), p.length + w.length + r.length ≤ 1000000 →
    Run mach0 (.c billingref23_word_l1b :: .lp billingref23_word_l1 :: .endB 0 :: .c billingref23_word_k1 :: []) .norm
      ⟨(.str (p ++ (w ++ r)) :: .int .i64 p.length :: .undef :: .undef :: .box [.int .i64 0, .int .i64 0, .int .i64 0, .str []] :: .undef :: .undef :: .int .i64 (p.length + w.length : Nat) :: .undef :: .undef :: .undef :: .undef :: .undef :: .undef :: .undef :: .undef :: .undef :: .undef :: .undef :: .undef :: .undef :: .undef :: .undef :: .undef :: .undef :: .undef :: .undef :: .undef :: .undef :: .undef :: .undef :: .undef :: .undef :: .undef :: []), []⟩
      (FinQ [.cell 4 (some 4), .tmp 5, .tmp 6] 0 (.ret (rtokV (p ++ (w ++ r)).length p.length (if (w ++ r.takeWhile wordB).length > 24 then .err 5 else .ok (.word (w ++ r.takeWhile wordB)) (r.dropWhile wordB))) [])) := by
  have fin : ∀ (w r : List UInt8), p.length + w.length + r.length ≤ 1000000 → Run mach0 [.c billingref23_word_k1b] .norm ⟨(.str (p ++ (w ++ r)) :: .int .i64 p.length :: .undef :: .undef :: .box [.int .i64 0, .int .i64 0, .int .i64 0, .str []] :: .undef :: .undef :: .int .i64 (p.length + w.length : Nat) :: .undef :: .undef :: .undef :: .undef :: .undef :: .undef :: .undef :: .undef :: .undef :: .undef :: .undef :: .undef :: .undef :: .undef :: .undef :: .undef :: .undef :: .undef :: .undef :: .undef :: .undef :: .undef :: .undef :: .undef :: .undef :: .undef :: []), []⟩
      (FinQ [.cell 4 (some 4), .tmp 5, .tmp 6] 0 (.ret (rtokV (p ++ (w ++ r)).length p.length (if w.length > 24 then .err 5 else .ok (.word w) r)) [])) := by
    intro w r hl
    have w1 : IntKind.wrap .i64 ((p.length : Int) + w.length - p.length) = w.length := by rw [wrap_i64 (by omega)]; omega
    have q1 : (p.length : Int) ≤ (p.length : Int) + w.length := by omega
    have q2 : (p.length : Int) + w.length ≤ (p.length : Int) + (w.length + r.length) := by omega
    have e1 : ((p.length : Int) + (w.length : Int)).toNat = p.length + w.length := by omega
    have e2 := slice_mid (p := p) (w := w) (r := r)
    unfold billingref23_word_k1b
    by_cases h : w.length > 24
    · have h' : (24 : Int) < w.length := by omega
      simp [go_sem, w1, h, h', rtokV, tokV]
    · have h' : ¬ (24 : Int) < w.length := by omega
      have e5 : p.length + (w.length + r.length) - r.length = p.length + w.length := by omega
      simp [go_sem, w1, h, h', q1, q2, e1, e2, rtokV, tokV, Tk.kind, Tk.val, Tk.str, e5]
  intro r
  induction r with
  | nil =>
    intro w hl
    have f := fin w [] hl
    have q : ¬ ((p.length : Int) + w.length < p.length + w.length) := by omega
    unfold billingref23_word_l1b
    simp [go_sem, billingref23_word_k1, q]
    simpa using f
  | cons b r ih =>
    intro w hl
    simp only [List.length_cons] at hl
    have f := fin w (b :: r) (by simp; omega)
    have ih := ih (w ++ [b]) (by simp; omega)
    have q : (p.length : Int) + w.length < (p.length : Int) + (w.length + (r.length + 1)) := by omega
    have e1 : ((p.length : Int) + (w.length : Int)).toNat = p.length + w.length := by omega
    have g : (p ++ (w ++ b :: r))[p.length + w.length]?.getD 0 = b := by rw [← List.append_assoc, ← List.length_append]; exact get_mid
    have pos : (0 : Int) ≤ (p.length : Int) + w.length := by omega
    have wr : IntKind.wrap .i64 ((p.length : Int) + w.length + 1) = (p.length : Int) + (w.length + 1) := by rw [wrap_i64 (by omega)]; omega
    simp only [List.append_assoc, List.singleton_append, List.length_append, List.length_cons, List.length_nil, Nat.zero_add] at ih f
    simp only [List.length_append, List.length_cons]
    by_cases h1 : wordB b = true
    · have e : (b :: r).takeWhile wordB = b :: r.takeWhile wordB := List.takeWhile_cons_of_pos h1
      have e' : (b :: r).dropWhile wordB = r.dropWhile wordB := List.dropWhile_cons_of_pos h1
      rw [e, e']
      unfold billingref23_word_l1b
      simp [go_sem, q, e1, g, pos, e_inWord, h1, wr]
      simpa using ih
    · have e : (b :: r).takeWhile wordB = [] := List.takeWhile_cons_of_neg h1
      have e' : (b :: r).dropWhile wordB = b :: r := List.dropWhile_cons_of_neg h1
      have h1 : wordB b = false := by simpa using h1
      rw [e, e']
      unfold billingref23_word_l1b
      simp [go_sem, q, e1, g, pos, e_inWord, h1, billingref23_word_k1]
      simpa using f
theorem e_rword (p r : List UInt8) (hl : p.length + r.length ≤ 1000000) : acall mach0 n_billingref23_word [.str (p ++ r), .int .i64 p.length] [] = some (.ret (rtokV (p ++ r).length p.length (lexWord r)) []) := by
 refine acall_fn rfl (af := a_billingref23_word) rfl rfl ?_
 have := rword_l p r [] (by simpa using hl)
 simp only [List.nil_append, List.length_nil, Nat.add_zero] at this
 simp [List.replicate, go_sem]
 simpa [lexWord] using this
theorem rnum_l (p : List UInt8) : ∀ (r w : List UInt8), p.length + w.length + r.length ≤ 1000000 → w.all digitB = true →
    Run mach0 (.c billingref23_number_l1b :: .lp billingref23_number_l1 :: .endB 0 :: .c billingref23_number_k1 :: []) .norm
      ⟨(.str (p ++ (w ++ r)) :: .int .i64 p.length :: .undef :: .undef :: .box [.int .i64 0, .int .i64 0, .int .i64 0, .str []] :: .undef :: .undef :: .int .i64 (p.length + w.length : Nat) :: .undef :: .undef :: .undef :: .undef :: .undef :: .undef :: .undef :: .undef :: .undef :: .undef :: .undef :: .undef :: .undef :: .undef :: .undef :: .undef :: .undef :: .undef :: .undef :: .undef :: .undef :: .undef :: .undef :: .undef :: .undef :: .undef :: .undef :: .undef :: .undef :: .undef :: .undef :: .undef :: .undef :: .undef :: .undef :: .undef :: .undef :: .undef :: .undef :: .undef :: .undef :: .undef :: .undef :: []), []⟩
      (FinQ [.cell 4 (some 4), .tmp 5, .tmp 6] 0 (.ret (rtokV (p ++ (w ++ r)).length p.length (if (w ++ r.takeWhile digitB).length > 16 then .err 5 else if headIs lowerB (r.dropWhile digitB) then .err 1 else .ok (.num (w ++ r.takeWhile digitB)) (r.dropWhile digitB))) [])) := by
  have fin : ∀ (w r : List UInt8), p.length + w.length + r.length ≤ 1000000 → w.all digitB = true → Run mach0 [.c billingref23_number_k1b] .norm ⟨(.str (p ++ (w ++ r)) :: .int .i64 p.length :: .undef :: .undef :: .box [.int .i64 0, .int .i64 0, .int .i64 0, .str []] :: .undef :: .undef :: .int .i64 (p.length + w.length : Nat) :: .undef :: .undef :: .undef :: .undef :: .undef :: .undef :: .undef :: .undef :: .undef :: .undef :: .undef :: .undef :: .undef :: .undef :: .undef :: .undef :: .undef :: .undef :: .undef :: .undef :: .undef :: .undef :: .undef :: .undef :: .undef :: .undef :: .undef :: .undef :: .undef :: .undef :: .undef :: .undef :: .undef :: .undef :: .undef :: .undef :: .undef :: .undef :: .undef :: .undef :: .undef :: .undef :: .undef :: []), []⟩
      (FinQ [.cell 4 (some 4), .tmp 5, .tmp 6] 0 (.ret (rtokV (p ++ (w ++ r)).length p.length (if w.length > 16 then .err 5 else if headIs lowerB r then .err 1 else .ok (.num w) r)) [])) := by
    intro w r hl hw
    have w1 : IntKind.wrap .i64 ((p.length : Int) + w.length - p.length) = w.length := by rw [wrap_i64 (by omega)]; omega
    have q1 : (p.length : Int) ≤ (p.length : Int) + w.length := by omega
    have q2 : (p.length : Int) + w.length ≤ (p.length : Int) + (w.length + r.length) := by omega
    have e1 : ((p.length : Int) + (w.length : Int)).toNat = p.length + w.length := by omega
    have e2 := slice_mid (p := p) (w := w) (r := r)
    have ev := e_Value w (by omega) hw
    unfold billingref23_number_k1b
    by_cases h : w.length > 16
    · have h' : (16 : Int) < w.length := by omega
      simp [go_sem, w1, h, h', rtokV, tokV]
    · have h' : ¬ (16 : Int) < w.length := by omega
      have e5 : p.length + (w.length + r.length) - r.length = p.length + w.length := by omega
      cases r with
      | nil =>
        have q : ¬ ((p.length : Int) + w.length < p.length + w.length) := by omega
        simp only [List.append_nil] at e2
        have e6 : List.drop p.length (List.take (p.length + w.length) (p ++ w)) = w := e2
        simp [go_sem, w1, h, h', q1, e1, q, headIs]
        rw [List.take_of_length_le (by simp)]
        simp [go_sem, ev, rtokV, tokV, Tk.kind, Tk.val, Tk.str]
        exact ⟨by omega, by rw [e1]; exact e6⟩
      | cons b r =>
        have q : (p.length : Int) + w.length < (p.length : Int) + (w.length + (r.length + 1)) := by omega
        have g : (p ++ (w ++ b :: r))[p.length + w.length]?.getD 0 = b := by rw [← List.append_assoc, ← List.length_append]; exact get_mid
        have pos : (0 : Int) ≤ (p.length : Int) + w.length := by omega
        simp only [List.length_cons, Int.natCast_add] at q2 e5
        cases hb : lowerB b with
        | true => simp [go_sem, w1, h, h', q, e1, g, pos, e_rLower, hb, headIs, rtokV, tokV]
        | false =>
          simp at q2
          simp [go_sem, w1, h, h', q, q1, q2, e1, g, pos, e_rLower, hb, headIs, e2, ev, rtokV, tokV, Tk.kind, Tk.val, Tk.str, e5]
          try omega
  intro r
  induction r with
  | nil =>
    intro w hl hw
    have f := fin w [] hl hw
    have q : ¬ ((p.length : Int) + w.length < p.length + w.length) := by omega
    unfold billingref23_number_l1b
    simp [go_sem, billingref23_number_k1, q]
    simpa using f
  | cons b r ih =>
    intro w hl hw
    simp only [List.length_cons] at hl
    have f := fin w (b :: r) (by simp; omega) hw
    have q : (p.length : Int) + w.length < (p.length : Int) + (w.length + (r.length + 1)) := by omega
    have e1 : ((p.length : Int) + (w.length : Int)).toNat = p.length + w.length := by omega
    have g : (p ++ (w ++ b :: r))[p.length + w.length]?.getD 0 = b := by rw [← List.append_assoc, ← List.length_append]; exact get_mid
    have pos : (0 : Int) ≤ (p.length : Int) + w.length := by omega
    have wr : IntKind.wrap .i64 ((p.length : Int) + w.length + 1) = (p.length : Int) + (w.length + 1) := by rw [wrap_i64 (by omega)]; omega
    simp only [List.length_append, List.length_cons] at f ⊢
    by_cases h1 : digitB b = true
    · have ih := ih (w ++ [b]) (by simp; omega) (by simp [hw, h1])
      simp only [List.append_assoc, List.singleton_append, List.length_append, List.length_cons, List.length_nil, Nat.zero_add] at ih
      have e : (b :: r).takeWhile digitB = b :: r.takeWhile digitB := List.takeWhile_cons_of_pos h1
      have e' : (b :: r).dropWhile digitB = r.dropWhile digitB := List.dropWhile_cons_of_pos h1
      rw [e, e']
      unfold billingref23_number_l1b
      simp [go_sem, q, e1, g, pos, e_rDigit, h1, wr]
      simpa using ih
    · have e : (b :: r).takeWhile digitB = [] := List.takeWhile_cons_of_neg h1
      have e' : (b :: r).dropWhile digitB = b :: r := List.dropWhile_cons_of_neg h1
      have h1 : digitB b = false := by simpa using h1
      rw [e, e']
      unfold billingref23_number_l1b
      simp [go_sem, q, e1, g, pos, e_rDigit, h1, billingref23_number_k1]
      simpa using f
theorem e_rnumber (p r : List UInt8) (hl : p.length + r.length ≤ 1000000) : acall mach0 n_billingref23_number [.str (p ++ r), .int .i64 p.length] [] = some (.ret (rtokV (p ++ r).length p.length (lexNum r)) []) := by
 refine acall_fn rfl (af := a_billingref23_number) rfl rfl ?_
 have := rnum_l p r [] (by simpa using hl) rfl
 simp only [List.nil_append, List.length_nil, Nat.add_zero] at this
 simp [List.replicate, go_sem]
 simpa [lexNum] using this
end Go.Am
namespace Go.Am
open Go Go.Pu
def txtR (w rest : List UInt8) : LR := match rest with
 | [] => .err 1
 | c :: r => if c.toNat = 34 then (if w.length > 200 then .err 5 else .ok (.text w) r) else .err 1
theorem rtext_l (p : List UInt8) (c : UInt8) : ∀ (r w : List UInt8), p.length + 1 + w.length + r.length ≤ 1000000 →
  Run mach0 (.c billingref23_text_l1b :: .lp billingref23_text_l1 :: .endB 0 :: .c billingref23_text_k1 :: []) .norm
   ⟨(.str (p ++ c :: (w ++ r)) :: .int .i64 p.length :: .undef :: .undef :: .box [.int .i64 0, .int .i64 0, .int .i64 0, .str []] :: .undef :: .undef :: .int .i64 (p.length + 1 + w.length : Nat) :: .undef :: .undef :: .undef :: .undef :: .undef :: .undef :: .undef :: .undef :: .undef :: .undef :: .undef :: .undef :: .undef :: .undef :: .undef :: .undef :: .undef :: .undef :: .undef :: .undef :: .undef :: .undef :: .undef :: .undef :: .undef :: .undef :: .undef :: .undef :: .undef :: .undef :: .undef :: .undef :: .undef :: .undef :: .undef :: .undef :: .undef :: .undef :: .undef :: .undef :: .undef :: .undef :: []), []⟩
   (FinQ [.cell 4 (some 4), .tmp 5, .tmp 6] 0 (.ret (rtokV (p.length + 1 + w.length + r.length) p.length (txtR (w ++ r.takeWhile textB) (r.dropWhile textB))) [])) := by
 intro r
 induction r with
 | nil =>
  intro w hl
  have q : ¬ ((p.length : Int) + 1 + w.length < p.length + (w.length + 1)) := by omega
  have q2 : (p.length : Int) + 1 + w.length = p.length + (w.length + 1) := by omega
  unfold billingref23_text_l1b
  simp [go_sem, billingref23_text_k1, q]
  unfold billingref23_text_k1b
  simp [go_sem, bt' q2, txtR, rtokV, tokV]
 | cons b r ih =>
  intro w hl
  simp only [List.length_cons] at hl
  have q : (p.length : Int) + 1 + w.length < (p.length : Int) + (w.length + (r.length + 1) + 1) := by omega
  have q3 : ¬ ((p.length : Int) + 1 + w.length = (p.length : Int) + (w.length + (r.length + 1) + 1)) := by omega
  have e1 : ((p.length : Int) + 1 + (w.length : Int)).toNat = p.length + 1 + w.length := by omega
  have g : (p ++ c :: (w ++ b :: r))[p.length + 1 + w.length]?.getD 0 = b := by
   have := get_mid (p := p ++ c :: w) (r := r) (b := b)
   simp only [List.append_assoc, List.cons_append, List.length_append, List.length_cons] at this
   have e : p.length + 1 + w.length = p.length + (w.length + 1) := by omega
   rw [e]; exact this
  have pos : (0 : Int) ≤ (p.length : Int) + 1 + w.length := by omega
  have wr : IntKind.wrap .i64 ((p.length : Int) + 1 + w.length + 1) = (p.length : Int) + 1 + (w.length + 1) := by rw [wrap_i64 (by omega)]; omega
  by_cases ht : textB b = true
  ·have e : (b :: r).takeWhile textB = b :: r.takeWhile textB := List.takeWhile_cons_of_pos ht
   have e' : (b :: r).dropWhile textB = r.dropWhile textB := List.dropWhile_cons_of_pos ht
   have ih := ih (w ++ [b]) (by simp; omega)
   simp only [List.append_assoc, List.singleton_append, List.length_append, List.length_cons, List.length_nil, Nat.zero_add] at ih
   have e7 : p.length + 1 + (w.length + 1) + r.length = p.length + 1 + w.length + (b :: r).length := by simp; omega
   rw [e7] at ih
   rw [e, e']
   unfold billingref23_text_l1b
   simp [go_sem, q, e1, g, pos, e_inText, ht, wr]
   simpa using ih
  ·have e : (b :: r).takeWhile textB = [] := List.takeWhile_cons_of_neg ht
   have e' : (b :: r).dropWhile textB = b :: r := List.dropWhile_cons_of_neg ht
   have ht : textB b = false := by simpa using ht
   rw [e, e']
   simp only [List.append_nil, txtR]
   by_cases h34 : b.toNat = 34
   ·have hi : (b.toNat : Int) = 34 := by omega
    simp only [if_pos h34]
    have w1 : IntKind.wrap .i64 ((p.length : Int) + 1 + w.length - p.length) = w.length + 1 := by rw [wrap_i64 (by omega)]; omega
    have w2 : IntKind.wrap .i64 ((w.length : Int) + 1 - 1) = w.length := by rw [wrap_i64 (by omega)]; omega
    have w2' : IntKind.wrap .i64 (w.length : Int) = w.length := wrap_i64 (by omega)
    have w3 : IntKind.wrap .i64 ((p.length : Int) + 1) = p.length + 1 := wrap_i64 (by omega)
    have p2 : (0 : Int) ≤ (p.length : Int) + 1 := by omega
    have p3 : (p.length : Int) + 1 ≤ (p.length : Int) + 1 + w.length := by omega
    have p4 : (p.length : Int) + 1 + w.length ≤ (p.length : Int) + (w.length + (r.length + 1) + 1) := by omega
    have e3 : ((p.length : Int) + 1).toNat = p.length + 1 := by omega
    have e2 := slice_txt (p := p) (w := w) (r := b :: r) (c := c)
    have e8 : p.length + 1 + w.length + (r.length + 1) - r.length = p.length + 1 + w.length + 1 := by omega
    by_cases h : w.length > 200
    ·have h' : (200 : Int) < w.length := by omega
     unfold billingref23_text_l1b
     simp [go_sem, q, e1, g, pos, e_inText, ht, billingref23_text_k1, h]
     unfold billingref23_text_k1b
     simp [go_sem, q3, bf' q3, e1, g, q, pos, nf' hi, w1, w2, w2', h', rtokV, tokV]
    ·have h' : ¬ (200 : Int) < w.length := by omega
     unfold billingref23_text_l1b
     simp [go_sem, q, e1, g, pos, e_inText, ht, billingref23_text_k1, h]
     unfold billingref23_text_k1b
     simp [go_sem, q3, bf' q3, e1, g, q, pos, nf' hi, w1, w2, w2', w3, p2, p3, p4, e3, e2, wr, h', rtokV, tokV, Tk.kind, Tk.val, Tk.str, e8]
     try omega
   ·have hi : ¬ (b.toNat : Int) = 34 := by omega
    simp only [if_neg h34]
    unfold billingref23_text_l1b
    simp [go_sem, q, e1, g, pos, e_inText, ht, billingref23_text_k1]
    unfold billingref23_text_k1b
    simp [go_sem, q3, bf' q3, e1, g, q, pos, nt' hi, rtokV, tokV]
theorem e_rtext (p l : List UInt8) (c : UInt8) (hl : p.length + 1 + l.length ≤ 1000000) : acall mach0 n_billingref23_text [.str (p ++ c :: l), .int .i64 p.length] [] = some (.ret (rtokV (p ++ c :: l).length p.length (lexText l)) []) := by
 refine acall_fn rfl (af := a_billingref23_text) rfl rfl ?_
 have h := rtext_l p c l [] (by simpa using hl)
 simp only [List.nil_append, List.length_nil, Nat.add_zero] at h
 have w3 : IntKind.wrap .i64 ((p.length : Int) + 1) = p.length + 1 := wrap_i64 (by omega)
 have e : txtR (l.takeWhile textB) (l.dropWhile textB) = lexText l := rfl
 have e2 : (p ++ c :: l).length = p.length + 1 + l.length := by simp; omega
 rw [e] at h
 rw [e2]
 simp [List.replicate, go_sem, w3]
 simpa using h
end Go.Am
namespace Go.Am
open Go Go.Pu
def syms : List (List UInt8) := [[60, 62], [60, 61], [62, 61], [59], [44], [43], [45], [58], [40], [41], [61], [60], [62], [42], [47], [37]]
def symR (cands : List (List UInt8)) (r : List UInt8) : LR := match cands.find? (fun c => r.take c.length == c) with
 | some c => .ok (.sym c) (r.drop c.length)
 | none => .err 1
theorem symR_eq (b : UInt8) (l : List UInt8) : symR syms (b :: l) = lexSym b l := by
 unfold lexSym
 by_cases h60 : b.toNat = 60
 ·obtain rfl : b = 60 := toNat_eq h60
  rw [if_pos h60]
  cases l with
  | nil => rfl
  | cons c l =>
   simp only
   by_cases hc : c.toNat = 62 ∨ c.toNat = 61
   ·rw [if_pos hc]
    rcases hc with hc | hc
    ·obtain rfl := toNat_eq hc; rfl
    ·obtain rfl := toNat_eq hc; rfl
   ·rw [if_neg hc]
    have h1 : ¬ c = 62 := fun h => hc (.inl (by rw [h]; rfl))
    have h2 : ¬ c = 61 := fun h => hc (.inr (by rw [h]; rfl))
    simp [symR, syms, h1, h2]
 ·rw [if_neg h60]
  have n60 : ¬ b = 60 := fun h => h60 (by rw [h]; rfl)
  by_cases h62 : b.toNat = 62
  ·obtain rfl : b = 62 := toNat_eq h62
   rw [if_pos h62]
   cases l with
   | nil => rfl
   | cons c l =>
    simp only
    by_cases hc : c.toNat = 61
    ·rw [if_pos hc]
     obtain rfl := toNat_eq hc; rfl
    ·rw [if_neg hc]
     have h2 : ¬ c = 61 := fun h => hc (by rw [h]; rfl)
     simp [symR, syms, h2]
  ·rw [if_neg h62]
   have n62 : ¬ b = 62 := fun h => h62 (by rw [h]; rfl)
   by_cases hs : b.toNat ∈ singles
   ·rw [if_pos hs]
    simp only [singles, List.mem_cons, List.not_mem_nil, or_false] at hs
    rcases hs with hv | hv | hv | hv | hv | hv | hv | hv | hv | hv | hv <;> (obtain rfl := toNat_eq hv; rfl)
   ·rw [if_neg hs]
    simp only [singles, List.mem_cons, List.not_mem_nil, or_false, not_or] at hs
    obtain ⟨a1, a2, a3, a4, a5, a6, a7, a8, a9, a10, a11⟩ := hs
    have i : ∀ {n : UInt8}, ¬ b.toNat = n.toNat → ¬ b = n := fun h e => h (by rw [e])
    simp [symR, syms, n60, n62, i (n := 59) a1, i (n := 44) a2, i (n := 43) a3, i (n := 45) a4, i (n := 58) a5, i (n := 40) a6, i (n := 41) a7, i (n := 61) a8, i (n := 42) a9, i (n := 47) a10, i (n := 37) a11]
theorem e_Symbols : acall mach0 n_billingref23_Symbols [] [] = some (.ret (.sl true 1 (ssV syms)) []) := (acall_iff _).2 ⟨60, by kernel_rfl⟩
theorem take_drop_mid {p r : List UInt8} {n : Nat} : ((p ++ r).take (p.length + n)).drop p.length = r.take n := by
 rw [List.take_length_add_append, List.drop_left']; rfl
theorem rsym_l (p r : List UInt8) (hp : p.length + r.length ≤ 1000000) : ∀ (l2 l1 : List (List UInt8)), l1.length + l2.length ≤ 1000 → (∀ c ∈ l2, c.length ≤ 10) →
  Run mach0 (.c billingref23_symbol_l1b :: .lp billingref23_symbol_l1 :: .endB 0 :: .c billingref23_symbol_k1 :: []) .norm
   ⟨(.str (p ++ r) :: .int .i64 p.length :: .undef :: .undef :: .box [.int .i64 0, .int .i64 0, .int .i64 0, .str []] :: .undef :: .undef :: .sl false 1 (ssV (l1 ++ l2)) :: .int .i64 l1.length :: .undef :: .undef :: .undef :: .undef :: .undef :: .undef :: .undef :: .undef :: .undef :: .undef :: .undef :: .undef :: .undef :: .undef :: .undef :: .undef :: .undef :: .undef :: .undef :: .undef :: .undef :: .undef :: .undef :: .undef :: .undef :: .undef :: .undef :: .undef :: .undef :: .undef :: .undef :: .undef :: .undef :: .undef :: .undef :: .undef :: .undef :: .undef :: .undef :: .undef :: .undef :: .undef :: .undef :: []), []⟩
   (FinQ [.cell 4 (some 4), .tmp 5, .tmp 6] 0 (.ret (rtokV (p ++ r).length p.length (symR l2 r)) []))
 | [], l1, hl, hc => by
  have q : ¬ ((l1.length : Int) < l1.length) := by omega
  unfold billingref23_symbol_l1b
  simp [go_sem, ssV, q, billingref23_symbol_k1]
  simp [go_sem, billingref23_symbol_k1b, symR, rtokV, tokV]
 | x :: l2, l1, hl, hc => by
  simp only [List.length_cons] at hl
  have hx := hc x (by simp)
  have ih := rsym_l p r hp l2 (l1 ++ [x]) (by simp; omega) (fun c h => hc c (by simp [h]))
  have q : (l1.length : Int) < l1.length + (l2.length + 1) := by omega
  have w : IntKind.wrap .i64 ((l1.length : Int) + 1) = l1.length + 1 := wrap_i64 (by omega)
  have w2 : IntKind.wrap .i64 ((p.length : Int) + x.length) = p.length + x.length := wrap_i64 (by omega)
  have hn := nth_ss (l1 := l1) (l2 := l2) (x := x)
  have hlen : (ssV (l1 ++ x :: l2)).length = l1.length + (l2.length + 1) := by simp [ssV]
  have e1 : ((p.length : Int) + (x.length : Int)).toNat = p.length + x.length := by omega
  have e2 := take_drop_mid (p := p) (r := r) (n := x.length)
  have q2 : (p.length : Int) ≤ p.length + x.length := by omega
  by_cases h : r.take x.length = x
  ·have hle : x.length ≤ r.length := by
    have := congrArg List.length h
    simp at this; omega
   have q3 : (p.length : Int) + x.length ≤ p.length + r.length := by omega
   have e : symR (x :: l2) r = .ok (.sym x) (r.drop x.length) := by simp [symR, h]
   have e5 : p.length + r.length - (r.length - x.length) = p.length + x.length := by omega
   rw [e]
   unfold billingref23_symbol_l1b
   simp [go_sem, hlen, q, hn, w2, q2, q3, e1, e2, h, rtokV, tokV, Tk.kind, Tk.val, Tk.str, e5]
  ·have h' : (r.take x.length == x) = false := by simpa using h
   have e : symR (x :: l2) r = symR l2 r := by simp [symR, h']
   rw [e]
   simp only [List.append_assoc, List.singleton_append, List.length_append, List.length_cons, List.length_nil, Nat.zero_add] at ih
   by_cases hle : x.length ≤ r.length
   ·have q3 : (p.length : Int) + x.length ≤ p.length + r.length := by omega
    unfold billingref23_symbol_l1b
    simp [go_sem, hlen, q, hn, w2, q2, q3, e1, e2, h', w]
    simpa using ih
   ·have q3 : ¬ (p.length : Int) + x.length ≤ p.length + r.length := by omega
    unfold billingref23_symbol_l1b
    simp [go_sem, hlen, q, hn, w2, q2, q3, w]
    simpa using ih
theorem e_rsymbol (p l : List UInt8) (b : UInt8) (hl : p.length + 1 + l.length ≤ 1000000) : acall mach0 n_billingref23_symbol [.str (p ++ b :: l), .int .i64 p.length] [] = some (.ret (rtokV (p ++ b :: l).length p.length (lexSym b l)) []) := by
 refine acall_fn rfl (af := a_billingref23_symbol) rfl rfl ?_
 have h := rsym_l p (b :: l) (by simp; omega) syms [] (by decide) (by decide)
 rw [symR_eq] at h
 simp [List.replicate, go_sem, e_Symbols]
 simpa using h
theorem rtokV_tup (n k : Nat) (o : LR) : ∃ a b c d x y, rtokV n k o = .tup [.agg [.int .i64 a, .int .i64 b, .int .i64 c, .str d], .int .i64 x, .int .i64 y] := by
 cases o <;> exact ⟨_, _, _, _, _, _, rfl⟩
theorem e_token (p l : List UInt8) (b : UInt8) (hl : p.length + 1 + l.length ≤ 1000000) : acall mach0 n_billingref23_token [.str (p ++ b :: l), .int .i64 p.length] [] = some (.ret (rtokV (p ++ b :: l).length p.length (lexOne b l)) []) := by
 refine acall_fn rfl (af := a_billingref23_token) rfl rfl ?_
 have q : (p.length : Int) < p.length + (l.length + 1) := by omega
 have g := get_mid (p := p) (r := l) (b := b)
 unfold lexOne
 by_cases h1 : lowerB b = true
 ·have e := e_rword p (b :: l) (by simp; omega)
  rw [if_pos h1]
  obtain ⟨a, b', c, d, x, y, ht⟩ := rtokV_tup (p ++ b :: l).length p.length (lexWord (b :: l))
  rw [ht] at e ⊢
  simp [List.replicate, go_sem, q, g, e_rLower, h1, e]
 have h1 : lowerB b = false := by simpa using h1
 rw [if_neg (by simp [h1])]
 by_cases h2 : digitB b = true
 ·have e := e_rnumber p (b :: l) (by simp; omega)
  rw [if_pos h2]
  obtain ⟨a, b', c, d, x, y, ht⟩ := rtokV_tup (p ++ b :: l).length p.length (lexNum (b :: l))
  rw [ht] at e ⊢
  simp [List.replicate, go_sem, q, g, e_rLower, h1, e_rDigit, h2, e]
 have h2 : digitB b = false := by simpa using h2
 rw [if_neg (by simp [h2])]
 by_cases h3 : b.toNat = 34
 ·have hi : (b.toNat : Int) = 34 := by omega
  have e := e_rtext p l b hl
  rw [if_pos h3]
  obtain ⟨a, b', c, d, x, y, ht⟩ := rtokV_tup (p ++ b :: l).length p.length (lexText l)
  rw [ht] at e ⊢
  simp [List.replicate, go_sem, q, g, e_rLower, h1, e_rDigit, h2, bt' hi, e]
 ·have hi : ¬ (b.toNat : Int) = 34 := by omega
  have e := e_rsymbol p l b hl
  rw [if_neg h3]
  obtain ⟨a, b', c, d, x, y, ht⟩ := rtokV_tup (p ++ b :: l).length p.length (lexSym b l)
  rw [ht] at e ⊢
  simp [List.replicate, go_sem, q, g, e_rLower, h1, e_rDigit, h2, bf' hi, e]
end Go.Am
namespace Go.Am
open Go Go.Pu
theorem lexOne_err {b : UInt8} {l : List UInt8} {e : Nat} (h : lexOne b l = .err e) : e = 1 ∨ e = 5 := by
 unfold lexOne lexWord lexNum lexText lexSym at h
 repeat' split at h
 all_goals first
  | (cases h; done)
  | (cases h; first | exact .inl rfl | exact .inr rfl)
theorem scan_len : ∀ (s : List UInt8) {ts : List (Tk × Nat)}, scan s = .ok ts → ts.length ≤ s.length + 1 := by
 have key : ∀ (n : Nat) (s : List UInt8) {ts : List (Tk × Nat)}, s.length < n → scan s = .ok ts → ts.length ≤ s.length + 1 := by
  intro n
  induction n with
  | zero => intro s ts h; omega
  | succ n ih =>
   intro s ts hn h
   have hsk := skipB_le false s
   cases hk : skipB false s with
   | nil => rw [scan_nil hk] at h; cases h; simp
   | cons b l =>
    rw [hk] at hsk
    simp at hsk
    cases ho : lexOne b l with
    | err e' => rw [scan_err hk ho] at h; cases h
    | ok t r' =>
     have hle := lexOne_le ho
     rw [scan_ok hk ho] at h
     cases hr : scan r' with
     | ok ts' =>
      rw [hr] at h; cases h
      have := ih r' (by omega) hr
      simp; omega
     | err r2 e2 => rw [hr] at h; cases h
 intro s ts h
 exact key (s.length + 1) s (by omega) h
def rscanRt (n : Nat) (acc : List V) : SR → V
 | .ok ts => .tup [.sl true 4 (acc ++ ts.map (tkV n)), .int .i64 0, .int .i64 0]
 | .err rem e => .tup [.sl true 4 [], .int .i64 (n - rem : Nat), .int .i64 e]
theorem rscanRt_cons (n : Nat) (acc : List V) (t : Tk × Nat) (o : SR) : rscanRt n acc (SR.cons t o) = rscanRt n (acc ++ [tkV n t]) o := by
 cases o <;> simp [rscanRt, SR.cons]
theorem rScan_l : ∀ (n : Nat) (p r : List UInt8) (acc : List V), r.length < n → skipB false r = r → p.length + r.length ≤ 65536 → acc.length ≤ p.length →
  Run mach0 (.c billingref23_Scan_l1b :: .lp billingref23_Scan_l1 :: .endB 0 :: .c billingref23_Scan_k1 :: []) .norm ⟨(.str (p ++ r) :: .undef :: .undef :: .undef :: .undef :: .sl true 4 acc :: .int .i64 p.length :: .undef :: .undef :: .undef :: .undef :: .undef :: .undef :: .undef :: .undef :: .undef :: .undef :: .undef :: .undef :: .undef :: .undef :: .undef :: .undef :: .undef :: .undef :: .undef :: .undef :: .undef :: .undef :: .undef :: .undef :: .undef :: .undef :: .undef :: .undef :: .undef :: .undef :: .undef :: .undef :: .undef :: .undef :: .undef :: .undef :: []), []⟩
   (FinQ [.tmp 2, .tmp 3, .tmp 4] 0 (.ret (rscanRt (p ++ r).length acc (scan r)) [])) := by
 intro n
 induction n with
 | zero => intro p r acc hn; omega
 | succ n ih =>
  intro p r acc hn hk hl ha
  have q : (acc.length + 1) * 40 ≤ 140737488355328 := by omega
  cases r with
  | nil =>
   have q0 : ¬ ((p.length : Int) < p.length) := by omega
   have e1 : scan [] = .ok [(.fin, 0)] := rfl
   rw [e1]
   unfold billingref23_Scan_l1b
   simp [go_sem, q0, billingref23_Scan_k1]
   unfold billingref23_Scan_k1b
   simp [go_sem, q, rscanRt, tkV, tokV, Tk.kind, Tk.val, Tk.str]
  | cons b l =>
   simp only [List.length_cons] at hn hl
   have q0 : (p.length : Int) < p.length + (l.length + 1) := by omega
   have et := e_token p l b (by omega)
   cases ho : lexOne b l with
   | err e =>
    rw [ho] at et
    simp only [rtokV, tokV] at et
    rw [scan_err hk ho]
    have h0 : ¬ ((e : Nat) : Int) = 0 := by have := lexOne_err ho; omega
    have e5 : p.length + (l.length + 1) - (l.length + 1) = p.length := by omega
    unfold billingref23_Scan_l1b
    simp [go_sem, q0, et, nt' h0, rscanRt, e5]
   | ok t r' =>
    rw [ho] at et
    have hle := lexOne_le ho
    obtain ⟨d, hd⟩ : ∃ d, b :: l = d ++ r' := ⟨_, (lexOne_ok ho).2.2⟩
    obtain ⟨d2, hd2⟩ := skip_suf false r'
    have hdl : l.length + 1 = d.length + r'.length := by have := congrArg List.length hd; simpa using this
    have hd2l : r'.length = d2.length + (skipB false r').length := by have := congrArg List.length hd2; simpa using this
    have hs := e_rSkip (p ++ d) r' (by simp; omega)
    have ih := ih (p ++ d ++ d2) (skipB false r') (acc ++ [tkV (p ++ b :: l).length (t, l.length + 1)]) (by have := skipB_le false r'; omega) (skip_idem false r') (by simp; omega) (by simp; omega)
    rw [scan_skip] at ih
    have e1 : p ++ d ++ d2 ++ skipB false r' = p ++ b :: l := by rw [List.append_assoc, ← hd2, List.append_assoc, ← hd]
    have e2 : p ++ d ++ r' = p ++ b :: l := by rw [List.append_assoc, ← hd]
    have e3 : (p ++ d).length = (p ++ b :: l).length - r'.length := by simp; omega
    have e4 : (p ++ d).length + (r'.length - (skipB false r').length) = (p ++ d ++ d2).length := by simp; omega
    rw [e4, e2, e3] at hs
    rw [e1] at ih
    simp only [rtokV, tokV] at et
    rw [scan_ok hk ho, rscanRt_cons]
    generalize (p ++ d ++ d2).length = j at *
    simp only [List.length_append, List.length_cons] at hs et ih
    generalize p.length + (l.length + 1) - r'.length = i at *
    unfold billingref23_Scan_l1b
    simp [go_sem, q0, et, q, hs]
    simpa [tkV, tokV] using ih
def rscanV (s : List UInt8) : V := if s.length > 65536 then .tup [.sl true 4 [], .int .i64 0, .int .i64 5] else rscanRt s.length [] (scan s)
theorem e_rScan (s : List UInt8) : acall mach0 n_billingref23_Scan [.str s] [] = some (.ret (rscanV s) []) := by
 refine acall_fn rfl (af := a_billingref23_Scan) rfl rfl ?_
 unfold rscanV
 by_cases h : s.length > 65536
 ·have h' : (65536 : Int) < s.length := by omega
  rw [if_pos h]
  simp [List.replicate, go_sem, h']
 ·have h' : ¬ (65536 : Int) < s.length := by omega
  rw [if_neg h]
  obtain ⟨d, hd⟩ := skip_suf false s
  have hdl : s.length = d.length + (skipB false s).length := by have := congrArg List.length hd; simpa using this
  have hs := e_rSkip [] s (by simp; omega)
  have e1 : ([] : List UInt8).length + (s.length - (skipB false s).length) = d.length := by simp; omega
  rw [e1] at hs
  simp only [List.nil_append, List.length_nil] at hs
  have := rScan_l (s.length + 1) d (skipB false s) [] (by have := skipB_le false s; omega) (skip_idem false s) (by omega) (by simp)
  rw [← hd, scan_skip] at this
  simp [List.replicate, go_sem, h']
  simp at hs
  simp [hs, go_sem]
  simpa using this
end Go.Am
