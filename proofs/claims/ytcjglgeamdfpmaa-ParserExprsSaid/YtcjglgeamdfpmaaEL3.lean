/- The lexer's numbers. -/
import Derived.Test.YtcjglgeamdfpmaaEL2
set_option linter.unusedSimpArgs false
set_option linter.unnecessarySimpa false
set_option linter.unusedVariables false
namespace Go.Am
open Go Go.Pu

theorem valF_snoc : ∀ (k n : Nat) (w : List UInt8) (b : UInt8), valF k n (w ++ [b]) = if w.length < k then 10 * valF k n w + (b.toNat - 48) else valF k n w
  | 0, n, w, b => by simp [valF]
  | k + 1, n, [], b => by simp [valF]; cases k <;> rfl
  | k + 1, n, c :: w, b => by
    simp only [List.cons_append, valF, valF_snoc k _ w b, List.length_cons, Nat.add_lt_add_iff_right]
theorem valF_lt : ∀ (k n m : Nat) (w : List UInt8), w.all digitB = true → n < 10 ^ m → valF k n w < 10 ^ (m + k)
  | 0, n, m, w, _, h => by simpa [valF] using h
  | k + 1, n, m, [], _, h => by
    simp only [valF]
    exact Nat.lt_of_lt_of_le h (Nat.pow_le_pow_right (by omega) (by omega))
  | k + 1, n, m, b :: w, hw, h => by
    simp only [List.all_cons, Bool.and_eq_true] at hw
    have hb : b.toNat - 48 < 10 := by have := hw.1; simp [digitB] at this; omega
    have := valF_lt k (10 * n + (b.toNat - 48)) (m + 1) w hw.2 (by rw [Nat.pow_succ]; omega)
    simp only [valF]
    have e : m + 1 + k = m + (k + 1) := by omega
    rw [e] at this
    exact this
theorem value_lt {w : List UInt8} (h : w.all digitB = true) : value w < 10000000000000000 := by
  have := valF_lt 16 0 0 w h (by decide)
  simpa [value] using this

def numRt (x0 x1 x2 : List V) (s : List UInt8) (k : Nat) (w rest : List UInt8) : Rt :=
  if w.length > 16 then .pan (failV k 5) (hq x0 x1 x2 s (k + w.length)) else if headIs lowerB rest then .pan (failV k 1) (hq x0 x1 x2 s (k + w.length)) else .ret (tokV 2 (value w) k w) (hq x0 x1 x2 s (k + w.length))

theorem number_l (x0 x1 x2 : List V) (p : List UInt8) : ∀ (r w : List UInt8), p.length + w.length + r.length ≤ 65536 → w.all digitB = true →
    Run mach0 (.c lexer_scanner_number_l1b :: .lp lexer_scanner_number_l1 :: .endB 0 :: .c lexer_scanner_number_k1 :: []) .norm
      ⟨(.ptr 3 0 :: .undef :: .box [.int .i64 0, .int .i64 0, .int .i64 0, .str []] :: .int .i64 p.length :: .int .i64 (value w) :: .undef :: .undef :: .undef :: .undef :: .undef :: .undef :: .undef :: .undef :: .undef :: .undef :: .undef :: .undef :: .undef :: .undef :: .undef :: .undef :: .undef :: .undef :: .undef :: .undef :: .undef :: .undef :: .undef :: .undef :: .undef :: .undef :: .undef :: .undef :: .undef :: .undef :: .undef :: .undef :: .undef :: .undef :: .undef :: .undef :: .undef :: .undef :: .undef :: .undef :: .undef :: .undef :: .undef :: .undef :: .undef :: .undef :: .undef :: .undef :: .undef :: .undef :: .undef :: .undef :: .undef :: .undef :: .undef :: .undef :: .undef :: .undef :: .undef :: .undef :: .undef :: .undef :: .undef :: .undef :: .undef :: .undef :: .undef :: .undef :: .undef :: .undef :: .undef :: .undef :: .undef :: .undef :: .undef :: .undef :: .undef :: .undef :: .undef :: .undef :: .undef :: .undef :: .undef :: .undef :: .undef :: .undef :: .undef :: .undef :: .undef :: .undef :: .undef :: .undef :: .undef :: .undef :: .undef :: .undef :: .undef :: .undef :: .undef :: .undef :: []), hq x0 x1 x2 (p ++ (w ++ r)) (p.length + w.length)⟩
      (FinQ [.cell 2 (some 4)] 4 (numRt x0 x1 x2 (p ++ (w ++ r)) p.length (w ++ r.takeWhile digitB) (r.dropWhile digitB))) := by
  have fin : ∀ (w r : List UInt8), p.length + w.length + r.length ≤ 65536 → Run mach0 [.c lexer_scanner_number_k1b] .norm ⟨(.ptr 3 0 :: .undef :: .box [.int .i64 0, .int .i64 0, .int .i64 0, .str []] :: .int .i64 p.length :: .int .i64 (value w) :: .undef :: .undef :: .undef :: .undef :: .undef :: .undef :: .undef :: .undef :: .undef :: .undef :: .undef :: .undef :: .undef :: .undef :: .undef :: .undef :: .undef :: .undef :: .undef :: .undef :: .undef :: .undef :: .undef :: .undef :: .undef :: .undef :: .undef :: .undef :: .undef :: .undef :: .undef :: .undef :: .undef :: .undef :: .undef :: .undef :: .undef :: .undef :: .undef :: .undef :: .undef :: .undef :: .undef :: .undef :: .undef :: .undef :: .undef :: .undef :: .undef :: .undef :: .undef :: .undef :: .undef :: .undef :: .undef :: .undef :: .undef :: .undef :: .undef :: .undef :: .undef :: .undef :: .undef :: .undef :: .undef :: .undef :: .undef :: .undef :: .undef :: .undef :: .undef :: .undef :: .undef :: .undef :: .undef :: .undef :: .undef :: .undef :: .undef :: .undef :: .undef :: .undef :: .undef :: .undef :: .undef :: .undef :: .undef :: .undef :: .undef :: .undef :: .undef :: .undef :: .undef :: .undef :: .undef :: .undef :: .undef :: .undef :: .undef :: .undef :: []), hq x0 x1 x2 (p ++ (w ++ r)) (p.length + w.length)⟩
      (FinQ [.cell 2 (some 4)] 4 (numRt x0 x1 x2 (p ++ (w ++ r)) p.length w r)) := by
    intro w r hl
    have w1 : IntKind.wrap .i64 ((p.length : Int) + w.length - p.length) = w.length := by rw [wrap_i64 (by omega)]; omega
    have q1 : (p.length : Int) ≤ (p.length : Int) + w.length := by omega
    have q2 : (p.length : Int) + w.length ≤ (p.length : Int) + (w.length + r.length) := by omega
    have e1 : ((p.length : Int) + (w.length : Int)).toNat = p.length + w.length := by omega
    have e2 := slice_mid (p := p) (w := w) (r := r)
    unfold lexer_scanner_number_k1b numRt
    by_cases h : w.length > 16
    · have h' : (16 : Int) < w.length := by omega
      simp [go_sem, w1, h, h', e_fail]
      simp [failV, go_sem]
    · have h' : ¬ (16 : Int) < w.length := by omega
      cases r with
      | nil =>
        have q : ¬ ((p.length : Int) + w.length < p.length + w.length) := by omega
        simp only [List.append_nil] at e2
        simp [go_sem, w1, h, h', q1, e1, q, headIs]
        rw [List.take_of_length_le (by simp)]
        simp [tokV]
      | cons b r =>
        have q : (p.length : Int) + w.length < (p.length : Int) + (w.length + (r.length + 1)) := by omega
        have g : (p ++ (w ++ b :: r))[p.length + w.length]?.getD 0 = b := by rw [← List.append_assoc, ← List.length_append]; exact get_mid
        have pos : (0 : Int) ≤ (p.length : Int) + w.length := by omega
        by_cases hb : lowerB b = true
        · simp [go_sem, w1, h, h', q, e1, g, pos, e_lower, hb, headIs, e_fail]
          simp [failV, go_sem]
        · have hb : lowerB b = false := by simpa using hb
          simp at q2
          simp [go_sem, w1, h, h', q, q1, q2, e1, g, pos, e_lower, hb, headIs, e_fail]
          rw [e2]; rfl
  intro r
  induction r with
  | nil =>
    intro w hl hw
    have f := fin w [] hl
    have q : ¬ ((p.length : Int) + w.length < p.length + w.length) := by omega
    unfold lexer_scanner_number_l1b
    simp [go_sem, lexer_scanner_number_k1, q]
    simpa [hq] using f
  | cons b r ih =>
    intro w hl hw
    simp only [List.length_cons] at hl
    have f := fin w (b :: r) (by simp; omega)
    have q : (p.length : Int) + w.length < (p.length : Int) + (w.length + (r.length + 1)) := by omega
    have e1 : ((p.length : Int) + (w.length : Int)).toNat = p.length + w.length := by omega
    have g : (p ++ (w ++ b :: r))[p.length + w.length]?.getD 0 = b := by rw [← List.append_assoc, ← List.length_append]; exact get_mid
    have pos : (0 : Int) ≤ (p.length : Int) + w.length := by omega
    have wr : IntKind.wrap .i64 ((p.length : Int) + w.length + 1) = (p.length : Int) + (w.length + 1) := by rw [wrap_i64 (by omega)]; omega
    have w1 : IntKind.wrap .i64 ((p.length : Int) + w.length - p.length) = w.length := by rw [wrap_i64 (by omega)]; omega
    by_cases h2 : digitB b = true
    · have e : (b :: r).takeWhile digitB = b :: r.takeWhile digitB := List.takeWhile_cons_of_pos h2
      have e' : (b :: r).dropWhile digitB = r.dropWhile digitB := List.dropWhile_cons_of_pos h2
      have ih := ih (w ++ [b]) (by simp; omega) (by simp [hw, h2])
      have hv : value (w ++ [b]) = if w.length < 16 then 10 * value w + (b.toNat - 48) else value w := valF_snoc 16 0 w b
      simp only [List.append_assoc, List.singleton_append, List.length_append, List.length_cons, List.length_nil, Nat.zero_add, hv] at ih
      have hlt := value_lt hw
      have hd : 48 ≤ b.toNat ∧ b.toNat ≤ 57 := by simpa [digitB] using h2
      have w2 : IntKind.wrap .u8 ((b.toNat : Int) - 48) = ((b.toNat - 48 : Nat) : Int) := by
        have : (b.toNat : Int) - 48 = ((b.toNat - 48 : Nat) : Int) := by omega
        rw [this, wrap_u8]; omega
      generalize value w = v at *
      have w3 : IntKind.wrap .i64 ((b.toNat - 48 : Nat) : Int) = ((b.toNat - 48 : Nat) : Int) := wrap_i64 (by omega)
      have w4 : IntKind.wrap .i64 ((v : Int) * 10) = (v : Int) * 10 := wrap_i64 (by omega)
      have w5 : IntKind.wrap .i64 ((v : Int) * 10 + ((b.toNat - 48 : Nat) : Int)) = 10 * (v : Int) + ((b.toNat - 48 : Nat) : Int) := by rw [wrap_i64 (by omega)]; omega
      by_cases h16 : w.length < 16
      · have h16' : (w.length : Int) < 16 := by omega
        rw [if_pos h16] at ih
        unfold lexer_scanner_number_l1b
        simp only [hq] at ih ⊢
        simp [go_sem, q, e1, g, pos, e_digit, h2, wr, e, e', w1, h16', w2, w3, w4, w5]
        simpa [hq] using ih
      · have h16' : ¬ (w.length : Int) < 16 := by omega
        rw [if_neg h16] at ih
        unfold lexer_scanner_number_l1b
        simp [go_sem, q, e1, g, pos, e_digit, h2, wr, e, e', w1, h16', w2, w3, w4, w5]
        simpa [hq] using ih
    · have e : (b :: r).takeWhile digitB = [] := List.takeWhile_cons_of_neg h2
      have e' : (b :: r).dropWhile digitB = b :: r := List.dropWhile_cons_of_neg h2
      have h2 : digitB b = false := by simpa using h2
      unfold lexer_scanner_number_l1b
      simp [go_sem, q, e1, g, pos, e_digit, h2, wr, e, e', lexer_scanner_number_k1]
      simpa [hq] using f

theorem e_number (x0 x1 x2 : List V) (p r : List UInt8) (hl : p.length + r.length ≤ 65536) : acall mach0 n_lexer_scanner_number [.ptr 3 0] (hq x0 x1 x2 (p ++ r) p.length) = some (numRt x0 x1 x2 (p ++ r) p.length (r.takeWhile digitB) (r.dropWhile digitB)) := by
  refine acall_fn rfl (af := a_lexer_scanner_number) rfl rfl ?_
  have := number_l x0 x1 x2 p r [] (by simpa using hl) rfl
  have e0 : value [] = 0 := rfl
  simp only [List.nil_append, List.length_nil, Nat.add_zero, e0] at this
  simp [List.replicate, go_sem]
  simpa [hq] using this
end Go.Am
