/- The lexer's words and numbers. -/
import Derived.Test.YtcjglgeamdfpmaaEL1
set_option linter.unusedSimpArgs false
set_option linter.unnecessarySimpa false
set_option linter.unusedVariables false
namespace Go.Am
open Go Go.Pu

def tokV (k n p : Int) (s : List UInt8) : V := .agg [.int .i64 k, .int .i64 n, .int .i64 p, .str s]
def failV (p e : Int) : V := .ifc 99 (.agg [.int .i64 p, .int .i64 e])

theorem e_fail (p e : Int) (h : Heap) : acall mach0 n_lexer_fail [.int .i64 p, .int .i64 e] h = some (.pan (failV p e) h) := by
  refine acall_fn rfl (af := a_lexer_fail) rfl rfl ?_
  simp [List.replicate, go_sem, failV]

theorem get_mid {p r : List UInt8} {b : UInt8} : (p ++ b :: r)[p.length]?.getD 0 = b := by simp

theorem slice_mid {p w r : List UInt8} : ((p ++ (w ++ r)).take (p.length + w.length)).drop p.length = w := by
  rw [List.take_length_add_append, List.take_left', List.drop_left'] <;> simp

def wordRt (x0 x1 x2 : List V) (s : List UInt8) (k : Nat) (w : List UInt8) : Rt :=
  if w.length > 24 then .pan (failV k 5) (hq x0 x1 x2 s (k + w.length)) else .ret (tokV 1 0 k w) (hq x0 x1 x2 s (k + w.length))

theorem word_l (x0 x1 x2 : List V) (p : List UInt8) : ∀ (r w : List UInt8), p.length + w.length + r.length ≤ 65536 →
    Run mach0 (.c lexer_scanner_word_l1b :: .lp lexer_scanner_word_l1 :: .endB 0 :: .c lexer_scanner_word_k1 :: []) .norm
      ⟨(.ptr 3 0 :: .undef :: .box [.int .i64 0, .int .i64 0, .int .i64 0, .str []] :: .int .i64 p.length :: .undef :: .undef :: .undef :: .undef :: .undef :: .undef :: .undef :: .undef :: .undef :: .undef :: .undef :: .undef :: .undef :: .undef :: .undef :: .undef :: .undef :: .undef :: .undef :: .undef :: .undef :: .undef :: .undef :: .undef :: .undef :: .undef :: .undef :: .undef :: .undef :: .undef :: .undef :: .undef :: .undef :: .undef :: .undef :: .undef :: .undef :: .undef :: .undef :: .undef :: .undef :: .undef :: .undef :: .undef :: .undef :: .undef :: .undef :: .undef :: .undef :: .undef :: .undef :: .undef :: .undef :: .undef :: .undef :: .undef :: .undef :: .undef :: .undef :: .undef :: .undef :: .undef :: .undef :: .undef :: .undef :: .undef :: .undef :: .undef :: .undef :: .undef :: .undef :: .undef :: .undef :: .undef :: .undef :: .undef :: .undef :: .undef :: []), hq x0 x1 x2 (p ++ (w ++ r)) (p.length + w.length)⟩
      (FinQ [.cell 2 (some 4)] 4 (wordRt x0 x1 x2 (p ++ (w ++ r)) p.length (w ++ r.takeWhile wordB))) := by
  have fin : ∀ (w r : List UInt8), p.length + w.length + r.length ≤ 65536 → Run mach0 [.c lexer_scanner_word_k1b] .norm ⟨(.ptr 3 0 :: .undef :: .box [.int .i64 0, .int .i64 0, .int .i64 0, .str []] :: .int .i64 p.length :: .undef :: .undef :: .undef :: .undef :: .undef :: .undef :: .undef :: .undef :: .undef :: .undef :: .undef :: .undef :: .undef :: .undef :: .undef :: .undef :: .undef :: .undef :: .undef :: .undef :: .undef :: .undef :: .undef :: .undef :: .undef :: .undef :: .undef :: .undef :: .undef :: .undef :: .undef :: .undef :: .undef :: .undef :: .undef :: .undef :: .undef :: .undef :: .undef :: .undef :: .undef :: .undef :: .undef :: .undef :: .undef :: .undef :: .undef :: .undef :: .undef :: .undef :: .undef :: .undef :: .undef :: .undef :: .undef :: .undef :: .undef :: .undef :: .undef :: .undef :: .undef :: .undef :: .undef :: .undef :: .undef :: .undef :: .undef :: .undef :: .undef :: .undef :: .undef :: .undef :: .undef :: .undef :: .undef :: .undef :: .undef :: .undef :: []), hq x0 x1 x2 (p ++ (w ++ r)) (p.length + w.length)⟩
      (FinQ [.cell 2 (some 4)] 4 (wordRt x0 x1 x2 (p ++ (w ++ r)) p.length w)) := by
    intro w r hl
    have w1 : IntKind.wrap .i64 ((p.length : Int) + w.length - p.length) = w.length := by rw [wrap_i64 (by omega)]; omega
    unfold lexer_scanner_word_k1b wordRt
    by_cases h : w.length > 24
    · have h' : (24 : Int) < w.length := by omega
      simp [go_sem, w1, h, h', e_fail]
      simp [failV, go_sem]
    · have h' : ¬ (24 : Int) < w.length := by omega
      have q1 : (p.length : Int) ≤ (p.length : Int) + w.length := by omega
      have q2 : (p.length : Int) + w.length ≤ (p.length : Int) + (w.length + r.length) := by omega
      have e1 : ((p.length : Int) + (w.length : Int)).toNat = p.length + w.length := by omega
      have e2 := slice_mid (p := p) (w := w) (r := r)
      simp [go_sem, w1, h, h', q1, q2, e1]
      rw [e2]; rfl
  intro r
  induction r with
  | nil =>
    intro w hl
    have f := fin w [] hl
    have q : ¬ ((p.length : Int) + w.length < p.length + w.length) := by omega
    unfold lexer_scanner_word_l1b
    simp [go_sem, lexer_scanner_word_k1, q]
    simpa [hq] using f
  | cons b r ih =>
    intro w hl
    simp only [List.length_cons] at hl
    have f := fin w (b :: r) (by simp; omega)
    have ih := ih (w ++ [b]) (by simp; omega)
    have q : (p.length : Int) + w.length < (p.length : Int) + (w.length + (r.length + 1)) := by omega
    have e1 : ((p.length : Int) + (w.length : Int)).toNat = p.length + w.length := by omega
    have g : (p ++ (w ++ b :: r))[p.length + w.length]?.getD 0 = b := by rw [← List.append_assoc, ← List.length_append]; exact get_mid
    have pos : (0 : Int) ≤ (p.length : Int) + w.length := by omega
    have wr : IntKind.wrap .i64 ((p.length : Int) + w.length + 1) = (p.length : Int) + (w.length + 1) := by rw [wrap_i64 (by omega)]; omega
    simp only [List.append_assoc, List.singleton_append, List.length_append, List.length_cons, List.length_nil, Nat.zero_add] at ih
    by_cases h1 : lowerB b = true
    · have e : (b :: r).takeWhile wordB = b :: r.takeWhile wordB := List.takeWhile_cons_of_pos (by simp [wordB, h1])
      unfold lexer_scanner_word_l1b
      simp [go_sem, q, e1, g, pos, e_lower, e_digit, h1, wr, e]
      simpa [hq] using ih
    · have h1 : lowerB b = false := by simpa using h1
      by_cases h2 : digitB b = true
      · have e : (b :: r).takeWhile wordB = b :: r.takeWhile wordB := List.takeWhile_cons_of_pos (by simp [wordB, h2])
        unfold lexer_scanner_word_l1b
        simp [go_sem, q, e1, g, pos, e_lower, e_digit, h1, h2, wr, e]
        simpa [hq] using ih
      · have h2 : digitB b = false := by simpa using h2
        by_cases h3 : (b.toNat : Int) = 45
        · have e : (b :: r).takeWhile wordB = b :: r.takeWhile wordB := List.takeWhile_cons_of_pos (by simp [wordB]; omega)
          unfold lexer_scanner_word_l1b
          simp [go_sem, q, e1, g, pos, e_lower, e_digit, h1, h2, bt' h3, wr, e]
          simpa [hq] using ih
        · have e : (b :: r).takeWhile wordB = [] := List.takeWhile_cons_of_neg (by simp [wordB, h1, h2]; omega)
          unfold lexer_scanner_word_l1b
          simp [go_sem, q, e1, g, pos, e_lower, e_digit, h1, h2, h3, wr, e, lexer_scanner_word_k1]
          simpa [hq] using f

theorem e_word (x0 x1 x2 : List V) (p r : List UInt8) (hl : p.length + r.length ≤ 65536) : acall mach0 n_lexer_scanner_word [.ptr 3 0] (hq x0 x1 x2 (p ++ r) p.length) = some (wordRt x0 x1 x2 (p ++ r) p.length (r.takeWhile wordB)) := by
  refine acall_fn rfl (af := a_lexer_scanner_word) rfl rfl ?_
  have := word_l x0 x1 x2 p r [] (by simpa using hl)
  simp only [List.nil_append, List.length_nil, Nat.add_zero] at this
  simp [List.replicate, go_sem]
  simpa [hq] using this
end Go.Am
