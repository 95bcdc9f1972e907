/- The reference's words, numbers and texts. -/
import Derived.Test.YtcjglgeamdfpmaaEM3
set_option linter.unusedSimpArgs false
set_option linter.unnecessarySimpa false
set_option linter.unusedVariables false
set_option maxRecDepth 10000
namespace Go.Am
open Go Go.Pu

def rtokV (n k : Nat) : LR → V
  | .ok t r => .tup [tokV t.kind t.val k t.str, .int .i64 (n - r.length : Nat), .int .i64 0]
  | .err e => .tup [tokV 0 0 0 [], .int .i64 k, .int .i64 e]

theorem rword_l (p : List UInt8) : ∀ (r w : List UInt8), p.length + w.length + r.length ≤ 1000000 →
    Run mach0 (.c billingref23_word_l1b :: .lp billingref23_word_l1 :: .endB 0 :: .c billingref23_word_k1 :: []) .norm
      ⟨(.str (p ++ (w ++ r)) :: .int .i64 p.length :: .undef :: .undef :: .box [.int .i64 0, .int .i64 0, .int .i64 0, .str []] :: .undef :: .undef :: .int .i64 (p.length + w.length : Nat) :: .undef :: .undef :: .undef :: .undef :: .undef :: .undef :: .undef :: .undef :: .undef :: .undef :: .undef :: .undef :: .undef :: .undef :: .undef :: .undef :: .undef :: .undef :: .undef :: .undef :: .undef :: .undef :: .undef :: .undef :: .undef :: .undef :: []), []⟩
      (FinQ [.cell 4 (some 4), .tmp 5, .tmp 6] 0 (.ret (rtokV (p ++ (w ++ r)).length p.length (if (w ++ r.takeWhile wordB).length > 24 then .err 5 else .ok (.word (w ++ r.takeWhile wordB)) (r.dropWhile wordB))) [])) := by
  have fin : ∀ (w r : List UInt8), p.length + w.length + r.length ≤ 1000000 → Run mach0 [.c billingref23_word_k1b] .norm ⟨(.str (p ++ (w ++ r)) :: .int .i64 p.length :: .undef :: .undef :: .box [.int .i64 0, .int .i64 0, .int .i64 0, .str []] :: .undef :: .undef :: .int .i64 (p.length + w.length : Nat) :: .undef :: .undef :: .undef :: .undef :: .undef :: .undef :: .undef :: .undef :: .undef :: .undef :: .undef :: .undef :: .undef :: .undef :: .undef :: .undef :: .undef :: .undef :: .undef :: .undef :: .undef :: .undef :: .undef :: .undef :: .undef :: .undef :: []), []⟩
      (FinQ [.cell 4 (some 4), .tmp 5, .tmp 6] 0 (.ret (rtokV (p ++ (w ++ r)).length p.length (if w.length > 24 then .err 5 else .ok (.word w) r)) [])) := by
    intro w r hl
    have w1 : IntKind.wrap .i64 ((p.length : Int) + w.length - p.length) = w.length := by rw [wrap_i64 (by omega)]; omega
    have q1 : (p.length : Int) ≤ (p.length : Int) + w.length := by omega
    have q2 : (p.length : Int) + w.length ≤ (p.length : Int) + (w.length + r.length) := by omega
    have e1 : ((p.length : Int) + (w.length : Int)).toNat = p.length + w.length := by omega
    have e2 := slice_mid (p := p) (w := w) (r := r)
    unfold billingref23_word_k1b
    by_cases h : w.length > 24
    · have h' : (24 : Int) < w.length := by omega
      simp [go_sem, w1, h, h', rtokV, tokV]
    · have h' : ¬ (24 : Int) < w.length := by omega
      have e5 : p.length + (w.length + r.length) - r.length = p.length + w.length := by omega
      simp [go_sem, w1, h, h', q1, q2, e1, e2, rtokV, tokV, Tk.kind, Tk.val, Tk.str, e5]
  intro r
  induction r with
  | nil =>
    intro w hl
    have f := fin w [] hl
    have q : ¬ ((p.length : Int) + w.length < p.length + w.length) := by omega
    unfold billingref23_word_l1b
    simp [go_sem, billingref23_word_k1, q]
    simpa using f
  | cons b r ih =>
    intro w hl
    simp only [List.length_cons] at hl
    have f := fin w (b :: r) (by simp; omega)
    have ih := ih (w ++ [b]) (by simp; omega)
    have q : (p.length : Int) + w.length < (p.length : Int) + (w.length + (r.length + 1)) := by omega
    have e1 : ((p.length : Int) + (w.length : Int)).toNat = p.length + w.length := by omega
    have g : (p ++ (w ++ b :: r))[p.length + w.length]?.getD 0 = b := by rw [← List.append_assoc, ← List.length_append]; exact get_mid
    have pos : (0 : Int) ≤ (p.length : Int) + w.length := by omega
    have wr : IntKind.wrap .i64 ((p.length : Int) + w.length + 1) = (p.length : Int) + (w.length + 1) := by rw [wrap_i64 (by omega)]; omega
    simp only [List.append_assoc, List.singleton_append, List.length_append, List.length_cons, List.length_nil, Nat.zero_add] at ih f
    simp only [List.length_append, List.length_cons]
    by_cases h1 : wordB b = true
    · have e : (b :: r).takeWhile wordB = b :: r.takeWhile wordB := List.takeWhile_cons_of_pos h1
      have e' : (b :: r).dropWhile wordB = r.dropWhile wordB := List.dropWhile_cons_of_pos h1
      rw [e, e']
      unfold billingref23_word_l1b
      simp [go_sem, q, e1, g, pos, e_inWord, h1, wr]
      simpa using ih
    · have e : (b :: r).takeWhile wordB = [] := List.takeWhile_cons_of_neg h1
      have e' : (b :: r).dropWhile wordB = b :: r := List.dropWhile_cons_of_neg h1
      have h1 : wordB b = false := by simpa using h1
      rw [e, e']
      unfold billingref23_word_l1b
      simp [go_sem, q, e1, g, pos, e_inWord, h1, billingref23_word_k1]
      simpa using f

theorem e_rword (p r : List UInt8) (hl : p.length + r.length ≤ 1000000) : acall mach0 n_billingref23_word [.str (p ++ r), .int .i64 p.length] [] = some (.ret (rtokV (p ++ r).length p.length (lexWord r)) []) := by
  refine acall_fn rfl (af := a_billingref23_word) rfl rfl ?_
  have := rword_l p r [] (by simpa using hl)
  simp only [List.nil_append, List.length_nil, Nat.add_zero] at this
  simp [List.replicate, go_sem]
  simpa [lexWord] using this

theorem rnum_l (p : List UInt8) : ∀ (r w : List UInt8), p.length + w.length + r.length ≤ 1000000 → w.all digitB = true →
    Run mach0 (.c billingref23_number_l1b :: .lp billingref23_number_l1 :: .endB 0 :: .c billingref23_number_k1 :: []) .norm
      ⟨(.str (p ++ (w ++ r)) :: .int .i64 p.length :: .undef :: .undef :: .box [.int .i64 0, .int .i64 0, .int .i64 0, .str []] :: .undef :: .undef :: .int .i64 (p.length + w.length : Nat) :: .undef :: .undef :: .undef :: .undef :: .undef :: .undef :: .undef :: .undef :: .undef :: .undef :: .undef :: .undef :: .undef :: .undef :: .undef :: .undef :: .undef :: .undef :: .undef :: .undef :: .undef :: .undef :: .undef :: .undef :: .undef :: .undef :: .undef :: .undef :: .undef :: .undef :: .undef :: .undef :: .undef :: .undef :: .undef :: .undef :: .undef :: .undef :: .undef :: .undef :: .undef :: .undef :: .undef :: []), []⟩
      (FinQ [.cell 4 (some 4), .tmp 5, .tmp 6] 0 (.ret (rtokV (p ++ (w ++ r)).length p.length (if (w ++ r.takeWhile digitB).length > 16 then .err 5 else if headIs lowerB (r.dropWhile digitB) then .err 1 else .ok (.num (w ++ r.takeWhile digitB)) (r.dropWhile digitB))) [])) := by
  have fin : ∀ (w r : List UInt8), p.length + w.length + r.length ≤ 1000000 → w.all digitB = true → Run mach0 [.c billingref23_number_k1b] .norm ⟨(.str (p ++ (w ++ r)) :: .int .i64 p.length :: .undef :: .undef :: .box [.int .i64 0, .int .i64 0, .int .i64 0, .str []] :: .undef :: .undef :: .int .i64 (p.length + w.length : Nat) :: .undef :: .undef :: .undef :: .undef :: .undef :: .undef :: .undef :: .undef :: .undef :: .undef :: .undef :: .undef :: .undef :: .undef :: .undef :: .undef :: .undef :: .undef :: .undef :: .undef :: .undef :: .undef :: .undef :: .undef :: .undef :: .undef :: .undef :: .undef :: .undef :: .undef :: .undef :: .undef :: .undef :: .undef :: .undef :: .undef :: .undef :: .undef :: .undef :: .undef :: .undef :: .undef :: .undef :: []), []⟩
      (FinQ [.cell 4 (some 4), .tmp 5, .tmp 6] 0 (.ret (rtokV (p ++ (w ++ r)).length p.length (if w.length > 16 then .err 5 else if headIs lowerB r then .err 1 else .ok (.num w) r)) [])) := by
    intro w r hl hw
    have w1 : IntKind.wrap .i64 ((p.length : Int) + w.length - p.length) = w.length := by rw [wrap_i64 (by omega)]; omega
    have q1 : (p.length : Int) ≤ (p.length : Int) + w.length := by omega
    have q2 : (p.length : Int) + w.length ≤ (p.length : Int) + (w.length + r.length) := by omega
    have e1 : ((p.length : Int) + (w.length : Int)).toNat = p.length + w.length := by omega
    have e2 := slice_mid (p := p) (w := w) (r := r)
    have ev := e_Value w (by omega) hw
    unfold billingref23_number_k1b
    by_cases h : w.length > 16
    · have h' : (16 : Int) < w.length := by omega
      simp [go_sem, w1, h, h', rtokV, tokV]
    · have h' : ¬ (16 : Int) < w.length := by omega
      have e5 : p.length + (w.length + r.length) - r.length = p.length + w.length := by omega
      cases r with
      | nil =>
        have q : ¬ ((p.length : Int) + w.length < p.length + w.length) := by omega
        simp only [List.append_nil] at e2
        have e6 : List.drop p.length (List.take (p.length + w.length) (p ++ w)) = w := e2
        simp [go_sem, w1, h, h', q1, e1, q, headIs]
        rw [List.take_of_length_le (by simp)]
        simp [go_sem, ev, rtokV, tokV, Tk.kind, Tk.val, Tk.str]
        exact ⟨by omega, by rw [e1]; exact e6⟩
      | cons b r =>
        have q : (p.length : Int) + w.length < (p.length : Int) + (w.length + (r.length + 1)) := by omega
        have g : (p ++ (w ++ b :: r))[p.length + w.length]?.getD 0 = b := by rw [← List.append_assoc, ← List.length_append]; exact get_mid
        have pos : (0 : Int) ≤ (p.length : Int) + w.length := by omega
        simp only [List.length_cons, Int.natCast_add] at q2 e5
        cases hb : lowerB b with
        | true => simp [go_sem, w1, h, h', q, e1, g, pos, e_rLower, hb, headIs, rtokV, tokV]
        | false =>
          simp at q2
          simp [go_sem, w1, h, h', q, q1, q2, e1, g, pos, e_rLower, hb, headIs, e2, ev, rtokV, tokV, Tk.kind, Tk.val, Tk.str, e5]
          try omega
  intro r
  induction r with
  | nil =>
    intro w hl hw
    have f := fin w [] hl hw
    have q : ¬ ((p.length : Int) + w.length < p.length + w.length) := by omega
    unfold billingref23_number_l1b
    simp [go_sem, billingref23_number_k1, q]
    simpa using f
  | cons b r ih =>
    intro w hl hw
    simp only [List.length_cons] at hl
    have f := fin w (b :: r) (by simp; omega) hw
    have q : (p.length : Int) + w.length < (p.length : Int) + (w.length + (r.length + 1)) := by omega
    have e1 : ((p.length : Int) + (w.length : Int)).toNat = p.length + w.length := by omega
    have g : (p ++ (w ++ b :: r))[p.length + w.length]?.getD 0 = b := by rw [← List.append_assoc, ← List.length_append]; exact get_mid
    have pos : (0 : Int) ≤ (p.length : Int) + w.length := by omega
    have wr : IntKind.wrap .i64 ((p.length : Int) + w.length + 1) = (p.length : Int) + (w.length + 1) := by rw [wrap_i64 (by omega)]; omega
    simp only [List.length_append, List.length_cons] at f ⊢
    by_cases h1 : digitB b = true
    · have ih := ih (w ++ [b]) (by simp; omega) (by simp [hw, h1])
      simp only [List.append_assoc, List.singleton_append, List.length_append, List.length_cons, List.length_nil, Nat.zero_add] at ih
      have e : (b :: r).takeWhile digitB = b :: r.takeWhile digitB := List.takeWhile_cons_of_pos h1
      have e' : (b :: r).dropWhile digitB = r.dropWhile digitB := List.dropWhile_cons_of_pos h1
      rw [e, e']
      unfold billingref23_number_l1b
      simp [go_sem, q, e1, g, pos, e_rDigit, h1, wr]
      simpa using ih
    · have e : (b :: r).takeWhile digitB = [] := List.takeWhile_cons_of_neg h1
      have e' : (b :: r).dropWhile digitB = b :: r := List.dropWhile_cons_of_neg h1
      have h1 : digitB b = false := by simpa using h1
      rw [e, e']
      unfold billingref23_number_l1b
      simp [go_sem, q, e1, g, pos, e_rDigit, h1, billingref23_number_k1]
      simpa using f

theorem e_rnumber (p r : List UInt8) (hl : p.length + r.length ≤ 1000000) : acall mach0 n_billingref23_number [.str (p ++ r), .int .i64 p.length] [] = some (.ret (rtokV (p ++ r).length p.length (lexNum r)) []) := by
  refine acall_fn rfl (af := a_billingref23_number) rfl rfl ?_
  have := rnum_l p r [] (by simpa using hl) rfl
  simp only [List.nil_append, List.length_nil, Nat.add_zero] at this
  simp [List.replicate, go_sem]
  simpa [lexNum] using this
end Go.Am
