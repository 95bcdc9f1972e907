/- The reference's texts. -/
import Derived.Test.YtcjglgeamdfpmaaEM4
set_option linter.unusedSimpArgs false
set_option linter.unnecessarySimpa false
set_option linter.unusedVariables false
set_option maxRecDepth 10000
namespace Go.Am
open Go Go.Pu

def txtR (w rest : List UInt8) : LR := match rest with
  | [] => .err 1
  | c :: r => if c.toNat = 34 then (if w.length > 200 then .err 5 else .ok (.text w) r) else .err 1

theorem rtext_l (p : List UInt8) (c : UInt8) : ∀ (r w : List UInt8), p.length + 1 + w.length + r.length ≤ 1000000 →
    Run mach0 (.c billingref23_text_l1b :: .lp billingref23_text_l1 :: .endB 0 :: .c billingref23_text_k1 :: []) .norm
      ⟨(.str (p ++ c :: (w ++ r)) :: .int .i64 p.length :: .undef :: .undef :: .box [.int .i64 0, .int .i64 0, .int .i64 0, .str []] :: .undef :: .undef :: .int .i64 (p.length + 1 + w.length : Nat) :: .undef :: .undef :: .undef :: .undef :: .undef :: .undef :: .undef :: .undef :: .undef :: .undef :: .undef :: .undef :: .undef :: .undef :: .undef :: .undef :: .undef :: .undef :: .undef :: .undef :: .undef :: .undef :: .undef :: .undef :: .undef :: .undef :: .undef :: .undef :: .undef :: .undef :: .undef :: .undef :: .undef :: .undef :: .undef :: .undef :: .undef :: .undef :: .undef :: .undef :: .undef :: .undef :: []), []⟩
      (FinQ [.cell 4 (some 4), .tmp 5, .tmp 6] 0 (.ret (rtokV (p.length + 1 + w.length + r.length) p.length (txtR (w ++ r.takeWhile textB) (r.dropWhile textB))) [])) := by
  intro r
  induction r with
  | nil =>
    intro w hl
    have q : ¬ ((p.length : Int) + 1 + w.length < p.length + (w.length + 1)) := by omega
    have q2 : (p.length : Int) + 1 + w.length = p.length + (w.length + 1) := by omega
    unfold billingref23_text_l1b
    simp [go_sem, billingref23_text_k1, q]
    unfold billingref23_text_k1b
    simp [go_sem, bt' q2, txtR, rtokV, tokV]
  | cons b r ih =>
    intro w hl
    simp only [List.length_cons] at hl
    have q : (p.length : Int) + 1 + w.length < (p.length : Int) + (w.length + (r.length + 1) + 1) := by omega
    have q3 : ¬ ((p.length : Int) + 1 + w.length = (p.length : Int) + (w.length + (r.length + 1) + 1)) := by omega
    have e1 : ((p.length : Int) + 1 + (w.length : Int)).toNat = p.length + 1 + w.length := by omega
    have g : (p ++ c :: (w ++ b :: r))[p.length + 1 + w.length]?.getD 0 = b := by
      have := get_mid (p := p ++ c :: w) (r := r) (b := b)
      simp only [List.append_assoc, List.cons_append, List.length_append, List.length_cons] at this
      have e : p.length + 1 + w.length = p.length + (w.length + 1) := by omega
      rw [e]; exact this
    have pos : (0 : Int) ≤ (p.length : Int) + 1 + w.length := by omega
    have wr : IntKind.wrap .i64 ((p.length : Int) + 1 + w.length + 1) = (p.length : Int) + 1 + (w.length + 1) := by rw [wrap_i64 (by omega)]; omega
    by_cases ht : textB b = true
    · have e : (b :: r).takeWhile textB = b :: r.takeWhile textB := List.takeWhile_cons_of_pos ht
      have e' : (b :: r).dropWhile textB = r.dropWhile textB := List.dropWhile_cons_of_pos ht
      have ih := ih (w ++ [b]) (by simp; omega)
      simp only [List.append_assoc, List.singleton_append, List.length_append, List.length_cons, List.length_nil, Nat.zero_add] at ih
      have e7 : p.length + 1 + (w.length + 1) + r.length = p.length + 1 + w.length + (b :: r).length := by simp; omega
      rw [e7] at ih
      rw [e, e']
      unfold billingref23_text_l1b
      simp [go_sem, q, e1, g, pos, e_inText, ht, wr]
      simpa using ih
    · have e : (b :: r).takeWhile textB = [] := List.takeWhile_cons_of_neg ht
      have e' : (b :: r).dropWhile textB = b :: r := List.dropWhile_cons_of_neg ht
      have ht : textB b = false := by simpa using ht
      rw [e, e']
      simp only [List.append_nil, txtR]
      by_cases h34 : b.toNat = 34
      · have hi : (b.toNat : Int) = 34 := by omega
        simp only [if_pos h34]
        have w1 : IntKind.wrap .i64 ((p.length : Int) + 1 + w.length - p.length) = w.length + 1 := by rw [wrap_i64 (by omega)]; omega
        have w2 : IntKind.wrap .i64 ((w.length : Int) + 1 - 1) = w.length := by rw [wrap_i64 (by omega)]; omega
        have w2' : IntKind.wrap .i64 (w.length : Int) = w.length := wrap_i64 (by omega)
        have w3 : IntKind.wrap .i64 ((p.length : Int) + 1) = p.length + 1 := wrap_i64 (by omega)
        have p2 : (0 : Int) ≤ (p.length : Int) + 1 := by omega
        have p3 : (p.length : Int) + 1 ≤ (p.length : Int) + 1 + w.length := by omega
        have p4 : (p.length : Int) + 1 + w.length ≤ (p.length : Int) + (w.length + (r.length + 1) + 1) := by omega
        have e3 : ((p.length : Int) + 1).toNat = p.length + 1 := by omega
        have e2 := slice_txt (p := p) (w := w) (r := b :: r) (c := c)
        have e8 : p.length + 1 + w.length + (r.length + 1) - r.length = p.length + 1 + w.length + 1 := by omega
        by_cases h : w.length > 200
        · have h' : (200 : Int) < w.length := by omega
          unfold billingref23_text_l1b
          simp [go_sem, q, e1, g, pos, e_inText, ht, billingref23_text_k1, h]
          unfold billingref23_text_k1b
          simp [go_sem, q3, bf' q3, e1, g, q, pos, nf' hi, w1, w2, w2', h', rtokV, tokV]
        · have h' : ¬ (200 : Int) < w.length := by omega
          unfold billingref23_text_l1b
          simp [go_sem, q, e1, g, pos, e_inText, ht, billingref23_text_k1, h]
          unfold billingref23_text_k1b
          simp [go_sem, q3, bf' q3, e1, g, q, pos, nf' hi, w1, w2, w2', w3, p2, p3, p4, e3, e2, wr, h', rtokV, tokV, Tk.kind, Tk.val, Tk.str, e8]
          try omega
      · have hi : ¬ (b.toNat : Int) = 34 := by omega
        simp only [if_neg h34]
        unfold billingref23_text_l1b
        simp [go_sem, q, e1, g, pos, e_inText, ht, billingref23_text_k1]
        unfold billingref23_text_k1b
        simp [go_sem, q3, bf' q3, e1, g, q, pos, nt' hi, rtokV, tokV]

theorem e_rtext (p l : List UInt8) (c : UInt8) (hl : p.length + 1 + l.length ≤ 1000000) : acall mach0 n_billingref23_text [.str (p ++ c :: l), .int .i64 p.length] [] = some (.ret (rtokV (p ++ c :: l).length p.length (lexText l)) []) := by
  refine acall_fn rfl (af := a_billingref23_text) rfl rfl ?_
  have h := rtext_l p c l [] (by simpa using hl)
  simp only [List.nil_append, List.length_nil, Nat.add_zero] at h
  have w3 : IntKind.wrap .i64 ((p.length : Int) + 1) = p.length + 1 := wrap_i64 (by omega)
  have e : txtR (l.takeWhile textB) (l.dropWhile textB) = lexText l := rfl
  have e2 : (p ++ c :: l).length = p.length + 1 + l.length := by simp; omega
  rw [e] at h
  rw [e2]
  simp [List.replicate, go_sem, w3]
  simpa using h
end Go.Am
