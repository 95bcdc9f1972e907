/- The lexer's texts and symbols. -/
import Derived.Test.YtcjglgeamdfpmaaEL3
set_option linter.unusedSimpArgs false
set_option linter.unnecessarySimpa false
set_option linter.unusedVariables false
namespace Go.Am
open Go Go.Pu

/-- What a token of text comes to: w is what stands within. -/
def textRt (x0 x1 x2 : List V) (s : List UInt8) (k : Nat) (w : List UInt8) (rest : List UInt8) (rt : Rt) : Prop :=
  match rest with
  | [] => ∃ j, rt = .pan (failV k 1) (hq x0 x1 x2 s j)
  | c :: _ => if c.toNat = 34 then (if w.length > 200 then ∃ j, rt = .pan (failV k 5) (hq x0 x1 x2 s j) else rt = .ret (tokV 3 0 k w) (hq x0 x1 x2 s (k + 1 + w.length + 1))) else ∃ j, rt = .pan (failV k 1) (hq x0 x1 x2 s j)

theorem slice_txt {p w r : List UInt8} {c : UInt8} : ((p ++ c :: (w ++ r)).take (p.length + 1 + w.length)).drop (p.length + 1) = w := by
  have := slice_mid (p := p ++ [c]) (w := w) (r := r)
  simpa using this

theorem text_l (x0 x1 x2 : List V) (p : List UInt8) (c : UInt8) : ∀ (r w : List UInt8), p.length + 1 + w.length + r.length ≤ 65536 → ∃ rt,
    textRt x0 x1 x2 (p ++ c :: (w ++ r)) p.length (w ++ r.takeWhile textB) (r.dropWhile textB) rt ∧
    Run mach0 (.c lexer_scanner_text_l1b :: .lp lexer_scanner_text_l1 :: .endB 0 :: .c lexer_scanner_text_k1 :: []) .norm
      ⟨(.ptr 3 0 :: .undef :: .box [.int .i64 0, .int .i64 0, .int .i64 0, .str []] :: .int .i64 p.length :: .undef :: .undef :: .undef :: .undef :: .undef :: .undef :: .undef :: .undef :: .undef :: .undef :: .undef :: .undef :: .undef :: .undef :: .undef :: .undef :: .undef :: .undef :: .undef :: .undef :: .undef :: .undef :: .undef :: .undef :: .undef :: .undef :: .undef :: .undef :: .undef :: .undef :: .undef :: .undef :: .undef :: .undef :: .undef :: .undef :: .undef :: .undef :: .undef :: .undef :: .undef :: .undef :: .undef :: .undef :: .undef :: .undef :: .undef :: .undef :: .undef :: .undef :: .undef :: .undef :: .undef :: .undef :: .undef :: .undef :: .undef :: .undef :: .undef :: .undef :: .undef :: .undef :: .undef :: .undef :: .undef :: .undef :: .undef :: .undef :: .undef :: .undef :: .undef :: .undef :: .undef :: .undef :: .undef :: .undef :: .undef :: .undef :: .undef :: .undef :: .undef :: .undef :: .undef :: .undef :: .undef :: .undef :: .undef :: .undef :: .undef :: .undef :: .undef :: .undef :: .undef :: .undef :: .undef :: .undef :: .undef :: .undef :: .undef :: .undef :: .undef :: .undef :: .undef :: []), hq x0 x1 x2 (p ++ c :: (w ++ r)) (p.length + 1 + w.length)⟩
      (FinQ [.cell 2 (some 4)] 4 rt) := by
  intro r
  induction r with
  | nil =>
    intro w hl
    refine ⟨.pan (failV p.length 1) (hq x0 x1 x2 (p ++ c :: (w ++ [])) (p.length + 1 + w.length)), ⟨_, rfl⟩, ?_⟩
    have q : ¬ ((p.length : Int) + 1 + w.length < p.length + (w.length + 1)) := by omega
    have q2 : (p.length : Int) + 1 + w.length = p.length + (w.length + 1) := by omega
    unfold lexer_scanner_text_l1b
    simp [go_sem, lexer_scanner_text_k1, q]
    unfold lexer_scanner_text_k1b
    simp [go_sem, q2, e_fail]
    simp [failV, go_sem]
  | cons b r ih =>
    intro w hl
    simp only [List.length_cons] at hl
    have q : (p.length : Int) + 1 + w.length < (p.length : Int) + (w.length + (r.length + 1) + 1) := by omega
    have e1 : ((p.length : Int) + 1 + (w.length : Int)).toNat = p.length + 1 + w.length := by omega
    have g : (p ++ c :: (w ++ b :: r))[p.length + 1 + w.length]?.getD 0 = b := by
      have := get_mid (p := p ++ c :: w) (r := r) (b := b)
      simp only [List.append_assoc, List.cons_append, List.length_append, List.length_cons] at this
      have e : p.length + 1 + w.length = p.length + (w.length + 1) := by omega
      rw [e]; exact this
    have pos : (0 : Int) ≤ (p.length : Int) + 1 + w.length := by omega
    have wr : IntKind.wrap .i64 ((p.length : Int) + 1 + w.length + 1) = (p.length : Int) + 1 + (w.length + 1) := by rw [wrap_i64 (by omega)]; omega
    by_cases h34 : (b.toNat : Int) = 34
    · have hb : textB b = false := by simp [textB]; omega
      have e : (b :: r).takeWhile textB = [] := List.takeWhile_cons_of_neg (by simp [hb])
      have e' : (b :: r).dropWhile textB = b :: r := List.dropWhile_cons_of_neg (by simp [hb])
      have hn : b.toNat = 34 := by omega
      rw [e, e']
      simp only [textRt, if_pos hn, List.append_nil]
      have q3 : ¬ ((p.length : Int) + 1 + w.length = (p.length : Int) + (w.length + (r.length + 1) + 1)) := by omega
      have w2 : IntKind.wrap .i64 ((p.length : Int) + 1) = p.length + 1 := wrap_i64 (by omega)
      have p2 : (0 : Int) ≤ (p.length : Int) + 1 := by omega
      have p3 : (p.length : Int) + 1 ≤ (p.length : Int) + 1 + w.length := by omega
      have p4 : (p.length : Int) + 1 + w.length ≤ (p.length : Int) + (w.length + (r.length + 1) + 1) := by omega
      have e3 : ((p.length : Int) + 1).toNat = p.length + 1 := by omega
      have e2 := slice_txt (p := p) (w := w) (r := b :: r) (c := c)
      by_cases h : w.length > 200
      · simp only [if_pos h]
        refine ⟨_, ⟨p.length + 1 + w.length + 1, rfl⟩, ?_⟩
        have h' : (200 : Int) < w.length := by omega
        unfold lexer_scanner_text_l1b
        simp [go_sem, q, e1, g, pos, nf' h34, lexer_scanner_text_k1]
        unfold lexer_scanner_text_k1b
        simp [go_sem, q3, w2, p2, p3, p4, e1, e3, e2, wr, h', e_fail]
        simp [failV, go_sem]
        omega
      · simp only [if_neg h]
        refine ⟨_, rfl, ?_⟩
        have h' : ¬ (200 : Int) < w.length := by omega
        unfold lexer_scanner_text_l1b
        simp [go_sem, q, e1, g, pos, nf' h34, lexer_scanner_text_k1]
        unfold lexer_scanner_text_k1b
        simp [go_sem, q3, w2, p2, p3, p4, e1, e3, e2, wr, h', e_fail]
        simp [tokV]
        omega
    · by_cases h32 : (b.toNat : Int) < 32
      · have hb : textB b = false := by simp [textB]; omega
        have e : (b :: r).takeWhile textB = [] := List.takeWhile_cons_of_neg (by simp [hb])
        have e' : (b :: r).dropWhile textB = b :: r := List.dropWhile_cons_of_neg (by simp [hb])
        have hn : ¬ b.toNat = 34 := by omega
        rw [e, e']
        simp only [textRt, if_neg hn, List.append_nil]
        refine ⟨_, ⟨p.length + 1 + w.length, rfl⟩, ?_⟩
        unfold lexer_scanner_text_l1b
        simp [go_sem, q, e1, g, pos, nt' h34, h32, e_fail]
        simp [failV, go_sem]
      · by_cases h126 : (126 : Int) < (b.toNat : Int)
        · have hb : textB b = false := by simp [textB]; omega
          have e : (b :: r).takeWhile textB = [] := List.takeWhile_cons_of_neg (by simp [hb])
          have e' : (b :: r).dropWhile textB = b :: r := List.dropWhile_cons_of_neg (by simp [hb])
          have hn : ¬ b.toNat = 34 := by omega
          rw [e, e']
          simp only [textRt, if_neg hn, List.append_nil]
          refine ⟨_, ⟨p.length + 1 + w.length, rfl⟩, ?_⟩
          unfold lexer_scanner_text_l1b
          simp [go_sem, q, e1, g, pos, nt' h34, h32, h126, e_fail]
          simp [failV, go_sem]
        · have hb : textB b = true := by simp [textB]; omega
          have e : (b :: r).takeWhile textB = b :: r.takeWhile textB := List.takeWhile_cons_of_pos hb
          have e' : (b :: r).dropWhile textB = r.dropWhile textB := List.dropWhile_cons_of_pos hb
          obtain ⟨rt, i1, i2⟩ := ih (w ++ [b]) (by simp; omega)
          simp only [List.append_assoc, List.singleton_append, List.length_append, List.length_cons, List.length_nil, Nat.zero_add] at i1 i2
          refine ⟨rt, by rw [e, e']; exact i1, ?_⟩
          unfold lexer_scanner_text_l1b
          simp [go_sem, q, e1, g, pos, nt' h34, h32, h126, e_fail, wr]
          simpa [hq] using i2

theorem e_text (x0 x1 x2 : List V) (p l : List UInt8) (c : UInt8) (hl : p.length + 1 + l.length ≤ 65536) : ∃ rt, textRt x0 x1 x2 (p ++ c :: l) p.length (l.takeWhile textB) (l.dropWhile textB) rt ∧ acall mach0 n_lexer_scanner_text [.ptr 3 0] (hq x0 x1 x2 (p ++ c :: l) p.length) = some rt := by
  obtain ⟨rt, h1, h2⟩ := text_l x0 x1 x2 p c l [] (by simpa using hl)
  simp only [List.nil_append, List.length_nil, Nat.add_zero] at h1 h2
  refine ⟨rt, h1, acall_fn rfl (af := a_lexer_scanner_text) rfl rfl ?_⟩
  have w2 : IntKind.wrap .i64 ((p.length : Int) + 1) = p.length + 1 := wrap_i64 (by omega)
  simp [List.replicate, go_sem, w2]
  simpa [hq] using h2
end Go.Am
