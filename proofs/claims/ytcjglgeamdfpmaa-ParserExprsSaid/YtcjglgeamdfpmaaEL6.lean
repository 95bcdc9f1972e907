/- The lexer's next token. -/
import Derived.Test.YtcjglgeamdfpmaaEL5
set_option linter.unusedSimpArgs false
set_option linter.unnecessarySimpa false
set_option linter.unusedVariables false
set_option maxRecDepth 10000
namespace Go.Am
open Go Go.Pu

def nice (x0 x1 x2 : List V) (s : List UInt8) (rt : Rt) : Prop := (∃ k n q t j, rt = .ret (tokV k n q t) (hq x0 x1 x2 s j)) ∨ (∃ q e j, rt = .pan (failV q e) (hq x0 x1 x2 s j))

section
variable {x0 x1 x2 : List V} {p l p0 r : List UInt8} {b : UInt8} {rt : Rt}

theorem next_of (hl : p.length + 1 + l.length ≤ 65536)
    (hb : acall mach0 n_lexer_scanner_blanks [.ptr 3 0] (hq x0 x1 x2 (p0 ++ r) p0.length) = some (.ret (.tup []) (hq x0 x1 x2 (p ++ b :: l) p.length))) (hn : nice x0 x1 x2 (p ++ b :: l) rt)
    (hc : lowerB b = true ∧ acall mach0 n_lexer_scanner_word [.ptr 3 0] (hq x0 x1 x2 (p ++ b :: l) p.length) = some rt ∨
      lowerB b = false ∧ digitB b = true ∧ acall mach0 n_lexer_scanner_number [.ptr 3 0] (hq x0 x1 x2 (p ++ b :: l) p.length) = some rt ∨
      lowerB b = false ∧ digitB b = false ∧ (b.toNat : Int) = 34 ∧ acall mach0 n_lexer_scanner_text [.ptr 3 0] (hq x0 x1 x2 (p ++ b :: l) p.length) = some rt ∨
      lowerB b = false ∧ digitB b = false ∧ ¬ (b.toNat : Int) = 34 ∧ acall mach0 n_lexer_scanner_symbol [.ptr 3 0] (hq x0 x1 x2 (p ++ b :: l) p.length) = some rt) :
    acall mach0 n_lexer_scanner_next [.ptr 3 0] (hq x0 x1 x2 (p0 ++ r) p0.length) = some rt := by
  have q0 : ¬ (p.length : Int) = p.length + (l.length + 1) := by omega
  have q1 : (p.length : Int) < p.length + (l.length + 1) := by omega
  have g := get_mid (p := p) (r := l) (b := b)
  refine acall_fn rfl (af := a_lexer_scanner_next) rfl rfl ?_
  simp only [hq, List.length_append, List.length_cons] at hb hc
  rcases hn with ⟨k, n, q, t, j, rfl⟩ | ⟨q, e, j, rfl⟩
  · simp only [hq, tokV] at hc ⊢
    rcases hc with ⟨h1, e⟩ | ⟨h1, h2, e⟩ | ⟨h1, h2, h3, e⟩ | ⟨h1, h2, h3, e⟩
    · simp [List.replicate, go_sem, hb, q0, q1, g, e_lower, h1, e]
    · simp [List.replicate, go_sem, hb, q0, q1, g, e_lower, e_digit, h1, h2, e]
    · simp [List.replicate, go_sem, hb, q0, q1, g, e_lower, e_digit, h1, h2, bt' h3, e]
    · simp [List.replicate, go_sem, hb, q0, q1, g, e_lower, e_digit, h1, h2, bf' h3, e]
  · simp only [hq, failV] at hc ⊢
    rcases hc with ⟨h1, e⟩ | ⟨h1, h2, e⟩ | ⟨h1, h2, h3, e⟩ | ⟨h1, h2, h3, e⟩
    · simp [List.replicate, go_sem, hb, q0, q1, g, e_lower, h1, e]
    · simp [List.replicate, go_sem, hb, q0, q1, g, e_lower, e_digit, h1, h2, e]
    · simp [List.replicate, go_sem, hb, q0, q1, g, e_lower, e_digit, h1, h2, bt' h3, e]
    · simp [List.replicate, go_sem, hb, q0, q1, g, e_lower, e_digit, h1, h2, bf' h3, e]

theorem nextRt_nice {k : Nat} {o : LR} {s : List UInt8} (h : nextRt x0 x1 x2 s k o rt) : nice x0 x1 x2 s rt := by
  cases o with
  | ok t r => exact .inl ⟨_, _, _, _, _, h⟩
  | err e => obtain ⟨j, hj⟩ := h; exact .inr ⟨_, _, _, hj⟩

theorem next_at (hl : p.length + 1 + l.length ≤ 65536)
    (hb : acall mach0 n_lexer_scanner_blanks [.ptr 3 0] (hq x0 x1 x2 (p0 ++ r) p0.length) = some (.ret (.tup []) (hq x0 x1 x2 (p ++ b :: l) p.length))) :
    ∃ rt, acall mach0 n_lexer_scanner_next [.ptr 3 0] (hq x0 x1 x2 (p0 ++ r) p0.length) = some rt ∧ nextRt x0 x1 x2 (p ++ b :: l) p.length (lexOne b l) rt := by
  by_cases h1 : lowerB b = true
  · have e := e_word x0 x1 x2 p (b :: l) (by simp; omega)
    have ex : lexOne b l = lexWord (b :: l) := by simp only [lexOne, if_pos h1]
    have hk := takeDrop_len wordB (b :: l)
    have hn : nextRt x0 x1 x2 (p ++ b :: l) p.length (lexOne b l) (wordRt x0 x1 x2 (p ++ b :: l) p.length ((b :: l).takeWhile wordB)) := by
      rw [ex]
      unfold lexWord wordRt
      by_cases h : ((b :: l).takeWhile wordB).length > 24
      · rw [if_pos h, if_pos h]; exact ⟨_, rfl⟩
      · rw [if_neg h, if_neg h]
        simp only [nextRt, List.length_append]
        have : p.length + (b :: l).length - ((b :: l).dropWhile wordB).length = p.length + ((b :: l).takeWhile wordB).length := by omega
        rw [this]; rfl
    exact ⟨_, next_of hl hb (nextRt_nice hn) (.inl ⟨h1, e⟩), hn⟩
  have h1 : lowerB b = false := by simpa using h1
  by_cases h2 : digitB b = true
  · have e := e_number x0 x1 x2 p (b :: l) (by simp; omega)
    have ex : lexOne b l = lexNum (b :: l) := by simp only [lexOne, if_neg (show ¬ lowerB b = true by simp [h1]), if_pos h2]
    have hk := takeDrop_len digitB (b :: l)
    have hn : nextRt x0 x1 x2 (p ++ b :: l) p.length (lexOne b l) (numRt x0 x1 x2 (p ++ b :: l) p.length ((b :: l).takeWhile digitB) ((b :: l).dropWhile digitB)) := by
      rw [ex]
      unfold lexNum numRt
      by_cases h : ((b :: l).takeWhile digitB).length > 16
      · rw [if_pos h, if_pos h]; exact ⟨_, rfl⟩
      · rw [if_neg h, if_neg h]
        by_cases h' : headIs lowerB ((b :: l).dropWhile digitB) = true
        · rw [if_pos h', if_pos h']; exact ⟨_, rfl⟩
        · rw [if_neg h', if_neg h']
          simp only [nextRt, List.length_append]
          have : p.length + (b :: l).length - ((b :: l).dropWhile digitB).length = p.length + ((b :: l).takeWhile digitB).length := by omega
          rw [this]; rfl
    exact ⟨_, next_of hl hb (nextRt_nice hn) (.inr (.inl ⟨h1, h2, e⟩)), hn⟩
  have h2 : digitB b = false := by simpa using h2
  by_cases h3 : b.toNat = 34
  · obtain ⟨rt, ht, e⟩ := e_text x0 x1 x2 p l b hl
    have ex : lexOne b l = lexText l := by simp only [lexOne, if_neg (show ¬ lowerB b = true by simp [h1]), if_neg (show ¬ digitB b = true by simp [h2]), if_pos h3]
    have hk := takeDrop_len textB l
    have hn : nextRt x0 x1 x2 (p ++ b :: l) p.length (lexOne b l) rt := by
      rw [ex]
      unfold lexText
      unfold textRt at ht
      cases hd : l.dropWhile textB with
      | nil => rw [hd] at ht; exact ht
      | cons c r =>
        rw [hd] at ht hk
        simp only at ht ⊢
        by_cases hc : c.toNat = 34
        · rw [if_pos hc] at ht ⊢
          by_cases h : (l.takeWhile textB).length > 200
          · rw [if_pos h] at ht ⊢; exact ht
          · rw [if_neg h] at ht ⊢
            simp only [nextRt, List.length_append, List.length_cons] at ht hk ⊢
            have : p.length + (l.length + 1) - r.length = p.length + 1 + (l.takeWhile textB).length + 1 := by omega
            rw [this]; exact ht
        · rw [if_neg hc] at ht ⊢; exact ht
    exact ⟨_, next_of hl hb (nextRt_nice hn) (.inr (.inr (.inl ⟨h1, h2, by omega, e⟩))), hn⟩
  · obtain ⟨rt, hn, e⟩ := e_symbol x0 x1 x2 p l b hl
    have ex : lexOne b l = lexSym b l := by simp only [lexOne, if_neg (show ¬ lowerB b = true by simp [h1]), if_neg (show ¬ digitB b = true by simp [h2]), if_neg h3]
    rw [← ex] at hn
    exact ⟨_, next_of hl hb (nextRt_nice hn) (.inr (.inr (.inr ⟨h1, h2, by omega, e⟩))), hn⟩
end

theorem e_next (x0 x1 x2 : List V) (p r : List UInt8) (hl : p.length + r.length ≤ 65536) : ∃ rt, acall mach0 n_lexer_scanner_next [.ptr 3 0] (hq x0 x1 x2 (p ++ r) p.length) = some rt ∧ (match skipB false r with
    | [] => rt = .ret (tokV 0 0 (p ++ r).length []) (hq x0 x1 x2 (p ++ r) (p ++ r).length)
    | b :: l => nextRt x0 x1 x2 (p ++ r) ((p ++ r).length - (b :: l).length) (lexOne b l) rt) := by
  have hb := e_blanks x0 x1 x2 p r hl
  have hsk := skipB_le false r
  obtain ⟨q, hq1⟩ := skip_suf false r
  cases hr : skipB false r with
  | nil =>
    rw [hr] at hb
    refine ⟨_, acall_fn rfl (af := a_lexer_scanner_next) rfl rfl ?_, rfl⟩
    simp [hq] at hb
    simp [List.replicate, go_sem, hb]
    simp [tokV]
  | cons b l =>
    rw [hr] at hb hq1 hsk
    have e1 : p ++ r = (p ++ q) ++ b :: l := by rw [hq1, List.append_assoc]
    have e2 : p.length + (r.length - (b :: l).length) = (p ++ q).length := by
      rw [hq1]; simp
    have e3 : (p ++ r).length - (b :: l).length = (p ++ q).length := by rw [e1]; simp; omega
    have e4 : (p ++ q).length + 1 + l.length ≤ 65536 := by
      have := congrArg List.length e1
      simp at this ⊢
      omega
    rw [e2] at hb
    have hb' : acall mach0 n_lexer_scanner_blanks [.ptr 3 0] (hq x0 x1 x2 (p ++ r) p.length) = some (.ret (.tup []) (hq x0 x1 x2 ((p ++ q) ++ b :: l) (p ++ q).length)) := by rw [← e1]; exact hb
    obtain ⟨rt, h1, h2⟩ := next_at e4 hb'
    refine ⟨rt, h1, ?_⟩
    simp only
    rw [e3, e1]
    exact h2
end Go.Am
