/- The lexer's symbols, and its next token. -/
import Derived.Test.YtcjglgeamdfpmaaEL4
set_option linter.unusedSimpArgs false
set_option linter.unnecessarySimpa false
set_option linter.unusedVariables false
set_option maxRecDepth 10000
namespace Go.Am
open Go Go.Pu

def nextRt (x0 x1 x2 : List V) (s : List UInt8) (k : Nat) : LR → Rt → Prop
  | .ok t r, rt => rt = .ret (tokV t.kind t.val k t.str) (hq x0 x1 x2 s (s.length - r.length))
  | .err e, rt => ∃ j, rt = .pan (failV k e) (hq x0 x1 x2 s j)

theorem toNat_eq {b : UInt8} {n : Nat} (h : b.toNat = n) : b = UInt8.ofNat n := by rw [← h]; simp

theorem slice1 {p l : List UInt8} {b : UInt8} : ((p ++ b :: l).take (p.length + 1)).drop p.length = [b] := by
  have := slice_mid (p := p) (w := [b]) (r := l)
  simpa using this
theorem slice2 {p l : List UInt8} {b c : UInt8} : ((p ++ b :: c :: l).take (p.length + 2)).drop p.length = [b, c] := by
  have := slice_mid (p := p) (w := [b, c]) (r := l)
  simpa using this
theorem get_mid2 {p r : List UInt8} {b c : UInt8} : (p ++ b :: c :: r)[p.length + 1]?.getD 0 = c := by
  have := get_mid (p := p ++ [b]) (r := r) (b := c)
  simpa using this

theorem e_symA (x0 x1 x2 : List V) (p l : List UInt8) (b : UInt8) (hl : p.length + 1 + l.length ≤ 65536) (hs : b.toNat = 59 ∨ b.toNat = 44 ∨ b.toNat = 43 ∨ b.toNat = 45) : acall mach0 n_lexer_scanner_symbol [.ptr 3 0] (hq x0 x1 x2 (p ++ b :: l) p.length) = some (.ret (tokV 4 0 p.length [b]) (hq x0 x1 x2 (p ++ b :: l) (p.length + 1))) := by
  have w1 : IntKind.wrap .i64 ((p.length : Int) + 1) = p.length + 1 := wrap_i64 (by omega)
  have q0 : (p.length : Int) < p.length + (l.length + 1) := by omega
  have p1 : (p.length : Int) ≤ p.length + 1 := by omega
  have p2 : (p.length : Int) + 1 ≤ p.length + (l.length + 1) := by omega
  have e1 : ((p.length : Int) + 1).toNat = p.length + 1 := by omega
  have s1 := slice1 (p := p) (l := l) (b := b)
  have g := get_mid (p := p) (r := l) (b := b)
  refine acall_fn rfl (af := a_lexer_scanner_symbol) rfl rfl ?_
  rcases hs with hs | hs | hs | hs <;> (obtain rfl := toNat_eq hs; simp [List.replicate, go_sem, q0, w1, p1, p2, e1, s1, tokV]; exact slice1)

theorem e_symB (x0 x1 x2 : List V) (p l : List UInt8) (b : UInt8) (hl : p.length + 1 + l.length ≤ 65536) (hs : b.toNat = 58 ∨ b.toNat = 40 ∨ b.toNat = 41 ∨ b.toNat = 61) : acall mach0 n_lexer_scanner_symbol [.ptr 3 0] (hq x0 x1 x2 (p ++ b :: l) p.length) = some (.ret (tokV 4 0 p.length [b]) (hq x0 x1 x2 (p ++ b :: l) (p.length + 1))) := by
  have w1 : IntKind.wrap .i64 ((p.length : Int) + 1) = p.length + 1 := wrap_i64 (by omega)
  have q0 : (p.length : Int) < p.length + (l.length + 1) := by omega
  have p1 : (p.length : Int) ≤ p.length + 1 := by omega
  have p2 : (p.length : Int) + 1 ≤ p.length + (l.length + 1) := by omega
  have e1 : ((p.length : Int) + 1).toNat = p.length + 1 := by omega
  have s1 := slice1 (p := p) (l := l) (b := b)
  have g := get_mid (p := p) (r := l) (b := b)
  refine acall_fn rfl (af := a_lexer_scanner_symbol) rfl rfl ?_
  rcases hs with hs | hs | hs | hs <;> (obtain rfl := toNat_eq hs; simp [List.replicate, go_sem, q0, w1, p1, p2, e1, s1, tokV]; exact slice1)

theorem e_symC (x0 x1 x2 : List V) (p l : List UInt8) (b : UInt8) (hl : p.length + 1 + l.length ≤ 65536) (hs : b.toNat = 42 ∨ b.toNat = 47 ∨ b.toNat = 37 ∨ b.toNat = 37) : acall mach0 n_lexer_scanner_symbol [.ptr 3 0] (hq x0 x1 x2 (p ++ b :: l) p.length) = some (.ret (tokV 4 0 p.length [b]) (hq x0 x1 x2 (p ++ b :: l) (p.length + 1))) := by
  have w1 : IntKind.wrap .i64 ((p.length : Int) + 1) = p.length + 1 := wrap_i64 (by omega)
  have q0 : (p.length : Int) < p.length + (l.length + 1) := by omega
  have p1 : (p.length : Int) ≤ p.length + 1 := by omega
  have p2 : (p.length : Int) + 1 ≤ p.length + (l.length + 1) := by omega
  have e1 : ((p.length : Int) + 1).toNat = p.length + 1 := by omega
  have s1 := slice1 (p := p) (l := l) (b := b)
  have g := get_mid (p := p) (r := l) (b := b)
  refine acall_fn rfl (af := a_lexer_scanner_symbol) rfl rfl ?_
  rcases hs with hs | hs | hs | hs <;> (obtain rfl := toNat_eq hs; simp [List.replicate, go_sem, q0, w1, p1, p2, e1, s1, tokV]; exact slice1)

theorem e_symbol (x0 x1 x2 : List V) (p l : List UInt8) (b : UInt8) (hl : p.length + 1 + l.length ≤ 65536) : ∃ rt, nextRt x0 x1 x2 (p ++ b :: l) p.length (lexSym b l) rt ∧ acall mach0 n_lexer_scanner_symbol [.ptr 3 0] (hq x0 x1 x2 (p ++ b :: l) p.length) = some rt := by
  have w1 : IntKind.wrap .i64 ((p.length : Int) + 1) = p.length + 1 := wrap_i64 (by omega)
  have w2 : IntKind.wrap .i64 ((p.length : Int) + 2) = p.length + 2 := wrap_i64 (by omega)
  have q0 : (p.length : Int) < p.length + (l.length + 1) := by omega
  have p1 : (p.length : Int) ≤ p.length + 1 := by omega
  have p2 : (p.length : Int) + 1 ≤ p.length + (l.length + 1) := by omega
  have p3 : (p.length : Int) ≤ p.length + 2 := by omega
  have e1 : ((p.length : Int) + 1).toNat = p.length + 1 := by omega
  have e2 : ((p.length : Int) + 2).toNat = p.length + 2 := by omega
  have z1 : (0 : Int) ≤ (p.length : Int) + 1 := by omega
  have g := get_mid (p := p) (r := l) (b := b)
  have s1 := slice1 (p := p) (l := l) (b := b)
  have one : lexSym b l = .ok (.sym [b]) l → acall mach0 n_lexer_scanner_symbol [.ptr 3 0] (hq x0 x1 x2 (p ++ b :: l) p.length) = some (.ret (tokV 4 0 p.length [b]) (hq x0 x1 x2 (p ++ b :: l) (p.length + 1))) → ∃ rt, nextRt x0 x1 x2 (p ++ b :: l) p.length (lexSym b l) rt ∧ acall mach0 n_lexer_scanner_symbol [.ptr 3 0] (hq x0 x1 x2 (p ++ b :: l) p.length) = some rt := by
    intro h h'
    refine ⟨_, ?_, h'⟩
    rw [h]
    simp only [nextRt, Tk.kind, Tk.val, Tk.str, List.length_append, List.length_cons]
    have : p.length + (l.length + 1) - l.length = p.length + 1 := by omega
    rw [this]
    rfl
  by_cases h60 : b.toNat = 60
  · obtain rfl : b = 60 := toNat_eq h60
    cases l with
    | nil =>
      refine one rfl (acall_fn rfl (af := a_lexer_scanner_symbol) rfl rfl ?_)
      simp only [List.length_nil] at q0 p2
      simp [List.replicate, go_sem, w1, p1, e1, s1, tokV]
      try omega
    | cons c l =>
      have g2 := get_mid2 (p := p) (r := l) (b := 60) (c := c)
      have s2 := slice2 (p := p) (l := l) (b := 60) (c := c)
      simp only [List.length_cons, Int.natCast_add] at q0 p2
      have q1 : (p.length : Int) + 1 < p.length + (l.length + 1 + 1) := by omega
      have p4 : (p.length : Int) + 2 ≤ p.length + (l.length + 1 + 1) := by omega
      by_cases h62 : c.toNat = 62
      · obtain rfl : c = 62 := toNat_eq h62
        refine ⟨_, rfl, acall_fn rfl (af := a_lexer_scanner_symbol) rfl rfl ?_⟩
        have e5 : p.length + (l.length + 1 + 1) - l.length = p.length + 2 := by omega
        simp [List.replicate, go_sem, q0, w1, w2, q1, p2, p3, p4, e1, e2, z1, g2, s2, Tk.kind, Tk.val, Tk.str, e5]
        simp [tokV]
        try omega
      · by_cases h61 : c.toNat = 61
        · obtain rfl : c = 61 := toNat_eq h61
          refine ⟨_, rfl, acall_fn rfl (af := a_lexer_scanner_symbol) rfl rfl ?_⟩
          have e5 : p.length + (l.length + 1 + 1) - l.length = p.length + 2 := by omega
          simp [List.replicate, go_sem, q0, w1, w2, q1, p2, p3, p4, e1, e2, z1, g2, s2, Tk.kind, Tk.val, Tk.str, e5]
          simp [tokV]
          try omega
        · have i62 : ¬ (c.toNat : Int) = 62 := by omega
          have i61 : ¬ (c.toNat : Int) = 61 := by omega
          refine one (by simp [lexSym, h62, h61]) (acall_fn rfl (af := a_lexer_scanner_symbol) rfl rfl ?_)
          simp [List.replicate, go_sem, q0, w1, q1, p1, p2, e1, z1, g2, s1, i62, i61]
          simp [tokV]
          try omega
  · by_cases h62 : b.toNat = 62
    · obtain rfl : b = 62 := toNat_eq h62
      cases l with
      | nil =>
        refine one rfl (acall_fn rfl (af := a_lexer_scanner_symbol) rfl rfl ?_)
        simp only [List.length_nil] at q0 p2
        simp [List.replicate, go_sem, w1, p1, e1, s1, tokV]
        try omega
      | cons c l =>
        have g2 := get_mid2 (p := p) (r := l) (b := 62) (c := c)
        have s2 := slice2 (p := p) (l := l) (b := 62) (c := c)
        simp only [List.length_cons, Int.natCast_add] at q0 p2
        have q1 : (p.length : Int) + 1 < p.length + (l.length + 1 + 1) := by omega
        have p4 : (p.length : Int) + 2 ≤ p.length + (l.length + 1 + 1) := by omega
        by_cases h61 : c.toNat = 61
        · obtain rfl : c = 61 := toNat_eq h61
          refine ⟨_, rfl, acall_fn rfl (af := a_lexer_scanner_symbol) rfl rfl ?_⟩
          have e5 : p.length + (l.length + 1 + 1) - l.length = p.length + 2 := by omega
          simp [List.replicate, go_sem, q0, w1, w2, q1, p2, p3, p4, e1, e2, z1, g2, s2, Tk.kind, Tk.val, Tk.str, e5]
          simp [tokV]
          try omega
        · have i61 : ¬ (c.toNat : Int) = 61 := by omega
          refine one (by simp [lexSym, h61]) (acall_fn rfl (af := a_lexer_scanner_symbol) rfl rfl ?_)
          simp [List.replicate, go_sem, q0, w1, q1, p1, p2, e1, z1, g2, s1, i61]
          simp [tokV]
          try omega
    · by_cases hs : b.toNat ∈ singles
      · have hx : lexSym b l = .ok (.sym [b]) l := by simp only [lexSym, if_neg h60, if_neg h62, if_pos hs]
        refine one hx ?_
        simp only [singles, List.mem_cons, List.not_mem_nil, or_false] at hs
        rcases hs with hv | hv | hv | hv | hv | hv | hv | hv | hv | hv | hv
        · exact e_symA x0 x1 x2 p l b hl (by omega)
        · exact e_symA x0 x1 x2 p l b hl (by omega)
        · exact e_symA x0 x1 x2 p l b hl (by omega)
        · exact e_symA x0 x1 x2 p l b hl (by omega)
        · exact e_symB x0 x1 x2 p l b hl (by omega)
        · exact e_symB x0 x1 x2 p l b hl (by omega)
        · exact e_symB x0 x1 x2 p l b hl (by omega)
        · exact e_symB x0 x1 x2 p l b hl (by omega)
        · exact e_symC x0 x1 x2 p l b hl (by omega)
        · exact e_symC x0 x1 x2 p l b hl (by omega)
        · exact e_symC x0 x1 x2 p l b hl (by omega)
      · have hx : lexSym b l = .err 1 := by simp only [lexSym, if_neg h60, if_neg h62, if_neg hs]
        rw [hx]
        refine ⟨_, ⟨p.length, rfl⟩, acall_fn rfl (af := a_lexer_scanner_symbol) rfl rfl ?_⟩
        simp only [singles, List.mem_cons, List.not_mem_nil, or_false, not_or] at hs
        obtain ⟨a1, a2, a3, a4, a5, a6, a7, a8, a9, a10, a11⟩ := hs
        have b1 : ¬ (b.toNat : Int) = 59 := by omega
        have b2 : ¬ (b.toNat : Int) = 44 := by omega
        have b3 : ¬ (b.toNat : Int) = 43 := by omega
        have b4 : ¬ (b.toNat : Int) = 45 := by omega
        have b5 : ¬ (b.toNat : Int) = 58 := by omega
        have b6 : ¬ (b.toNat : Int) = 40 := by omega
        have b7 : ¬ (b.toNat : Int) = 41 := by omega
        have b8 : ¬ (b.toNat : Int) = 61 := by omega
        have b9 : ¬ (b.toNat : Int) = 42 := by omega
        have b10 : ¬ (b.toNat : Int) = 47 := by omega
        have b11 : ¬ (b.toNat : Int) = 37 := by omega
        have c1 : ¬ (b.toNat : Int) = 60 := by omega
        have c2 : ¬ (b.toNat : Int) = 62 := by omega
        simp [List.replicate, go_sem, q0, b1, b2, b3, b4, b5, b6, b7, b8, b9, b10, b11, c1, c2, e_fail]
        simp [failV, go_sem]

end Go.Am
