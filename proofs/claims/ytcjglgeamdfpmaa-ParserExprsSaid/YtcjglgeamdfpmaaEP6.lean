/- The parser's reader: its methods at any rest of the list. -/
import Derived.Test.YtcjglgeamdfpmaaEP5
set_option linter.unusedSimpArgs false
set_option linter.unnecessarySimpa false
set_option linter.unusedVariables false
set_option maxRecDepth 10000
namespace Go.Am
open Go Go.Pu

section
variable {x0 x1 x2 : List V} {n : Nat} {L : List (Tk × Nat)} {ts : List Tk}

theorem r_peek (h : At L ts) : ∃ t r, ts = t :: r ∧ acall mach0 n_parser_reader_peek [.ptr 3 0] (hr x0 x1 x2 n L ts.length) = some (.ret (tokV t.kind t.val (posV n L ts.length) t.str) (hr x0 x1 x2 n L ts.length)) := by
  obtain ⟨t, ts, rfl⟩ := ends_ne h.2.1
  exact ⟨t, ts, rfl, e_peek h⟩
theorem r_takeWord (s : Bs) (h : At L ts) : acall mach0 n_parser_reader_takeWord [.ptr 3 0, .str s] (hr x0 x1 x2 n L ts.length) = some (.ret (.bool (isWord s ts)) (hr x0 x1 x2 n L (if isWord s ts then ts.tail.length else ts.length))) := by
  obtain ⟨t, ts, rfl⟩ := ends_ne h.2.1
  exact e_takeWord s h
theorem r_takeSymbol (s : Bs) (h : At L ts) : acall mach0 n_parser_reader_takeSymbol [.ptr 3 0, .str s] (hr x0 x1 x2 n L ts.length) = some (.ret (.bool (isSymT s ts)) (hr x0 x1 x2 n L (if isSymT s ts then ts.tail.length else ts.length))) := by
  obtain ⟨t, ts, rfl⟩ := ends_ne h.2.1
  exact e_takeSymbol s h
theorem r_needWord (s : Bs) (h : At L ts) : acall mach0 n_parser_reader_needWord [.ptr 3 0, .str s] (hr x0 x1 x2 n L ts.length) = some (rdRt x0 x1 x2 n L noneV (needW s ts)) := by
  obtain ⟨t, ts, rfl⟩ := ends_ne h.2.1
  exact e_needWord s h
theorem r_needSymbol (s : Bs) (h : At L ts) : acall mach0 n_parser_reader_needSymbol [.ptr 3 0, .str s] (hr x0 x1 x2 n L ts.length) = some (rdRt x0 x1 x2 n L noneV (needS s ts)) := by
  obtain ⟨t, ts, rfl⟩ := ends_ne h.2.1
  exact e_needSymbol s h
theorem r_end (h : At L ts) : acall mach0 n_parser_reader_end [.ptr 3 0] (hr x0 x1 x2 n L ts.length) = some (rdRt x0 x1 x2 n L noneV (endT ts)) := by
  obtain ⟨t, ts, rfl⟩ := ends_ne h.2.1
  exact e_end h
theorem r_name (h : At L ts) : acall mach0 n_parser_reader_name [.ptr 3 0] (hr x0 x1 x2 n L ts.length) = some (rdRt x0 x1 x2 n L .str (nameT ts)) := by
  obtain ⟨t, ts, rfl⟩ := ends_ne h.2.1
  exact e_name h
theorem r_nameOrAny (h : At L ts) : acall mach0 n_parser_reader_nameOrAny [.ptr 3 0] (hr x0 x1 x2 n L ts.length) = some (rdRt x0 x1 x2 n L .str (nameOrAny ts)) := by
  obtain ⟨t, ts, rfl⟩ := ends_ne h.2.1
  exact e_nameOrAny h
theorem r_digits (h : At L ts) : acall mach0 n_parser_reader_digits [.ptr 3 0] (hr x0 x1 x2 n L ts.length) = some (rdRt x0 x1 x2 n L .str (digitsT ts)) := by
  obtain ⟨t, ts, rfl⟩ := ends_ne h.2.1
  exact e_pdigits h
theorem r_number (h : At L ts) : acall mach0 n_parser_reader_number [.ptr 3 0] (hr x0 x1 x2 n L ts.length) = some (rdRt x0 x1 x2 n L (V.int .i64) (numberT ts)) := by
  obtain ⟨t, ts, rfl⟩ := ends_ne h.2.1
  exact e_pnumber h
theorem r_fixed (size : Nat) (most : Int) (h : At L ts) : acall mach0 n_parser_reader_fixed [.ptr 3 0, .int .i64 size, .int .i64 most] (hr x0 x1 x2 n L ts.length) = some (rdRt x0 x1 x2 n L (V.int .i64) (fixedT size most ts)) := by
  obtain ⟨t, ts, rfl⟩ := ends_ne h.2.1
  exact e_fixed size most h

/-! What is left. -/
theorem needW_ok {s : Bs} {u : Unit} {r : List Tk} (h : needW s ts = .ok u r) : ts = .word s :: r := by
  unfold needW at h
  split at h
  · rename_i hw; cases h; exact isWord_cons hw
  · cases h
theorem needS_ok {s : Bs} {u : Unit} {r : List Tk} (h : needS s ts = .ok u r) : ts = .sym s :: r := by
  unfold needS at h
  split at h
  · rename_i hw; cases h; exact isSymT_cons hw
  · cases h
theorem nameT_ok {w : Bs} {r : List Tk} (h : nameT ts = .ok w r) : ts = .word w :: r ∧ isKw w = false := by
  unfold nameT at h
  split at h
  · split at h
    · cases h
    · rename_i hw; cases h; exact ⟨rfl, by simpa using hw⟩
  · cases h
theorem nameOrAny_ok {w : Bs} {r : List Tk} (h : nameOrAny ts = .ok w r) : ∃ v, ts = .word v :: r := by
  unfold nameOrAny at h
  split at h
  · rename_i hw; cases h; exact ⟨_, isWord_cons hw⟩
  · exact ⟨_, (nameT_ok h).1⟩
theorem digitsT_ok {d : Bs} {r : List Tk} (h : digitsT ts = .ok d r) : ts = .num d :: r := by
  unfold digitsT at h
  split at h
  · cases h; rfl
  · cases h
theorem numberT_ok {v : Int} {r : List Tk} (h : numberT ts = .ok v r) : ∃ d, ts = .num d :: r ∧ v = value d ∧ numB d = true := by
  unfold numberT at h
  split at h
  · split at h
    · rename_i hn; cases h; exact ⟨_, rfl, rfl, hn⟩
    · cases h
  · cases h
theorem fixedT_ok {size : Nat} {most v : Int} {r : List Tk} (h : fixedT size most ts = .ok v r) : ∃ d, ts = .num d :: r ∧ v = value d ∧ d.length = size ∧ v ≤ most := by
  unfold fixedT at h
  split at h
  · split at h
    · rename_i hn; cases h; exact ⟨_, rfl, rfl, hn.1, hn.2⟩
    · cases h
  · cases h
theorem At.xW {s : Bs} {u : Unit} {r : List Tk} (hA : At L ts) (h : needW s ts = .ok u r) : At L r := by
  rw [needW_ok h] at hA; exact hA.tl (by simp)
theorem At.xS {s : Bs} {u : Unit} {r : List Tk} (hA : At L ts) (h : needS s ts = .ok u r) : At L r := by
  rw [needS_ok h] at hA; exact hA.tl (by simp)
theorem At.name {w : Bs} {r : List Tk} (hA : At L ts) (h : nameT ts = .ok w r) : At L r := by
  rw [(nameT_ok h).1] at hA; exact hA.tl (by simp)
theorem At.xAny {w : Bs} {r : List Tk} (hA : At L ts) (h : nameOrAny ts = .ok w r) : At L r := by
  obtain ⟨v, e⟩ := nameOrAny_ok h
  rw [e] at hA; exact hA.tl (by simp)
theorem At.digits {w : Bs} {r : List Tk} (hA : At L ts) (h : digitsT ts = .ok w r) : At L r := by
  rw [digitsT_ok h] at hA; exact hA.tl (by simp)
theorem At.number {w : Int} {r : List Tk} (hA : At L ts) (h : numberT ts = .ok w r) : At L r := by
  obtain ⟨v, e, _⟩ := numberT_ok h
  rw [e] at hA; exact hA.tl (by simp)
theorem At.fixed {size : Nat} {most w : Int} {r : List Tk} (hA : At L ts) (h : fixedT size most ts = .ok w r) : At L r := by
  obtain ⟨v, e, _⟩ := fixedT_ok h
  rw [e] at hA; exact hA.tl (by simp)
theorem At.expr {a : PE} {r : List Tk} (hA : At L ts) (h : exprT ts = .ok a r) : At L r := by
  have := exprT_eq ts
  rw [h] at this
  exact (p_at _).1 _ _ _ _ this hA

theorem r_time (most : Int) (hm : most ≤ 24) (hA : At L ts) : acall mach0 n_parser_reader_time [.ptr 3 0, .int .i64 most] (hr x0 x1 x2 n L ts.length) = some (rdRt x0 x1 x2 n L (V.int .i64) (timeT most ts)) := by
  refine acall_fn rfl (af := a_parser_reader_time) rfl rfl ?_
  unfold timeT
  have e1 := r_fixed (x0 := x0) (x1 := x1) (x2 := x2) (n := n) 2 most hA
  cases h1 : fixedT 2 most ts with
  | err m e =>
    simp only [h1, rdRt, errH, pfail] at e1
    simp at e1
    simp [List.replicate, go_sem, e1, rdRt, errH, pfail]
  | ok v r =>
    simp only [h1, rdRt] at e1
    simp at e1
    have A1 := hA.fixed h1
    obtain ⟨d1, _, g1, _, g2⟩ := fixedT_ok h1
    have e2 := r_needSymbol (x0 := x0) (x1 := x1) (x2 := x2) (n := n) [58] A1
    simp only [bindP_ok]
    cases h2 : needS [58] r with
    | err m e =>
      simp only [h2, rdRt, errH, pfail] at e2
      simp [List.replicate, go_sem, e1, e2, rdRt, errH, pfail]
    | ok u r2 =>
      simp only [h2, rdRt, noneV] at e2
      have A2 := A1.xS h2
      simp only [bindP_ok]
      have w1 : IntKind.wrap .i64 (60 * v) = 60 * v := wrap_i64 (by omega)
      by_cases h24 : v = 24
      · have e3 := r_fixed (x0 := x0) (x1 := x1) (x2 := x2) (n := n) 2 0 A2
        rw [if_pos h24]
        cases h3 : fixedT 2 0 r2 with
        | err m e =>
          simp only [h3, rdRt, errH, pfail] at e3
          simp at e3
          simp [List.replicate, go_sem, e1, e2, e3, bt' h24, w1, rdRt, errH, pfail]
        | ok v2 r3 =>
          simp only [h3, rdRt] at e3
          simp at e3
          obtain ⟨d3, _, g3, _, g4⟩ := fixedT_ok h3
          have w2 : IntKind.wrap .i64 (60 * v + v2) = 60 * v + v2 := wrap_i64 (by omega)
          simp [List.replicate, go_sem, e1, e2, e3, bt' h24, w1, w2, rdRt]
      · have e3 := r_fixed (x0 := x0) (x1 := x1) (x2 := x2) (n := n) 2 59 A2
        rw [if_neg h24]
        cases h3 : fixedT 2 59 r2 with
        | err m e =>
          simp only [h3, rdRt, errH, pfail] at e3
          simp at e3
          simp [List.replicate, go_sem, e1, e2, e3, bf' h24, w1, rdRt, errH, pfail]
        | ok v2 r3 =>
          simp only [h3, rdRt] at e3
          simp at e3
          obtain ⟨d3, _, g3, _, g4⟩ := fixedT_ok h3
          have w2 : IntKind.wrap .i64 (60 * v + v2) = 60 * v + v2 := wrap_i64 (by omega)
          simp [List.replicate, go_sem, e1, e2, e3, bf' h24, w1, w2, rdRt]
theorem At.time {most : Int} {w : Int} {r : List Tk} (hA : At L ts) (h : timeT most ts = .ok w r) : At L r := by
  unfold timeT at h
  cases h1 : fixedT 2 most ts with
  | err m e => rw [h1] at h; cases h
  | ok v q =>
    rw [h1, bindP_ok] at h
    cases h2 : needS [58] q with
    | err m e => rw [h2] at h; cases h
    | ok u q2 =>
      rw [h2, bindP_ok] at h
      cases h3 : fixedT 2 (if v = 24 then 0 else 59) q2 with
      | err m e => rw [h3] at h; cases h
      | ok v3 q3 => rw [h3, bindP_ok] at h; cases h; exact ((hA.fixed h1).xS h2).fixed h3
end
end Go.Am
