/- The steps of Parse: one for each byte (printed by wip/py/parse10.py). -/
import Derived.Test.YtndiiiapmnfhjaaE11
set_option linter.unusedSimpArgs false
set_option linter.unusedVariables false
namespace Go.Am
open Go Go.Pu
set_option maxRecDepth 8000
def bad (x : UInt8) : Prop := x.toNat < 48 ∨ 57 < x.toNat
section
variable {a0 a1 a2 a3 a4 a5 a6 a7 a8 a9 : UInt8} {h h' : Heap} {n0 : Nat} {K : List It}

theorem pd0 {p0 p1 p2 : Nat} {r : Rt} (hp : p0 ≤ 10000) (hx : ¬ bad a0) (hk : Run mach (.c calendar_Parse_l1b :: .lp calendar_Parse_l1 :: K) .norm ⟨(.str [a0, a1, a2, a3, a4, a5, a6, a7, a8, a9] :: .undef :: .undef :: .undef :: .box [.int .i64 (((10 * p0 + (a0.toNat - 48) : Nat) : Int)), .int .i64 ((p1 : Int)), .int .i64 ((p2 : Int))] :: .int .i64 0 :: .undef :: .undef :: .undef :: .undef :: .undef :: .int .i64 10 :: .int .i64 1 :: .undef :: .undef :: .undef :: .undef :: .undef :: .undef :: .undef :: .undef :: .undef :: .undef :: .undef :: .undef :: .undef :: .undef :: .undef :: .undef :: .undef :: .undef :: .undef :: .undef :: .undef :: .undef :: .undef :: .undef :: .undef :: .undef :: .undef :: .undef :: .undef :: .undef :: .undef :: .undef :: .undef :: .undef :: .undef :: .undef :: .undef :: .undef :: .undef :: .undef :: .undef :: .undef :: .undef :: .undef :: .undef :: .undef :: .undef :: .undef :: .undef :: .undef :: .undef :: .undef :: .undef :: []), h⟩ (FinQ [.tmp 2, .tmp 3] n0 r)) :
    Run mach (.c calendar_Parse_l1b :: .lp calendar_Parse_l1 :: K) .norm ⟨(.str [a0, a1, a2, a3, a4, a5, a6, a7, a8, a9] :: .undef :: .undef :: .undef :: .box [.int .i64 ((p0 : Int)), .int .i64 ((p1 : Int)), .int .i64 ((p2 : Int))] :: .int .i64 0 :: .undef :: .undef :: .undef :: .undef :: .undef :: .int .i64 10 :: .int .i64 0 :: .undef :: .undef :: .undef :: .undef :: .undef :: .undef :: .undef :: .undef :: .undef :: .undef :: .undef :: .undef :: .undef :: .undef :: .undef :: .undef :: .undef :: .undef :: .undef :: .undef :: .undef :: .undef :: .undef :: .undef :: .undef :: .undef :: .undef :: .undef :: .undef :: .undef :: .undef :: .undef :: .undef :: .undef :: .undef :: .undef :: .undef :: .undef :: .undef :: .undef :: .undef :: .undef :: .undef :: .undef :: .undef :: .undef :: .undef :: .undef :: .undef :: .undef :: .undef :: .undef :: .undef :: []), h⟩ (FinQ [.tmp 2, .tmp 3] n0 r) := by
  unfold bad at hx
  have c1 : (48 : Int) ≤ a0.toNat := by omega
  have c2 : (a0.toNat : Int) ≤ 57 := by omega
  have w1 : (IntKind.u8).wrap ((a0.toNat : Int) - 48) = (a0.toNat : Int) - 48 := by simp [IntKind.wrap, IntKind.signed, IntKind.bits]; omega
  have w2 : (IntKind.i64).wrap ((a0.toNat : Int) - 48) = (a0.toNat : Int) - 48 := wrap_i64 ⟨by omega, by omega⟩
  have w3 : (IntKind.i64).wrap (10 * (p0 : Int)) = 10 * (p0 : Int) := wrap_i64 ⟨by omega, by omega⟩
  have w4 : (IntKind.i64).wrap (10 * (p0 : Int) + ((a0.toNat : Int) - 48)) = ((10 * p0 + (a0.toNat - 48) : Nat) : Int) := by rw [wrap_i64 ⟨by omega, by omega⟩]; omega
  have w5 : (IntKind.i64).wrap 1 = 1 := by decide
  generalize 10 * p0 + (a0.toNat - 48) = N at *
  unfold calendar_Parse_l1b
  simp [go_sem, c1, c2, w1, w2, w3, w4, w5]
  exact hk
theorem pb0 {p0 p1 p2 : Nat} (hh : h.take n0 = h') (hx : bad a0) :
    Run mach (.c calendar_Parse_l1b :: .lp calendar_Parse_l1 :: K) .norm ⟨(.str [a0, a1, a2, a3, a4, a5, a6, a7, a8, a9] :: .undef :: .undef :: .undef :: .box [.int .i64 ((p0 : Int)), .int .i64 ((p1 : Int)), .int .i64 ((p2 : Int))] :: .int .i64 0 :: .undef :: .undef :: .undef :: .undef :: .undef :: .int .i64 10 :: .int .i64 0 :: .undef :: .undef :: .undef :: .undef :: .undef :: .undef :: .undef :: .undef :: .undef :: .undef :: .undef :: .undef :: .undef :: .undef :: .undef :: .undef :: .undef :: .undef :: .undef :: .undef :: .undef :: .undef :: .undef :: .undef :: .undef :: .undef :: .undef :: .undef :: .undef :: .undef :: .undef :: .undef :: .undef :: .undef :: .undef :: .undef :: .undef :: .undef :: .undef :: .undef :: .undef :: .undef :: .undef :: .undef :: .undef :: .undef :: .undef :: .undef :: .undef :: .undef :: .undef :: .undef :: .undef :: []), h⟩ (FinQ [.tmp 2, .tmp 3] n0 (.ret (.tup [.int .i64 0, .int .i64 1]) h')) := by
  unfold bad at hx
  by_cases q : a0.toNat < 48
  · have c1 : ¬ ((48 : Int) ≤ a0.toNat) := by omega
    have c2 : (a0.toNat : Int) < 48 := by omega
    unfold calendar_Parse_l1b
    simp [go_sem, c1, c2, q, hh]
  · have c1 : (48 : Int) ≤ a0.toNat := by omega
    have c2 : ¬ ((a0.toNat : Int) ≤ 57) := by omega
    have c3 : (57 : Int) < a0.toNat := by omega
    unfold calendar_Parse_l1b
    simp [go_sem, c1, c2, c3, hh]

theorem pd1 {p0 p1 p2 : Nat} {r : Rt} (hp : p0 ≤ 10000) (hx : ¬ bad a1) (hk : Run mach (.c calendar_Parse_l1b :: .lp calendar_Parse_l1 :: K) .norm ⟨(.str [a0, a1, a2, a3, a4, a5, a6, a7, a8, a9] :: .undef :: .undef :: .undef :: .box [.int .i64 (((10 * p0 + (a1.toNat - 48) : Nat) : Int)), .int .i64 ((p1 : Int)), .int .i64 ((p2 : Int))] :: .int .i64 0 :: .undef :: .undef :: .undef :: .undef :: .undef :: .int .i64 10 :: .int .i64 2 :: .undef :: .undef :: .undef :: .undef :: .undef :: .undef :: .undef :: .undef :: .undef :: .undef :: .undef :: .undef :: .undef :: .undef :: .undef :: .undef :: .undef :: .undef :: .undef :: .undef :: .undef :: .undef :: .undef :: .undef :: .undef :: .undef :: .undef :: .undef :: .undef :: .undef :: .undef :: .undef :: .undef :: .undef :: .undef :: .undef :: .undef :: .undef :: .undef :: .undef :: .undef :: .undef :: .undef :: .undef :: .undef :: .undef :: .undef :: .undef :: .undef :: .undef :: .undef :: .undef :: .undef :: []), h⟩ (FinQ [.tmp 2, .tmp 3] n0 r)) :
    Run mach (.c calendar_Parse_l1b :: .lp calendar_Parse_l1 :: K) .norm ⟨(.str [a0, a1, a2, a3, a4, a5, a6, a7, a8, a9] :: .undef :: .undef :: .undef :: .box [.int .i64 ((p0 : Int)), .int .i64 ((p1 : Int)), .int .i64 ((p2 : Int))] :: .int .i64 0 :: .undef :: .undef :: .undef :: .undef :: .undef :: .int .i64 10 :: .int .i64 1 :: .undef :: .undef :: .undef :: .undef :: .undef :: .undef :: .undef :: .undef :: .undef :: .undef :: .undef :: .undef :: .undef :: .undef :: .undef :: .undef :: .undef :: .undef :: .undef :: .undef :: .undef :: .undef :: .undef :: .undef :: .undef :: .undef :: .undef :: .undef :: .undef :: .undef :: .undef :: .undef :: .undef :: .undef :: .undef :: .undef :: .undef :: .undef :: .undef :: .undef :: .undef :: .undef :: .undef :: .undef :: .undef :: .undef :: .undef :: .undef :: .undef :: .undef :: .undef :: .undef :: .undef :: []), h⟩ (FinQ [.tmp 2, .tmp 3] n0 r) := by
  unfold bad at hx
  have c1 : (48 : Int) ≤ a1.toNat := by omega
  have c2 : (a1.toNat : Int) ≤ 57 := by omega
  have w1 : (IntKind.u8).wrap ((a1.toNat : Int) - 48) = (a1.toNat : Int) - 48 := by simp [IntKind.wrap, IntKind.signed, IntKind.bits]; omega
  have w2 : (IntKind.i64).wrap ((a1.toNat : Int) - 48) = (a1.toNat : Int) - 48 := wrap_i64 ⟨by omega, by omega⟩
  have w3 : (IntKind.i64).wrap (10 * (p0 : Int)) = 10 * (p0 : Int) := wrap_i64 ⟨by omega, by omega⟩
  have w4 : (IntKind.i64).wrap (10 * (p0 : Int) + ((a1.toNat : Int) - 48)) = ((10 * p0 + (a1.toNat - 48) : Nat) : Int) := by rw [wrap_i64 ⟨by omega, by omega⟩]; omega
  have w5 : (IntKind.i64).wrap 2 = 2 := by decide
  generalize 10 * p0 + (a1.toNat - 48) = N at *
  unfold calendar_Parse_l1b
  simp [go_sem, c1, c2, w1, w2, w3, w4, w5]
  exact hk
theorem pb1 {p0 p1 p2 : Nat} (hh : h.take n0 = h') (hx : bad a1) :
    Run mach (.c calendar_Parse_l1b :: .lp calendar_Parse_l1 :: K) .norm ⟨(.str [a0, a1, a2, a3, a4, a5, a6, a7, a8, a9] :: .undef :: .undef :: .undef :: .box [.int .i64 ((p0 : Int)), .int .i64 ((p1 : Int)), .int .i64 ((p2 : Int))] :: .int .i64 0 :: .undef :: .undef :: .undef :: .undef :: .undef :: .int .i64 10 :: .int .i64 1 :: .undef :: .undef :: .undef :: .undef :: .undef :: .undef :: .undef :: .undef :: .undef :: .undef :: .undef :: .undef :: .undef :: .undef :: .undef :: .undef :: .undef :: .undef :: .undef :: .undef :: .undef :: .undef :: .undef :: .undef :: .undef :: .undef :: .undef :: .undef :: .undef :: .undef :: .undef :: .undef :: .undef :: .undef :: .undef :: .undef :: .undef :: .undef :: .undef :: .undef :: .undef :: .undef :: .undef :: .undef :: .undef :: .undef :: .undef :: .undef :: .undef :: .undef :: .undef :: .undef :: .undef :: []), h⟩ (FinQ [.tmp 2, .tmp 3] n0 (.ret (.tup [.int .i64 0, .int .i64 1]) h')) := by
  unfold bad at hx
  by_cases q : a1.toNat < 48
  · have c1 : ¬ ((48 : Int) ≤ a1.toNat) := by omega
    have c2 : (a1.toNat : Int) < 48 := by omega
    unfold calendar_Parse_l1b
    simp [go_sem, c1, c2, q, hh]
  · have c1 : (48 : Int) ≤ a1.toNat := by omega
    have c2 : ¬ ((a1.toNat : Int) ≤ 57) := by omega
    have c3 : (57 : Int) < a1.toNat := by omega
    unfold calendar_Parse_l1b
    simp [go_sem, c1, c2, c3, hh]

theorem pd2 {p0 p1 p2 : Nat} {r : Rt} (hp : p0 ≤ 10000) (hx : ¬ bad a2) (hk : Run mach (.c calendar_Parse_l1b :: .lp calendar_Parse_l1 :: K) .norm ⟨(.str [a0, a1, a2, a3, a4, a5, a6, a7, a8, a9] :: .undef :: .undef :: .undef :: .box [.int .i64 (((10 * p0 + (a2.toNat - 48) : Nat) : Int)), .int .i64 ((p1 : Int)), .int .i64 ((p2 : Int))] :: .int .i64 0 :: .undef :: .undef :: .undef :: .undef :: .undef :: .int .i64 10 :: .int .i64 3 :: .undef :: .undef :: .undef :: .undef :: .undef :: .undef :: .undef :: .undef :: .undef :: .undef :: .undef :: .undef :: .undef :: .undef :: .undef :: .undef :: .undef :: .undef :: .undef :: .undef :: .undef :: .undef :: .undef :: .undef :: .undef :: .undef :: .undef :: .undef :: .undef :: .undef :: .undef :: .undef :: .undef :: .undef :: .undef :: .undef :: .undef :: .undef :: .undef :: .undef :: .undef :: .undef :: .undef :: .undef :: .undef :: .undef :: .undef :: .undef :: .undef :: .undef :: .undef :: .undef :: .undef :: []), h⟩ (FinQ [.tmp 2, .tmp 3] n0 r)) :
    Run mach (.c calendar_Parse_l1b :: .lp calendar_Parse_l1 :: K) .norm ⟨(.str [a0, a1, a2, a3, a4, a5, a6, a7, a8, a9] :: .undef :: .undef :: .undef :: .box [.int .i64 ((p0 : Int)), .int .i64 ((p1 : Int)), .int .i64 ((p2 : Int))] :: .int .i64 0 :: .undef :: .undef :: .undef :: .undef :: .undef :: .int .i64 10 :: .int .i64 2 :: .undef :: .undef :: .undef :: .undef :: .undef :: .undef :: .undef :: .undef :: .undef :: .undef :: .undef :: .undef :: .undef :: .undef :: .undef :: .undef :: .undef :: .undef :: .undef :: .undef :: .undef :: .undef :: .undef :: .undef :: .undef :: .undef :: .undef :: .undef :: .undef :: .undef :: .undef :: .undef :: .undef :: .undef :: .undef :: .undef :: .undef :: .undef :: .undef :: .undef :: .undef :: .undef :: .undef :: .undef :: .undef :: .undef :: .undef :: .undef :: .undef :: .undef :: .undef :: .undef :: .undef :: []), h⟩ (FinQ [.tmp 2, .tmp 3] n0 r) := by
  unfold bad at hx
  have c1 : (48 : Int) ≤ a2.toNat := by omega
  have c2 : (a2.toNat : Int) ≤ 57 := by omega
  have w1 : (IntKind.u8).wrap ((a2.toNat : Int) - 48) = (a2.toNat : Int) - 48 := by simp [IntKind.wrap, IntKind.signed, IntKind.bits]; omega
  have w2 : (IntKind.i64).wrap ((a2.toNat : Int) - 48) = (a2.toNat : Int) - 48 := wrap_i64 ⟨by omega, by omega⟩
  have w3 : (IntKind.i64).wrap (10 * (p0 : Int)) = 10 * (p0 : Int) := wrap_i64 ⟨by omega, by omega⟩
  have w4 : (IntKind.i64).wrap (10 * (p0 : Int) + ((a2.toNat : Int) - 48)) = ((10 * p0 + (a2.toNat - 48) : Nat) : Int) := by rw [wrap_i64 ⟨by omega, by omega⟩]; omega
  have w5 : (IntKind.i64).wrap 3 = 3 := by decide
  generalize 10 * p0 + (a2.toNat - 48) = N at *
  unfold calendar_Parse_l1b
  simp [go_sem, c1, c2, w1, w2, w3, w4, w5]
  exact hk
theorem pb2 {p0 p1 p2 : Nat} (hh : h.take n0 = h') (hx : bad a2) :
    Run mach (.c calendar_Parse_l1b :: .lp calendar_Parse_l1 :: K) .norm ⟨(.str [a0, a1, a2, a3, a4, a5, a6, a7, a8, a9] :: .undef :: .undef :: .undef :: .box [.int .i64 ((p0 : Int)), .int .i64 ((p1 : Int)), .int .i64 ((p2 : Int))] :: .int .i64 0 :: .undef :: .undef :: .undef :: .undef :: .undef :: .int .i64 10 :: .int .i64 2 :: .undef :: .undef :: .undef :: .undef :: .undef :: .undef :: .undef :: .undef :: .undef :: .undef :: .undef :: .undef :: .undef :: .undef :: .undef :: .undef :: .undef :: .undef :: .undef :: .undef :: .undef :: .undef :: .undef :: .undef :: .undef :: .undef :: .undef :: .undef :: .undef :: .undef :: .undef :: .undef :: .undef :: .undef :: .undef :: .undef :: .undef :: .undef :: .undef :: .undef :: .undef :: .undef :: .undef :: .undef :: .undef :: .undef :: .undef :: .undef :: .undef :: .undef :: .undef :: .undef :: .undef :: []), h⟩ (FinQ [.tmp 2, .tmp 3] n0 (.ret (.tup [.int .i64 0, .int .i64 1]) h')) := by
  unfold bad at hx
  by_cases q : a2.toNat < 48
  · have c1 : ¬ ((48 : Int) ≤ a2.toNat) := by omega
    have c2 : (a2.toNat : Int) < 48 := by omega
    unfold calendar_Parse_l1b
    simp [go_sem, c1, c2, q, hh]
  · have c1 : (48 : Int) ≤ a2.toNat := by omega
    have c2 : ¬ ((a2.toNat : Int) ≤ 57) := by omega
    have c3 : (57 : Int) < a2.toNat := by omega
    unfold calendar_Parse_l1b
    simp [go_sem, c1, c2, c3, hh]

theorem pd3 {p0 p1 p2 : Nat} {r : Rt} (hp : p0 ≤ 10000) (hx : ¬ bad a3) (hk : Run mach (.c calendar_Parse_l1b :: .lp calendar_Parse_l1 :: K) .norm ⟨(.str [a0, a1, a2, a3, a4, a5, a6, a7, a8, a9] :: .undef :: .undef :: .undef :: .box [.int .i64 (((10 * p0 + (a3.toNat - 48) : Nat) : Int)), .int .i64 ((p1 : Int)), .int .i64 ((p2 : Int))] :: .int .i64 0 :: .undef :: .undef :: .undef :: .undef :: .undef :: .int .i64 10 :: .int .i64 4 :: .undef :: .undef :: .undef :: .undef :: .undef :: .undef :: .undef :: .undef :: .undef :: .undef :: .undef :: .undef :: .undef :: .undef :: .undef :: .undef :: .undef :: .undef :: .undef :: .undef :: .undef :: .undef :: .undef :: .undef :: .undef :: .undef :: .undef :: .undef :: .undef :: .undef :: .undef :: .undef :: .undef :: .undef :: .undef :: .undef :: .undef :: .undef :: .undef :: .undef :: .undef :: .undef :: .undef :: .undef :: .undef :: .undef :: .undef :: .undef :: .undef :: .undef :: .undef :: .undef :: .undef :: []), h⟩ (FinQ [.tmp 2, .tmp 3] n0 r)) :
    Run mach (.c calendar_Parse_l1b :: .lp calendar_Parse_l1 :: K) .norm ⟨(.str [a0, a1, a2, a3, a4, a5, a6, a7, a8, a9] :: .undef :: .undef :: .undef :: .box [.int .i64 ((p0 : Int)), .int .i64 ((p1 : Int)), .int .i64 ((p2 : Int))] :: .int .i64 0 :: .undef :: .undef :: .undef :: .undef :: .undef :: .int .i64 10 :: .int .i64 3 :: .undef :: .undef :: .undef :: .undef :: .undef :: .undef :: .undef :: .undef :: .undef :: .undef :: .undef :: .undef :: .undef :: .undef :: .undef :: .undef :: .undef :: .undef :: .undef :: .undef :: .undef :: .undef :: .undef :: .undef :: .undef :: .undef :: .undef :: .undef :: .undef :: .undef :: .undef :: .undef :: .undef :: .undef :: .undef :: .undef :: .undef :: .undef :: .undef :: .undef :: .undef :: .undef :: .undef :: .undef :: .undef :: .undef :: .undef :: .undef :: .undef :: .undef :: .undef :: .undef :: .undef :: []), h⟩ (FinQ [.tmp 2, .tmp 3] n0 r) := by
  unfold bad at hx
  have c1 : (48 : Int) ≤ a3.toNat := by omega
  have c2 : (a3.toNat : Int) ≤ 57 := by omega
  have w1 : (IntKind.u8).wrap ((a3.toNat : Int) - 48) = (a3.toNat : Int) - 48 := by simp [IntKind.wrap, IntKind.signed, IntKind.bits]; omega
  have w2 : (IntKind.i64).wrap ((a3.toNat : Int) - 48) = (a3.toNat : Int) - 48 := wrap_i64 ⟨by omega, by omega⟩
  have w3 : (IntKind.i64).wrap (10 * (p0 : Int)) = 10 * (p0 : Int) := wrap_i64 ⟨by omega, by omega⟩
  have w4 : (IntKind.i64).wrap (10 * (p0 : Int) + ((a3.toNat : Int) - 48)) = ((10 * p0 + (a3.toNat - 48) : Nat) : Int) := by rw [wrap_i64 ⟨by omega, by omega⟩]; omega
  have w5 : (IntKind.i64).wrap 4 = 4 := by decide
  generalize 10 * p0 + (a3.toNat - 48) = N at *
  unfold calendar_Parse_l1b
  simp [go_sem, c1, c2, w1, w2, w3, w4, w5]
  exact hk
theorem pb3 {p0 p1 p2 : Nat} (hh : h.take n0 = h') (hx : bad a3) :
    Run mach (.c calendar_Parse_l1b :: .lp calendar_Parse_l1 :: K) .norm ⟨(.str [a0, a1, a2, a3, a4, a5, a6, a7, a8, a9] :: .undef :: .undef :: .undef :: .box [.int .i64 ((p0 : Int)), .int .i64 ((p1 : Int)), .int .i64 ((p2 : Int))] :: .int .i64 0 :: .undef :: .undef :: .undef :: .undef :: .undef :: .int .i64 10 :: .int .i64 3 :: .undef :: .undef :: .undef :: .undef :: .undef :: .undef :: .undef :: .undef :: .undef :: .undef :: .undef :: .undef :: .undef :: .undef :: .undef :: .undef :: .undef :: .undef :: .undef :: .undef :: .undef :: .undef :: .undef :: .undef :: .undef :: .undef :: .undef :: .undef :: .undef :: .undef :: .undef :: .undef :: .undef :: .undef :: .undef :: .undef :: .undef :: .undef :: .undef :: .undef :: .undef :: .undef :: .undef :: .undef :: .undef :: .undef :: .undef :: .undef :: .undef :: .undef :: .undef :: .undef :: .undef :: []), h⟩ (FinQ [.tmp 2, .tmp 3] n0 (.ret (.tup [.int .i64 0, .int .i64 1]) h')) := by
  unfold bad at hx
  by_cases q : a3.toNat < 48
  · have c1 : ¬ ((48 : Int) ≤ a3.toNat) := by omega
    have c2 : (a3.toNat : Int) < 48 := by omega
    unfold calendar_Parse_l1b
    simp [go_sem, c1, c2, q, hh]
  · have c1 : (48 : Int) ≤ a3.toNat := by omega
    have c2 : ¬ ((a3.toNat : Int) ≤ 57) := by omega
    have c3 : (57 : Int) < a3.toNat := by omega
    unfold calendar_Parse_l1b
    simp [go_sem, c1, c2, c3, hh]

theorem pd4 {p0 p1 p2 : Nat} {r : Rt} (hx : a4 = 45) (hk : Run mach (.c calendar_Parse_l1b :: .lp calendar_Parse_l1 :: K) .norm ⟨(.str [a0, a1, a2, a3, a4, a5, a6, a7, a8, a9] :: .undef :: .undef :: .undef :: .box [.int .i64 ((p0 : Int)), .int .i64 ((p1 : Int)), .int .i64 ((p2 : Int))] :: .int .i64 1 :: .undef :: .undef :: .undef :: .undef :: .undef :: .int .i64 10 :: .int .i64 5 :: .undef :: .undef :: .undef :: .undef :: .undef :: .undef :: .undef :: .undef :: .undef :: .undef :: .undef :: .undef :: .undef :: .undef :: .undef :: .undef :: .undef :: .undef :: .undef :: .undef :: .undef :: .undef :: .undef :: .undef :: .undef :: .undef :: .undef :: .undef :: .undef :: .undef :: .undef :: .undef :: .undef :: .undef :: .undef :: .undef :: .undef :: .undef :: .undef :: .undef :: .undef :: .undef :: .undef :: .undef :: .undef :: .undef :: .undef :: .undef :: .undef :: .undef :: .undef :: .undef :: .undef :: []), h⟩ (FinQ [.tmp 2, .tmp 3] n0 r)) :
    Run mach (.c calendar_Parse_l1b :: .lp calendar_Parse_l1 :: K) .norm ⟨(.str [a0, a1, a2, a3, a4, a5, a6, a7, a8, a9] :: .undef :: .undef :: .undef :: .box [.int .i64 ((p0 : Int)), .int .i64 ((p1 : Int)), .int .i64 ((p2 : Int))] :: .int .i64 0 :: .undef :: .undef :: .undef :: .undef :: .undef :: .int .i64 10 :: .int .i64 4 :: .undef :: .undef :: .undef :: .undef :: .undef :: .undef :: .undef :: .undef :: .undef :: .undef :: .undef :: .undef :: .undef :: .undef :: .undef :: .undef :: .undef :: .undef :: .undef :: .undef :: .undef :: .undef :: .undef :: .undef :: .undef :: .undef :: .undef :: .undef :: .undef :: .undef :: .undef :: .undef :: .undef :: .undef :: .undef :: .undef :: .undef :: .undef :: .undef :: .undef :: .undef :: .undef :: .undef :: .undef :: .undef :: .undef :: .undef :: .undef :: .undef :: .undef :: .undef :: .undef :: .undef :: []), h⟩ (FinQ [.tmp 2, .tmp 3] n0 r) := by
  subst hx
  unfold calendar_Parse_l1b
  simp [go_sem, wrap_i64]
  exact hk
theorem pb4 {p0 p1 p2 : Nat} (hh : h.take n0 = h') (hx : ¬ a4 = 45) :
    Run mach (.c calendar_Parse_l1b :: .lp calendar_Parse_l1 :: K) .norm ⟨(.str [a0, a1, a2, a3, a4, a5, a6, a7, a8, a9] :: .undef :: .undef :: .undef :: .box [.int .i64 ((p0 : Int)), .int .i64 ((p1 : Int)), .int .i64 ((p2 : Int))] :: .int .i64 0 :: .undef :: .undef :: .undef :: .undef :: .undef :: .int .i64 10 :: .int .i64 4 :: .undef :: .undef :: .undef :: .undef :: .undef :: .undef :: .undef :: .undef :: .undef :: .undef :: .undef :: .undef :: .undef :: .undef :: .undef :: .undef :: .undef :: .undef :: .undef :: .undef :: .undef :: .undef :: .undef :: .undef :: .undef :: .undef :: .undef :: .undef :: .undef :: .undef :: .undef :: .undef :: .undef :: .undef :: .undef :: .undef :: .undef :: .undef :: .undef :: .undef :: .undef :: .undef :: .undef :: .undef :: .undef :: .undef :: .undef :: .undef :: .undef :: .undef :: .undef :: .undef :: .undef :: []), h⟩ (FinQ [.tmp 2, .tmp 3] n0 (.ret (.tup [.int .i64 0, .int .i64 1]) h')) := by
  have q : ¬ ((a4.toNat : Int) = 45) := by have := u45 hx; omega
  unfold calendar_Parse_l1b
  simp [go_sem, q, bf' q, hx, hh]

theorem pd5 {p0 p1 p2 : Nat} {r : Rt} (hp : p1 ≤ 10000) (hx : ¬ bad a5) (hk : Run mach (.c calendar_Parse_l1b :: .lp calendar_Parse_l1 :: K) .norm ⟨(.str [a0, a1, a2, a3, a4, a5, a6, a7, a8, a9] :: .undef :: .undef :: .undef :: .box [.int .i64 ((p0 : Int)), .int .i64 (((10 * p1 + (a5.toNat - 48) : Nat) : Int)), .int .i64 ((p2 : Int))] :: .int .i64 1 :: .undef :: .undef :: .undef :: .undef :: .undef :: .int .i64 10 :: .int .i64 6 :: .undef :: .undef :: .undef :: .undef :: .undef :: .undef :: .undef :: .undef :: .undef :: .undef :: .undef :: .undef :: .undef :: .undef :: .undef :: .undef :: .undef :: .undef :: .undef :: .undef :: .undef :: .undef :: .undef :: .undef :: .undef :: .undef :: .undef :: .undef :: .undef :: .undef :: .undef :: .undef :: .undef :: .undef :: .undef :: .undef :: .undef :: .undef :: .undef :: .undef :: .undef :: .undef :: .undef :: .undef :: .undef :: .undef :: .undef :: .undef :: .undef :: .undef :: .undef :: .undef :: .undef :: []), h⟩ (FinQ [.tmp 2, .tmp 3] n0 r)) :
    Run mach (.c calendar_Parse_l1b :: .lp calendar_Parse_l1 :: K) .norm ⟨(.str [a0, a1, a2, a3, a4, a5, a6, a7, a8, a9] :: .undef :: .undef :: .undef :: .box [.int .i64 ((p0 : Int)), .int .i64 ((p1 : Int)), .int .i64 ((p2 : Int))] :: .int .i64 1 :: .undef :: .undef :: .undef :: .undef :: .undef :: .int .i64 10 :: .int .i64 5 :: .undef :: .undef :: .undef :: .undef :: .undef :: .undef :: .undef :: .undef :: .undef :: .undef :: .undef :: .undef :: .undef :: .undef :: .undef :: .undef :: .undef :: .undef :: .undef :: .undef :: .undef :: .undef :: .undef :: .undef :: .undef :: .undef :: .undef :: .undef :: .undef :: .undef :: .undef :: .undef :: .undef :: .undef :: .undef :: .undef :: .undef :: .undef :: .undef :: .undef :: .undef :: .undef :: .undef :: .undef :: .undef :: .undef :: .undef :: .undef :: .undef :: .undef :: .undef :: .undef :: .undef :: []), h⟩ (FinQ [.tmp 2, .tmp 3] n0 r) := by
  unfold bad at hx
  have c1 : (48 : Int) ≤ a5.toNat := by omega
  have c2 : (a5.toNat : Int) ≤ 57 := by omega
  have w1 : (IntKind.u8).wrap ((a5.toNat : Int) - 48) = (a5.toNat : Int) - 48 := by simp [IntKind.wrap, IntKind.signed, IntKind.bits]; omega
  have w2 : (IntKind.i64).wrap ((a5.toNat : Int) - 48) = (a5.toNat : Int) - 48 := wrap_i64 ⟨by omega, by omega⟩
  have w3 : (IntKind.i64).wrap (10 * (p1 : Int)) = 10 * (p1 : Int) := wrap_i64 ⟨by omega, by omega⟩
  have w4 : (IntKind.i64).wrap (10 * (p1 : Int) + ((a5.toNat : Int) - 48)) = ((10 * p1 + (a5.toNat - 48) : Nat) : Int) := by rw [wrap_i64 ⟨by omega, by omega⟩]; omega
  have w5 : (IntKind.i64).wrap 6 = 6 := by decide
  generalize 10 * p1 + (a5.toNat - 48) = N at *
  unfold calendar_Parse_l1b
  simp [go_sem, c1, c2, w1, w2, w3, w4, w5]
  exact hk
theorem pb5 {p0 p1 p2 : Nat} (hh : h.take n0 = h') (hx : bad a5) :
    Run mach (.c calendar_Parse_l1b :: .lp calendar_Parse_l1 :: K) .norm ⟨(.str [a0, a1, a2, a3, a4, a5, a6, a7, a8, a9] :: .undef :: .undef :: .undef :: .box [.int .i64 ((p0 : Int)), .int .i64 ((p1 : Int)), .int .i64 ((p2 : Int))] :: .int .i64 1 :: .undef :: .undef :: .undef :: .undef :: .undef :: .int .i64 10 :: .int .i64 5 :: .undef :: .undef :: .undef :: .undef :: .undef :: .undef :: .undef :: .undef :: .undef :: .undef :: .undef :: .undef :: .undef :: .undef :: .undef :: .undef :: .undef :: .undef :: .undef :: .undef :: .undef :: .undef :: .undef :: .undef :: .undef :: .undef :: .undef :: .undef :: .undef :: .undef :: .undef :: .undef :: .undef :: .undef :: .undef :: .undef :: .undef :: .undef :: .undef :: .undef :: .undef :: .undef :: .undef :: .undef :: .undef :: .undef :: .undef :: .undef :: .undef :: .undef :: .undef :: .undef :: .undef :: []), h⟩ (FinQ [.tmp 2, .tmp 3] n0 (.ret (.tup [.int .i64 0, .int .i64 1]) h')) := by
  unfold bad at hx
  by_cases q : a5.toNat < 48
  · have c1 : ¬ ((48 : Int) ≤ a5.toNat) := by omega
    have c2 : (a5.toNat : Int) < 48 := by omega
    unfold calendar_Parse_l1b
    simp [go_sem, c1, c2, q, hh]
  · have c1 : (48 : Int) ≤ a5.toNat := by omega
    have c2 : ¬ ((a5.toNat : Int) ≤ 57) := by omega
    have c3 : (57 : Int) < a5.toNat := by omega
    unfold calendar_Parse_l1b
    simp [go_sem, c1, c2, c3, hh]

theorem pd6 {p0 p1 p2 : Nat} {r : Rt} (hp : p1 ≤ 10000) (hx : ¬ bad a6) (hk : Run mach (.c calendar_Parse_l1b :: .lp calendar_Parse_l1 :: K) .norm ⟨(.str [a0, a1, a2, a3, a4, a5, a6, a7, a8, a9] :: .undef :: .undef :: .undef :: .box [.int .i64 ((p0 : Int)), .int .i64 (((10 * p1 + (a6.toNat - 48) : Nat) : Int)), .int .i64 ((p2 : Int))] :: .int .i64 1 :: .undef :: .undef :: .undef :: .undef :: .undef :: .int .i64 10 :: .int .i64 7 :: .undef :: .undef :: .undef :: .undef :: .undef :: .undef :: .undef :: .undef :: .undef :: .undef :: .undef :: .undef :: .undef :: .undef :: .undef :: .undef :: .undef :: .undef :: .undef :: .undef :: .undef :: .undef :: .undef :: .undef :: .undef :: .undef :: .undef :: .undef :: .undef :: .undef :: .undef :: .undef :: .undef :: .undef :: .undef :: .undef :: .undef :: .undef :: .undef :: .undef :: .undef :: .undef :: .undef :: .undef :: .undef :: .undef :: .undef :: .undef :: .undef :: .undef :: .undef :: .undef :: .undef :: []), h⟩ (FinQ [.tmp 2, .tmp 3] n0 r)) :
    Run mach (.c calendar_Parse_l1b :: .lp calendar_Parse_l1 :: K) .norm ⟨(.str [a0, a1, a2, a3, a4, a5, a6, a7, a8, a9] :: .undef :: .undef :: .undef :: .box [.int .i64 ((p0 : Int)), .int .i64 ((p1 : Int)), .int .i64 ((p2 : Int))] :: .int .i64 1 :: .undef :: .undef :: .undef :: .undef :: .undef :: .int .i64 10 :: .int .i64 6 :: .undef :: .undef :: .undef :: .undef :: .undef :: .undef :: .undef :: .undef :: .undef :: .undef :: .undef :: .undef :: .undef :: .undef :: .undef :: .undef :: .undef :: .undef :: .undef :: .undef :: .undef :: .undef :: .undef :: .undef :: .undef :: .undef :: .undef :: .undef :: .undef :: .undef :: .undef :: .undef :: .undef :: .undef :: .undef :: .undef :: .undef :: .undef :: .undef :: .undef :: .undef :: .undef :: .undef :: .undef :: .undef :: .undef :: .undef :: .undef :: .undef :: .undef :: .undef :: .undef :: .undef :: []), h⟩ (FinQ [.tmp 2, .tmp 3] n0 r) := by
  unfold bad at hx
  have c1 : (48 : Int) ≤ a6.toNat := by omega
  have c2 : (a6.toNat : Int) ≤ 57 := by omega
  have w1 : (IntKind.u8).wrap ((a6.toNat : Int) - 48) = (a6.toNat : Int) - 48 := by simp [IntKind.wrap, IntKind.signed, IntKind.bits]; omega
  have w2 : (IntKind.i64).wrap ((a6.toNat : Int) - 48) = (a6.toNat : Int) - 48 := wrap_i64 ⟨by omega, by omega⟩
  have w3 : (IntKind.i64).wrap (10 * (p1 : Int)) = 10 * (p1 : Int) := wrap_i64 ⟨by omega, by omega⟩
  have w4 : (IntKind.i64).wrap (10 * (p1 : Int) + ((a6.toNat : Int) - 48)) = ((10 * p1 + (a6.toNat - 48) : Nat) : Int) := by rw [wrap_i64 ⟨by omega, by omega⟩]; omega
  have w5 : (IntKind.i64).wrap 7 = 7 := by decide
  generalize 10 * p1 + (a6.toNat - 48) = N at *
  unfold calendar_Parse_l1b
  simp [go_sem, c1, c2, w1, w2, w3, w4, w5]
  exact hk
theorem pb6 {p0 p1 p2 : Nat} (hh : h.take n0 = h') (hx : bad a6) :
    Run mach (.c calendar_Parse_l1b :: .lp calendar_Parse_l1 :: K) .norm ⟨(.str [a0, a1, a2, a3, a4, a5, a6, a7, a8, a9] :: .undef :: .undef :: .undef :: .box [.int .i64 ((p0 : Int)), .int .i64 ((p1 : Int)), .int .i64 ((p2 : Int))] :: .int .i64 1 :: .undef :: .undef :: .undef :: .undef :: .undef :: .int .i64 10 :: .int .i64 6 :: .undef :: .undef :: .undef :: .undef :: .undef :: .undef :: .undef :: .undef :: .undef :: .undef :: .undef :: .undef :: .undef :: .undef :: .undef :: .undef :: .undef :: .undef :: .undef :: .undef :: .undef :: .undef :: .undef :: .undef :: .undef :: .undef :: .undef :: .undef :: .undef :: .undef :: .undef :: .undef :: .undef :: .undef :: .undef :: .undef :: .undef :: .undef :: .undef :: .undef :: .undef :: .undef :: .undef :: .undef :: .undef :: .undef :: .undef :: .undef :: .undef :: .undef :: .undef :: .undef :: .undef :: []), h⟩ (FinQ [.tmp 2, .tmp 3] n0 (.ret (.tup [.int .i64 0, .int .i64 1]) h')) := by
  unfold bad at hx
  by_cases q : a6.toNat < 48
  · have c1 : ¬ ((48 : Int) ≤ a6.toNat) := by omega
    have c2 : (a6.toNat : Int) < 48 := by omega
    unfold calendar_Parse_l1b
    simp [go_sem, c1, c2, q, hh]
  · have c1 : (48 : Int) ≤ a6.toNat := by omega
    have c2 : ¬ ((a6.toNat : Int) ≤ 57) := by omega
    have c3 : (57 : Int) < a6.toNat := by omega
    unfold calendar_Parse_l1b
    simp [go_sem, c1, c2, c3, hh]

theorem pd7 {p0 p1 p2 : Nat} {r : Rt} (hx : a7 = 45) (hk : Run mach (.c calendar_Parse_l1b :: .lp calendar_Parse_l1 :: K) .norm ⟨(.str [a0, a1, a2, a3, a4, a5, a6, a7, a8, a9] :: .undef :: .undef :: .undef :: .box [.int .i64 ((p0 : Int)), .int .i64 ((p1 : Int)), .int .i64 ((p2 : Int))] :: .int .i64 2 :: .undef :: .undef :: .undef :: .undef :: .undef :: .int .i64 10 :: .int .i64 8 :: .undef :: .undef :: .undef :: .undef :: .undef :: .undef :: .undef :: .undef :: .undef :: .undef :: .undef :: .undef :: .undef :: .undef :: .undef :: .undef :: .undef :: .undef :: .undef :: .undef :: .undef :: .undef :: .undef :: .undef :: .undef :: .undef :: .undef :: .undef :: .undef :: .undef :: .undef :: .undef :: .undef :: .undef :: .undef :: .undef :: .undef :: .undef :: .undef :: .undef :: .undef :: .undef :: .undef :: .undef :: .undef :: .undef :: .undef :: .undef :: .undef :: .undef :: .undef :: .undef :: .undef :: []), h⟩ (FinQ [.tmp 2, .tmp 3] n0 r)) :
    Run mach (.c calendar_Parse_l1b :: .lp calendar_Parse_l1 :: K) .norm ⟨(.str [a0, a1, a2, a3, a4, a5, a6, a7, a8, a9] :: .undef :: .undef :: .undef :: .box [.int .i64 ((p0 : Int)), .int .i64 ((p1 : Int)), .int .i64 ((p2 : Int))] :: .int .i64 1 :: .undef :: .undef :: .undef :: .undef :: .undef :: .int .i64 10 :: .int .i64 7 :: .undef :: .undef :: .undef :: .undef :: .undef :: .undef :: .undef :: .undef :: .undef :: .undef :: .undef :: .undef :: .undef :: .undef :: .undef :: .undef :: .undef :: .undef :: .undef :: .undef :: .undef :: .undef :: .undef :: .undef :: .undef :: .undef :: .undef :: .undef :: .undef :: .undef :: .undef :: .undef :: .undef :: .undef :: .undef :: .undef :: .undef :: .undef :: .undef :: .undef :: .undef :: .undef :: .undef :: .undef :: .undef :: .undef :: .undef :: .undef :: .undef :: .undef :: .undef :: .undef :: .undef :: []), h⟩ (FinQ [.tmp 2, .tmp 3] n0 r) := by
  subst hx
  unfold calendar_Parse_l1b
  simp [go_sem, wrap_i64]
  exact hk
theorem pb7 {p0 p1 p2 : Nat} (hh : h.take n0 = h') (hx : ¬ a7 = 45) :
    Run mach (.c calendar_Parse_l1b :: .lp calendar_Parse_l1 :: K) .norm ⟨(.str [a0, a1, a2, a3, a4, a5, a6, a7, a8, a9] :: .undef :: .undef :: .undef :: .box [.int .i64 ((p0 : Int)), .int .i64 ((p1 : Int)), .int .i64 ((p2 : Int))] :: .int .i64 1 :: .undef :: .undef :: .undef :: .undef :: .undef :: .int .i64 10 :: .int .i64 7 :: .undef :: .undef :: .undef :: .undef :: .undef :: .undef :: .undef :: .undef :: .undef :: .undef :: .undef :: .undef :: .undef :: .undef :: .undef :: .undef :: .undef :: .undef :: .undef :: .undef :: .undef :: .undef :: .undef :: .undef :: .undef :: .undef :: .undef :: .undef :: .undef :: .undef :: .undef :: .undef :: .undef :: .undef :: .undef :: .undef :: .undef :: .undef :: .undef :: .undef :: .undef :: .undef :: .undef :: .undef :: .undef :: .undef :: .undef :: .undef :: .undef :: .undef :: .undef :: .undef :: .undef :: []), h⟩ (FinQ [.tmp 2, .tmp 3] n0 (.ret (.tup [.int .i64 0, .int .i64 1]) h')) := by
  have q : ¬ ((a7.toNat : Int) = 45) := by have := u45 hx; omega
  unfold calendar_Parse_l1b
  simp [go_sem, q, bf' q, hx, hh]

theorem pd8 {p0 p1 p2 : Nat} {r : Rt} (hp : p2 ≤ 10000) (hx : ¬ bad a8) (hk : Run mach (.c calendar_Parse_l1b :: .lp calendar_Parse_l1 :: K) .norm ⟨(.str [a0, a1, a2, a3, a4, a5, a6, a7, a8, a9] :: .undef :: .undef :: .undef :: .box [.int .i64 ((p0 : Int)), .int .i64 ((p1 : Int)), .int .i64 (((10 * p2 + (a8.toNat - 48) : Nat) : Int))] :: .int .i64 2 :: .undef :: .undef :: .undef :: .undef :: .undef :: .int .i64 10 :: .int .i64 9 :: .undef :: .undef :: .undef :: .undef :: .undef :: .undef :: .undef :: .undef :: .undef :: .undef :: .undef :: .undef :: .undef :: .undef :: .undef :: .undef :: .undef :: .undef :: .undef :: .undef :: .undef :: .undef :: .undef :: .undef :: .undef :: .undef :: .undef :: .undef :: .undef :: .undef :: .undef :: .undef :: .undef :: .undef :: .undef :: .undef :: .undef :: .undef :: .undef :: .undef :: .undef :: .undef :: .undef :: .undef :: .undef :: .undef :: .undef :: .undef :: .undef :: .undef :: .undef :: .undef :: .undef :: []), h⟩ (FinQ [.tmp 2, .tmp 3] n0 r)) :
    Run mach (.c calendar_Parse_l1b :: .lp calendar_Parse_l1 :: K) .norm ⟨(.str [a0, a1, a2, a3, a4, a5, a6, a7, a8, a9] :: .undef :: .undef :: .undef :: .box [.int .i64 ((p0 : Int)), .int .i64 ((p1 : Int)), .int .i64 ((p2 : Int))] :: .int .i64 2 :: .undef :: .undef :: .undef :: .undef :: .undef :: .int .i64 10 :: .int .i64 8 :: .undef :: .undef :: .undef :: .undef :: .undef :: .undef :: .undef :: .undef :: .undef :: .undef :: .undef :: .undef :: .undef :: .undef :: .undef :: .undef :: .undef :: .undef :: .undef :: .undef :: .undef :: .undef :: .undef :: .undef :: .undef :: .undef :: .undef :: .undef :: .undef :: .undef :: .undef :: .undef :: .undef :: .undef :: .undef :: .undef :: .undef :: .undef :: .undef :: .undef :: .undef :: .undef :: .undef :: .undef :: .undef :: .undef :: .undef :: .undef :: .undef :: .undef :: .undef :: .undef :: .undef :: []), h⟩ (FinQ [.tmp 2, .tmp 3] n0 r) := by
  unfold bad at hx
  have c1 : (48 : Int) ≤ a8.toNat := by omega
  have c2 : (a8.toNat : Int) ≤ 57 := by omega
  have w1 : (IntKind.u8).wrap ((a8.toNat : Int) - 48) = (a8.toNat : Int) - 48 := by simp [IntKind.wrap, IntKind.signed, IntKind.bits]; omega
  have w2 : (IntKind.i64).wrap ((a8.toNat : Int) - 48) = (a8.toNat : Int) - 48 := wrap_i64 ⟨by omega, by omega⟩
  have w3 : (IntKind.i64).wrap (10 * (p2 : Int)) = 10 * (p2 : Int) := wrap_i64 ⟨by omega, by omega⟩
  have w4 : (IntKind.i64).wrap (10 * (p2 : Int) + ((a8.toNat : Int) - 48)) = ((10 * p2 + (a8.toNat - 48) : Nat) : Int) := by rw [wrap_i64 ⟨by omega, by omega⟩]; omega
  have w5 : (IntKind.i64).wrap 9 = 9 := by decide
  generalize 10 * p2 + (a8.toNat - 48) = N at *
  unfold calendar_Parse_l1b
  simp [go_sem, c1, c2, w1, w2, w3, w4, w5]
  exact hk
theorem pb8 {p0 p1 p2 : Nat} (hh : h.take n0 = h') (hx : bad a8) :
    Run mach (.c calendar_Parse_l1b :: .lp calendar_Parse_l1 :: K) .norm ⟨(.str [a0, a1, a2, a3, a4, a5, a6, a7, a8, a9] :: .undef :: .undef :: .undef :: .box [.int .i64 ((p0 : Int)), .int .i64 ((p1 : Int)), .int .i64 ((p2 : Int))] :: .int .i64 2 :: .undef :: .undef :: .undef :: .undef :: .undef :: .int .i64 10 :: .int .i64 8 :: .undef :: .undef :: .undef :: .undef :: .undef :: .undef :: .undef :: .undef :: .undef :: .undef :: .undef :: .undef :: .undef :: .undef :: .undef :: .undef :: .undef :: .undef :: .undef :: .undef :: .undef :: .undef :: .undef :: .undef :: .undef :: .undef :: .undef :: .undef :: .undef :: .undef :: .undef :: .undef :: .undef :: .undef :: .undef :: .undef :: .undef :: .undef :: .undef :: .undef :: .undef :: .undef :: .undef :: .undef :: .undef :: .undef :: .undef :: .undef :: .undef :: .undef :: .undef :: .undef :: .undef :: []), h⟩ (FinQ [.tmp 2, .tmp 3] n0 (.ret (.tup [.int .i64 0, .int .i64 1]) h')) := by
  unfold bad at hx
  by_cases q : a8.toNat < 48
  · have c1 : ¬ ((48 : Int) ≤ a8.toNat) := by omega
    have c2 : (a8.toNat : Int) < 48 := by omega
    unfold calendar_Parse_l1b
    simp [go_sem, c1, c2, q, hh]
  · have c1 : (48 : Int) ≤ a8.toNat := by omega
    have c2 : ¬ ((a8.toNat : Int) ≤ 57) := by omega
    have c3 : (57 : Int) < a8.toNat := by omega
    unfold calendar_Parse_l1b
    simp [go_sem, c1, c2, c3, hh]

theorem pd9 {p0 p1 p2 : Nat} {r : Rt} (hp : p2 ≤ 10000) (hx : ¬ bad a9) (hk : Run mach (.c calendar_Parse_l1b :: .lp calendar_Parse_l1 :: K) .norm ⟨(.str [a0, a1, a2, a3, a4, a5, a6, a7, a8, a9] :: .undef :: .undef :: .undef :: .box [.int .i64 ((p0 : Int)), .int .i64 ((p1 : Int)), .int .i64 (((10 * p2 + (a9.toNat - 48) : Nat) : Int))] :: .int .i64 2 :: .undef :: .undef :: .undef :: .undef :: .undef :: .int .i64 10 :: .int .i64 10 :: .undef :: .undef :: .undef :: .undef :: .undef :: .undef :: .undef :: .undef :: .undef :: .undef :: .undef :: .undef :: .undef :: .undef :: .undef :: .undef :: .undef :: .undef :: .undef :: .undef :: .undef :: .undef :: .undef :: .undef :: .undef :: .undef :: .undef :: .undef :: .undef :: .undef :: .undef :: .undef :: .undef :: .undef :: .undef :: .undef :: .undef :: .undef :: .undef :: .undef :: .undef :: .undef :: .undef :: .undef :: .undef :: .undef :: .undef :: .undef :: .undef :: .undef :: .undef :: .undef :: .undef :: []), h⟩ (FinQ [.tmp 2, .tmp 3] n0 r)) :
    Run mach (.c calendar_Parse_l1b :: .lp calendar_Parse_l1 :: K) .norm ⟨(.str [a0, a1, a2, a3, a4, a5, a6, a7, a8, a9] :: .undef :: .undef :: .undef :: .box [.int .i64 ((p0 : Int)), .int .i64 ((p1 : Int)), .int .i64 ((p2 : Int))] :: .int .i64 2 :: .undef :: .undef :: .undef :: .undef :: .undef :: .int .i64 10 :: .int .i64 9 :: .undef :: .undef :: .undef :: .undef :: .undef :: .undef :: .undef :: .undef :: .undef :: .undef :: .undef :: .undef :: .undef :: .undef :: .undef :: .undef :: .undef :: .undef :: .undef :: .undef :: .undef :: .undef :: .undef :: .undef :: .undef :: .undef :: .undef :: .undef :: .undef :: .undef :: .undef :: .undef :: .undef :: .undef :: .undef :: .undef :: .undef :: .undef :: .undef :: .undef :: .undef :: .undef :: .undef :: .undef :: .undef :: .undef :: .undef :: .undef :: .undef :: .undef :: .undef :: .undef :: .undef :: []), h⟩ (FinQ [.tmp 2, .tmp 3] n0 r) := by
  unfold bad at hx
  have c1 : (48 : Int) ≤ a9.toNat := by omega
  have c2 : (a9.toNat : Int) ≤ 57 := by omega
  have w1 : (IntKind.u8).wrap ((a9.toNat : Int) - 48) = (a9.toNat : Int) - 48 := by simp [IntKind.wrap, IntKind.signed, IntKind.bits]; omega
  have w2 : (IntKind.i64).wrap ((a9.toNat : Int) - 48) = (a9.toNat : Int) - 48 := wrap_i64 ⟨by omega, by omega⟩
  have w3 : (IntKind.i64).wrap (10 * (p2 : Int)) = 10 * (p2 : Int) := wrap_i64 ⟨by omega, by omega⟩
  have w4 : (IntKind.i64).wrap (10 * (p2 : Int) + ((a9.toNat : Int) - 48)) = ((10 * p2 + (a9.toNat - 48) : Nat) : Int) := by rw [wrap_i64 ⟨by omega, by omega⟩]; omega
  have w5 : (IntKind.i64).wrap 10 = 10 := by decide
  generalize 10 * p2 + (a9.toNat - 48) = N at *
  unfold calendar_Parse_l1b
  simp [go_sem, c1, c2, w1, w2, w3, w4, w5]
  exact hk
theorem pb9 {p0 p1 p2 : Nat} (hh : h.take n0 = h') (hx : bad a9) :
    Run mach (.c calendar_Parse_l1b :: .lp calendar_Parse_l1 :: K) .norm ⟨(.str [a0, a1, a2, a3, a4, a5, a6, a7, a8, a9] :: .undef :: .undef :: .undef :: .box [.int .i64 ((p0 : Int)), .int .i64 ((p1 : Int)), .int .i64 ((p2 : Int))] :: .int .i64 2 :: .undef :: .undef :: .undef :: .undef :: .undef :: .int .i64 10 :: .int .i64 9 :: .undef :: .undef :: .undef :: .undef :: .undef :: .undef :: .undef :: .undef :: .undef :: .undef :: .undef :: .undef :: .undef :: .undef :: .undef :: .undef :: .undef :: .undef :: .undef :: .undef :: .undef :: .undef :: .undef :: .undef :: .undef :: .undef :: .undef :: .undef :: .undef :: .undef :: .undef :: .undef :: .undef :: .undef :: .undef :: .undef :: .undef :: .undef :: .undef :: .undef :: .undef :: .undef :: .undef :: .undef :: .undef :: .undef :: .undef :: .undef :: .undef :: .undef :: .undef :: .undef :: .undef :: []), h⟩ (FinQ [.tmp 2, .tmp 3] n0 (.ret (.tup [.int .i64 0, .int .i64 1]) h')) := by
  unfold bad at hx
  by_cases q : a9.toNat < 48
  · have c1 : ¬ ((48 : Int) ≤ a9.toNat) := by omega
    have c2 : (a9.toNat : Int) < 48 := by omega
    unfold calendar_Parse_l1b
    simp [go_sem, c1, c2, q, hh]
  · have c1 : (48 : Int) ≤ a9.toNat := by omega
    have c2 : ¬ ((a9.toNat : Int) ≤ 57) := by omega
    have c3 : (57 : Int) < a9.toNat := by omega
    unfold calendar_Parse_l1b
    simp [go_sem, c1, c2, c3, hh]

end
end Go.Am
