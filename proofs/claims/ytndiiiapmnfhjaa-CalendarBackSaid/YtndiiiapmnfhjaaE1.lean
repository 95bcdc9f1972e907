/- Equations of the small functions of the calendar. -/
import Derived.Test.YtndiiiapmnfhjaaFt
import Derived.Test.YtndiiiapmnfhjaaAm32
import Derived.Test.YtndiiiapmnfhjaaPd
set_option linter.unusedSimpArgs false
namespace Go.Am
open Go Go.Pu

theorem nt' {a b : Int} (h : ¬ a = b) : (a != b) = true := by simpa using h
theorem nf' {a b : Int} (h : a = b) : (a != b) = false := by simpa using h
theorem bt' {a b : Int} (h : a = b) : (a == b) = true := beq_iff_eq.2 h
theorem bf' {a b : Int} (h : ¬ a = b) : (a == b) = false := beq_false_of_ne h

theorem e_leap (y : Int) (h : Heap) (hy : 0 ≤ y) : acall mach n_calendar_leap [.int .i64 y] h = some (.ret (.bool (leap y)) h) := by
  refine acall_fn rfl (af := a_calendar_leap) rfl rfl ?_
  have m4 : y.tmod 4 = y % 4 := Int.tmod_eq_emod_of_nonneg hy
  have m100 : y.tmod 100 = y % 100 := Int.tmod_eq_emod_of_nonneg hy
  have m400 : y.tmod 400 = y % 400 := Int.tmod_eq_emod_of_nonneg hy
  unfold leap
  by_cases h1 : y % 4 = 0
  · by_cases h2 : y % 100 = 0
    · by_cases h3 : y % 400 = 0
      · simp [List.replicate, go_sem, m4, m100, m400, bt' h1, nf' h2, bt' h3, h1, h2, h3]
      · simp [List.replicate, go_sem, m4, m100, m400, bt' h1, nf' h2, bf' h3, h1, h2, h3]
    · simp [List.replicate, go_sem, m4, m100, m400, bt' h1, nt' h2, h1, h2]
  · have h3 : ¬ y % 400 = 0 := by omega
    simp [List.replicate, go_sem, m4, m100, m400, bf' h1, bf' h3, h1, h3]

theorem e_rleap (y : Int) (h : Heap) (hy : 0 ≤ y) : acall mach n_billingref03_leap [.int .i64 y] h = some (.ret (.bool (leap y)) h) := by
  refine acall_fn rfl (af := a_billingref03_leap) rfl rfl ?_
  have m4 : y.tmod 4 = y % 4 := Int.tmod_eq_emod_of_nonneg hy
  have m100 : y.tmod 100 = y % 100 := Int.tmod_eq_emod_of_nonneg hy
  have m400 : y.tmod 400 = y % 400 := Int.tmod_eq_emod_of_nonneg hy
  unfold leap
  by_cases h1 : y % 4 = 0
  · by_cases h2 : y % 100 = 0
    · by_cases h3 : y % 400 = 0
      · simp [List.replicate, go_sem, m4, m100, m400, bt' h1, nf' h2, bt' h3, h1, h2, h3]
      · simp [List.replicate, go_sem, m4, m100, m400, bt' h1, nf' h2, bf' h3, h1, h2, h3]
    · simp [List.replicate, go_sem, m4, m100, m400, bt' h1, nt' h2, h1, h2]
  · simp [List.replicate, go_sem, m4, m100, m400, bf' h1, h1]

theorem e_year (y : Int) (h : Heap) (hy : 0 ≤ y) : acall mach n_billingref03_year [.int .i64 y] h = some (.ret (.int .i64 (ylen y)) h) := by
  refine acall_fn rfl (af := a_billingref03_year) rfl rfl ?_
  unfold ylen
  cases hl : leap y <;> simp [List.replicate, go_sem, e_rleap y _ hy, hl]

theorem e_days (y m : Int) (h : Heap) (hy : 0 ≤ y) (h1 : 1 ≤ m) (h2 : m ≤ 12) : acall mach n_calendar_days [.int .i64 y, .int .i64 m] h = some (.ret (.int .i64 (dlen y m)) h) := by
  refine acall_fn rfl (af := a_calendar_days) rfl rfl ?_
  have hm : m = 1 ∨ m = 2 ∨ m = 3 ∨ m = 4 ∨ m = 5 ∨ m = 6 ∨ m = 7 ∨ m = 8 ∨ m = 9 ∨ m = 10 ∨ m = 11 ∨ m = 12 := by omega
  rcases hm with rfl | rfl | rfl | rfl | rfl | rfl | rfl | rfl | rfl | rfl | rfl | rfl
  case inr.inl => cases hl : leap y <;> simp [List.replicate, go_sem, dlen, e_leap y _ hy, hl, wrap_i64]
  all_goals simp [List.replicate, go_sem, dlen, wrap_i64]

def lenP (y m : Int) : Int := if y < 2000 ∨ 2399 < y ∨ m < 1 ∨ 12 < m then 0 else dlen y m

theorem e_Length (y m : Int) (h : Heap) : acall mach n_calendar_Length [.int .i64 y, .int .i64 m] h = some (.ret (.int .i64 (lenP y m)) h) := by
  refine acall_fn rfl (af := a_calendar_Length) rfl rfl ?_
  unfold lenP
  by_cases h1 : y < 2000
  · simp [List.replicate, go_sem, h1]
  by_cases h2 : 2399 < y
  · simp [List.replicate, go_sem, h1, h2]
  by_cases h3 : m < 1
  · simp [List.replicate, go_sem, h1, h2, h3]
  by_cases h4 : 12 < m
  · simp [List.replicate, go_sem, h1, h2, h3, h4]
  simp [List.replicate, go_sem, h1, h2, h3, h4, e_days y m _ (by omega) (by omega) (by omega)]

theorem e_rLength (y m : Int) (h : Heap) : acall mach n_billingref03_Length [.int .i64 y, .int .i64 m] h = some (.ret (.int .i64 (lenP y m)) h) := by
  refine acall_fn rfl (af := a_billingref03_Length) rfl rfl ?_
  unfold lenP
  by_cases h1 : y < 2000
  · simp [List.replicate, go_sem, h1]
  by_cases h2 : 2399 < y
  · simp [List.replicate, go_sem, h1, h2]
  by_cases h3 : m < 1
  · simp [List.replicate, go_sem, h1, h2, h3]
  by_cases h4 : 12 < m
  · simp [List.replicate, go_sem, h1, h2, h3, h4]
  rw [if_neg (by omega)]
  have hm : m = 1 ∨ m = 2 ∨ m = 3 ∨ m = 4 ∨ m = 5 ∨ m = 6 ∨ m = 7 ∨ m = 8 ∨ m = 9 ∨ m = 10 ∨ m = 11 ∨ m = 12 := by omega
  clear h3 h4
  rcases hm with rfl | rfl | rfl | rfl | rfl | rfl | rfl | rfl | rfl | rfl | rfl | rfl
  case inr.inl => cases hl : leap y <;> simp [List.replicate, go_sem, dlen, e_rleap y _ (show 0 ≤ y by omega), hl, h1, h2]
  all_goals simp [List.replicate, go_sem, dlen, h1, h2]

theorem e_before (y : Int) (h : Heap) (h1 : 2000 ≤ y) (h2 : y ≤ 2400) : acall mach n_calendar_before [.int .i64 y] h = some (.ret (.int .i64 (bef y)) h) := by
  refine acall_fn rfl (af := a_calendar_before) rfl rfl ?_
  have w0 : IntKind.wrap .i64 (y - 2000) = y - 2000 := wrap_i64 (by omega)
  have w1 : IntKind.wrap .i64 (365 * (y - 2000)) = 365 * (y - 2000) := wrap_i64 (by omega)
  have w2 : IntKind.wrap .i64 (y - 2000 - 1) = y - 2001 := by rw [wrap_i64 (by omega)]; omega
  unfold bef
  by_cases h3 : 2000 < y
  · have h4 : 0 < y - 2000 := by omega
    have d4 : (y - 2001).tdiv 4 = (y - 2001) / 4 := Int.tdiv_eq_ediv_of_nonneg (by omega)
    have d100 : (y - 2001).tdiv 100 = (y - 2001) / 100 := Int.tdiv_eq_ediv_of_nonneg (by omega)
    have d400 : (y - 2001).tdiv 400 = (y - 2001) / 400 := Int.tdiv_eq_ediv_of_nonneg (by omega)
    simp only [List.replicate, go_sem, w0, w1, w2, h3, h4, d4, d100, d400]
    simp [go_sem, w0, w1, w2, d4, d100, d400, h3]
    rw [wrap_i64 (n := (y - 2001) / 4) (by omega), wrap_i64 (n := (y - 2001) / 100) (by omega), wrap_i64 (n := (y - 2001) / 400) (by omega), wrap_i64 (n := (y - 2001) / 4 - (y - 2001) / 100) (by omega), wrap_i64 (n := (y - 2001) / 4 - (y - 2001) / 100 + (y - 2001) / 400) (by omega), wrap_i64 (n := (y - 2001) / 4 - (y - 2001) / 100 + (y - 2001) / 400 + 1) (by omega), wrap_i64 (by omega)]
  · have h4 : ¬ 0 < y - 2000 := by omega
    simp [List.replicate, go_sem, w0, w1, h3, h4]
end Go.Am
