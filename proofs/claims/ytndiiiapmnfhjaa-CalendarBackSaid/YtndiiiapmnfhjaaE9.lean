/- The ref's Print; both outside the calendar. -/
import Derived.Test.YtndiiiapmnfhjaaE8
set_option linter.unusedSimpArgs false
namespace Go.Am
open Go Go.Pu

theorem e_rPrint {day : Int} {y m d : Nat} (hd : IsDate day y m d) (hy : y ≤ 1000000) (hm : m ≤ 1000000) (hdd : d ≤ 1000000) (h : Heap) : acall mach n_billingref03_Print [.int .i64 day] h = some (.ret (.str (prD y m d)) h) := by
  refine acall_fn rfl (af := a_billingref03_Print) rfl rfl ?_
  have e := fun h => e_rDate hd h
  have e1 : ∀ h, acall mach n_billingref03_digits [.int .i64 y, .int .i64 4] h = some (.ret (.str (digs y 4)) h) := fun h => e_rdigits 4 y h (by omega) hy
  have e2 : ∀ h, acall mach n_billingref03_digits [.int .i64 m, .int .i64 2] h = some (.ret (.str (digs m 2)) h) := fun h => e_rdigits 2 m h (by omega) hm
  have e3 : ∀ h, acall mach n_billingref03_digits [.int .i64 d, .int .i64 2] h = some (.ret (.str (digs d 2)) h) := fun h => e_rdigits 2 d h (by omega) hdd
  have y0 : ¬ y = 0 := by have := hd.y1; omega
  simp [List.replicate, go_sem, prD, e, e1, e2, e3, y0, digs_length]

theorem e_Print_out {day : Int} (hd : day < 0 ∨ 146097 ≤ day) (h : Heap) : acall mach n_calendar_Print [.int .i64 day] h = some (.ret (.str []) h) := by
  refine acall_fn rfl (af := a_calendar_Print) rfl rfl ?_
  rcases hd with hd | hd
  · simp [List.replicate, go_sem, hd]
  · have n1 : ¬ day < 0 := by omega
    simp [List.replicate, go_sem, hd, n1]
theorem e_rPrint_out {day : Int} (hd : day < 0 ∨ 146097 ≤ day) (h : Heap) : acall mach n_billingref03_Print [.int .i64 day] h = some (.ret (.str []) h) := by
  refine acall_fn rfl (af := a_billingref03_Print) rfl rfl ?_
  have e := fun h => e_rDate_out hd h
  simp [List.replicate, go_sem, e]
end Go.Am
