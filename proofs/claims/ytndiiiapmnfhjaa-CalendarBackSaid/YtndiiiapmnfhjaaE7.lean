/- Print. -/
import Derived.Test.YtndiiiapmnfhjaaE6
set_option linter.unusedSimpArgs false
namespace Go.Am
open Go Go.Pu

def prD (y m d : Nat) : List UInt8 := digs y 4 ++ ([45] ++ (digs m 2 ++ ([45] ++ digs d 2)))

theorem e_Print {day : Int} {y m d : Nat} (hd : IsDate day y m d) (h0 : 0 ≤ day) (h1 : day < 146097) (hy : y ≤ 1000000) (hm : m ≤ 1000000) (hdd : d ≤ 1000000) (h : Heap) : acall mach n_calendar_Print [.int .i64 day] h = some (.ret (.str (prD y m d)) h) := by
  refine acall_fn rfl (af := a_calendar_Print) rfl rfl ?_
  have e := fun h => e_Date hd h
  have e1 : ∀ h, acall mach n_calendar_digits [.int .i64 y, .int .i64 4] h = some (.ret (.str (digs y 4)) h) := fun h => e_digits 4 y h (by omega) hy
  have e2 : ∀ h, acall mach n_calendar_digits [.int .i64 m, .int .i64 2] h = some (.ret (.str (digs m 2)) h) := fun h => e_digits 2 m h (by omega) hm
  have e3 : ∀ h, acall mach n_calendar_digits [.int .i64 d, .int .i64 2] h = some (.ret (.str (digs d 2)) h) := fun h => e_digits 2 d h (by omega) hdd
  have n1 : ¬ day < 0 := by omega
  have n2 : ¬ (146097 : Int) ≤ day := by omega
  simp [List.replicate, go_sem, prD, e, e1, e2, e3, n1, n2, digs_length]
end Go.Am
