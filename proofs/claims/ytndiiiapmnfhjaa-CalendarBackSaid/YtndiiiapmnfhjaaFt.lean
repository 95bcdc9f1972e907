/- Every abstract function is the program's: the check, by the kernel. -/
import Derived.Test.YtndiiiapmnfhjaaAm28
import Derived.Test.YtndiiiapmnfhjaaAc
import Derived.Test.YtndiiiapmnfhjaaProg
import Derived.KernelRfl
set_option maxRecDepth 100000
namespace Go.Am
open Go Go.Proofs
theorem k_billinglaw03_CalendarDays : chkF Try.prog 3 a_billinglaw03_CalendarDays = true := by kernel_rfl
theorem k_billinglaw03_CalendarDates : chkF Try.prog 4 a_billinglaw03_CalendarDates = true := by kernel_rfl
theorem k_billinglaw03_CalendarBack : chkF Try.prog 5 a_billinglaw03_CalendarBack = true := by kernel_rfl
theorem k_billinglaw03_CalendarCycles : chkF Try.prog 6 a_billinglaw03_CalendarCycles = true := by kernel_rfl
theorem k_billinglaw03_CalendarTiles : chkF Try.prog 7 a_billinglaw03_CalendarTiles = true := by kernel_rfl
theorem k_billinglaw03_CalendarPrints : chkF Try.prog 8 a_billinglaw03_CalendarPrints = true := by kernel_rfl
theorem k_calendar_Day : chkF Try.prog 9 a_calendar_Day = true := by kernel_rfl
theorem k_billingref03_Day : chkF Try.prog 10 a_billingref03_Day = true := by kernel_rfl
theorem k_calendar_Length : chkF Try.prog 11 a_calendar_Length = true := by kernel_rfl
theorem k_billingref03_Length : chkF Try.prog 12 a_billingref03_Length = true := by kernel_rfl
theorem k_billinglaw03_awake : chkF Try.prog 13 a_billinglaw03_awake = true := by kernel_rfl
theorem k_calendar_Date : chkF Try.prog 14 a_calendar_Date = true := by kernel_rfl
theorem k_billingref03_Date : chkF Try.prog 15 a_billingref03_Date = true := by kernel_rfl
theorem k_calendar_Weekday : chkF Try.prog 16 a_calendar_Weekday = true := by kernel_rfl
theorem k_billingref03_Weekday : chkF Try.prog 17 a_billingref03_Weekday = true := by kernel_rfl
theorem k_calendar_Parse : chkF Try.prog 18 a_calendar_Parse = true := by kernel_rfl
theorem k_calendar_Print : chkF Try.prog 19 a_calendar_Print = true := by kernel_rfl
theorem k_calendar_Cycle : chkF Try.prog 20 a_calendar_Cycle = true := by kernel_rfl
theorem k_billingref03_Cycle : chkF Try.prog 21 a_billingref03_Cycle = true := by kernel_rfl
theorem k_billinglaw03_short : chkF Try.prog 22 a_billinglaw03_short = true := by kernel_rfl
theorem k_billinglaw03_same : chkF Try.prog 23 a_billinglaw03_same = true := by kernel_rfl
theorem k_calendar_Cycles : chkF Try.prog 24 a_calendar_Cycles = true := by kernel_rfl
theorem k_billingref03_Cycles : chkF Try.prog 25 a_billingref03_Cycles = true := by kernel_rfl
theorem k_billingref03_Parse : chkF Try.prog 26 a_billingref03_Parse = true := by kernel_rfl
theorem k_billingref03_Print : chkF Try.prog 27 a_billingref03_Print = true := by kernel_rfl
theorem k_calendar_before : chkF Try.prog 28 a_calendar_before = true := by kernel_rfl
theorem k_calendar_days : chkF Try.prog 29 a_calendar_days = true := by kernel_rfl
theorem k_billingref03_before : chkF Try.prog 30 a_billingref03_before = true := by kernel_rfl
theorem k_billingref03_leap : chkF Try.prog 31 a_billingref03_leap = true := by kernel_rfl
theorem k_billingref03_year : chkF Try.prog 32 a_billingref03_year = true := by kernel_rfl
theorem k_calendar_digits : chkF Try.prog 33 a_calendar_digits = true := by kernel_rfl
theorem k_calendar_cycle : chkF Try.prog 34 a_calendar_cycle = true := by kernel_rfl
theorem k_calendar_month : chkF Try.prog 35 a_calendar_month = true := by kernel_rfl
theorem k_billingref03_valid : chkF Try.prog 36 a_billingref03_valid = true := by kernel_rfl
theorem k_billingref03_number : chkF Try.prog 37 a_billingref03_number = true := by kernel_rfl
theorem k_billingref03_digits : chkF Try.prog 38 a_billingref03_digits = true := by kernel_rfl
theorem k_calendar_leap : chkF Try.prog 39 a_calendar_leap = true := by kernel_rfl
theorem k_calendar_begin : chkF Try.prog 40 a_calendar_begin = true := by kernel_rfl
theorem ft_ok : ∀ f af, ft f = some af → chkF Try.prog f af = true := by
  intro f af h
  unfold ft at h
  split at h
  · cases h; exact k_billinglaw03_CalendarDays
  · cases h; exact k_billinglaw03_CalendarDates
  · cases h; exact k_billinglaw03_CalendarBack
  · cases h; exact k_billinglaw03_CalendarCycles
  · cases h; exact k_billinglaw03_CalendarTiles
  · cases h; exact k_billinglaw03_CalendarPrints
  · cases h; exact k_calendar_Day
  · cases h; exact k_billingref03_Day
  · cases h; exact k_calendar_Length
  · cases h; exact k_billingref03_Length
  · cases h; exact k_billinglaw03_awake
  · cases h; exact k_calendar_Date
  · cases h; exact k_billingref03_Date
  · cases h; exact k_calendar_Weekday
  · cases h; exact k_billingref03_Weekday
  · cases h; exact k_calendar_Parse
  · cases h; exact k_calendar_Print
  · cases h; exact k_calendar_Cycle
  · cases h; exact k_billingref03_Cycle
  · cases h; exact k_billinglaw03_short
  · cases h; exact k_billinglaw03_same
  · cases h; exact k_calendar_Cycles
  · cases h; exact k_billingref03_Cycles
  · cases h; exact k_billingref03_Parse
  · cases h; exact k_billingref03_Print
  · cases h; exact k_calendar_before
  · cases h; exact k_calendar_days
  · cases h; exact k_billingref03_before
  · cases h; exact k_billingref03_leap
  · cases h; exact k_billingref03_year
  · cases h; exact k_calendar_digits
  · cases h; exact k_calendar_cycle
  · cases h; exact k_calendar_month
  · cases h; exact k_billingref03_valid
  · cases h; exact k_billingref03_number
  · cases h; exact k_billingref03_digits
  · cases h; exact k_calendar_leap
  · cases h; exact k_calendar_begin
  · cases h
noncomputable def mach : Mach := ⟨ft, fun _ _ _ => none⟩
theorem sound : SoundCall Try.prog (acall mach) := acall_sound mach soundCall_none ft_ok
end Go.Am
