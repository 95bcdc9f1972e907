/- The chapter's examples; the laws CalendarDays and CalendarDates on the machine. -/
import Derived.Test.YtndiiiapmnfhjaaE4
import Derived.Test.YtndiiiapmnfhjaaAm30
import Derived.KernelRfl
set_option linter.unusedSimpArgs false
namespace Go.Am
open Go Go.Pu

theorem e_awake : acall mach n_billinglaw03_awake [] [] = some (.ret (.bool true) []) := (acall_iff _).2 ⟨200, by kernel_rfl⟩

theorem u3 : Go.Proofs.Try.prog.underlying 3 = some (.int .i64) := by kernel_rfl
theorem u9 : Go.Proofs.Try.prog.underlying 9 = some .string := by kernel_rfl
theorem u23 : fTypes Go.Proofs.Try.prog 23 = some [3, 3, 3] := by kernel_rfl
theorem a23 : aggT Go.Proofs.Try.prog 23 = true := by kernel_rfl
theorem u37 : fTypes Go.Proofs.Try.prog 37 = some [3, 3] := by kernel_rfl
theorem a37 : aggT Go.Proofs.Try.prog 37 = true := by kernel_rfl

def i64 (n : Int) : Prop := -9223372036854775808 ≤ n ∧ n ≤ 9223372036854775807
theorem wf_i64 {n : Int} (h : (Lit.int .i64 n).wf = true) : i64 n := by
  simpa [i64, Lit.wf, IntKind.min, IntKind.max, IntKind.signed, IntKind.bits] using h

theorem arg_date {u : V} (h : u = mkEl Go.Proofs.Try.prog 23 u.cells ∧ ∃ f, TyC Go.Proofs.Try.prog f 23 u.cells) : ∃ y m d : Int, u = .agg [.int .i64 y, .int .i64 m, .int .i64 d] ∧ i64 y ∧ i64 m ∧ i64 d := by
  obtain ⟨h1, f, h2⟩ := h
  obtain ⟨g, _, hf⟩ := tyc_fields u23 h2
  obtain ⟨x1, y1, e1, r1, hf⟩ := hf.cons
  obtain ⟨x2, y2, rfl, r2, hf⟩ := hf.cons
  obtain ⟨x3, y3, rfl, r3, hf⟩ := hf.cons
  obtain rfl := hf.nil
  obtain ⟨n1, rfl, w1⟩ := tyc_int u3 r1
  obtain ⟨n2, rfl, w2⟩ := tyc_int u3 r2
  obtain ⟨n3, rfl, w3⟩ := tyc_int u3 r3
  rw [e1, mkEl_agg a23] at h1
  exact ⟨n1, n2, n3, h1, wf_i64 w1, wf_i64 w2, wf_i64 w3⟩
theorem arg_period {u : V} (h : u = mkEl Go.Proofs.Try.prog 37 u.cells ∧ ∃ f, TyC Go.Proofs.Try.prog f 37 u.cells) : ∃ a b : Int, u = .agg [.int .i64 a, .int .i64 b] ∧ i64 a ∧ i64 b := by
  obtain ⟨h1, f, h2⟩ := h
  obtain ⟨g, _, hf⟩ := tyc_fields u37 h2
  obtain ⟨x1, y1, e1, r1, hf⟩ := hf.cons
  obtain ⟨x2, y2, rfl, r2, hf⟩ := hf.cons
  obtain rfl := hf.nil
  obtain ⟨n1, rfl, w1⟩ := tyc_int u3 r1
  obtain ⟨n2, rfl, w2⟩ := tyc_int u3 r2
  rw [e1, mkEl_agg a37] at h1
  exact ⟨n1, n2, h1, wf_i64 w1, wf_i64 w2⟩

theorem law_days (y m d : Int) : acall mach n_billinglaw03_CalendarDays [.agg [.int .i64 y, .int .i64 m, .int .i64 d]] [] = some (.ret (.bool true) []) := by
  refine acall_fn rfl (af := a_billinglaw03_CalendarDays) rfl rfl ?_
  simp [List.replicate, go_sem, e_Day, e_rDay, e_Length, e_rLength, e_awake]

theorem law_dates (day : Int) : acall mach n_billinglaw03_CalendarDates [.int .i64 day] [] = some (.ret (.bool true) []) := by
  refine acall_fn rfl (af := a_billinglaw03_CalendarDates) rfl rfl ?_
  by_cases h : day < 0 ∨ 146097 ≤ day
  · simp [List.replicate, go_sem, e_Date_out h, e_rDate_out h, e_Weekday, e_rWeekday, eqL, eq1, e_awake]
  · obtain ⟨y, m, d, hd⟩ := exists_date (day := day) (by omega) (by omega)
    simp [List.replicate, go_sem, e_Date hd, e_rDate hd, e_Weekday, e_rWeekday, eqL, eq1, e_awake]

theorem all_calendarDays (us : List V) (h : TyArgs Go.Proofs.Try.prog Go.Proofs.Try.f3.params.toList us) : acall mach 3 us [] = some (.ret (.bool true) []) := by
  obtain ⟨u, rfl, h1⟩ := TyArgs.one h
  obtain ⟨y, m, d, rfl, _⟩ := arg_date h1
  exact law_days y m d
theorem all_calendarDates (us : List V) (h : TyArgs Go.Proofs.Try.prog Go.Proofs.Try.f4.params.toList us) : acall mach 4 us [] = some (.ret (.bool true) []) := by
  obtain ⟨u, rfl, h1⟩ := TyArgs.one h
  obtain ⟨n, rfl, _⟩ := arg_int u3 h1
  exact law_dates n
end Go.Am
