/- The law CalendarCycles on the machine. -/
import Derived.Test.YtndiiiapmnfhjaaE14
set_option linter.unusedSimpArgs false
namespace Go.Am
open Go Go.Pu

theorem both_cycle (a t : Int) : ∃ x y : Int, (∀ h, acall mach n_calendar_Cycle [.int .i64 a, .int .i64 t] h = some (.ret (.agg [.int .i64 x, .int .i64 y]) h)) ∧ (∀ h, acall mach n_billingref03_Cycle [.int .i64 a, .int .i64 t] h = some (.ret (.agg [.int .i64 x, .int .i64 y]) h)) := by
  by_cases hc : a < 1 ∨ 28 < a ∨ t < 0 ∨ 12622780800 ≤ t
  · exact ⟨0, 0, e_Cycle_out hc, e_rCycle_out hc⟩
  · obtain ⟨j, hj⟩ := exists_cyc (a := a) (t := t) (by omega) (by omega) (by omega) (by omega)
    exact ⟨_, _, fun h => e_Cycle hj h (by omega) (by omega), fun h => e_rCycle hj h (by omega) (by omega)⟩
theorem both_cycles (a p q : Int) : ∃ l : List (Int × Int), l.length ≤ 100000 ∧ (∀ h, acall mach n_calendar_Cycles [.int .i64 a, .agg [.int .i64 p, .int .i64 q]] h = some (.ret (.sl true 2 (pvs l)) h)) ∧ (∀ h, acall mach n_billingref03_Cycles [.int .i64 a, .agg [.int .i64 p, .int .i64 q]] h = some (.ret (.sl true 2 (pvs l)) h)) := by
  by_cases hc : a < 1 ∨ 28 < a ∨ p < 0 ∨ q ≤ p ∨ 12622780800 < q
  · exact ⟨[], by simp, e_Cycles_out hc, e_rCycles_out hc⟩
  · obtain ⟨i, hi⟩ := exists_cyc (a := a) (t := p) (by omega) (by omega) (by omega) (by omega)
    obtain ⟨j, hj⟩ := exists_cyc (a := a) (t := q - 1) (by omega) (by omega) (by omega) (by omega)
    refine ⟨cycs a i (j + 1 - i), ?_, fun h => e_Cycles hi hj h (by omega) (by omega) (by omega), fun h => ?_⟩
    · rw [cycs_length]; have := hj.j2; omega
    · rw [← refL_all hi hj (by omega)]
      exact e_rCycles (by omega) (by omega) h (by omega) (by omega) (by omega)

theorem law_cycles (a t p q : Int) : acall mach n_billinglaw03_CalendarCycles [.int .i64 a, .int .i64 t, .agg [.int .i64 p, .int .i64 q]] [] = some (.ret (.bool true) []) := by
  refine acall_fn rfl (af := a_billinglaw03_CalendarCycles) rfl rfl ?_
  obtain ⟨x, y, e1, e2⟩ := both_cycle a t
  obtain ⟨l, hl, e3, e4⟩ := both_cycles a p q
  have s := fun (o1 o2 : Bool) h => e_same o1 o2 l h hl
  have sh := fun h => e_short p q h
  by_cases c1 : 0 ≤ p
  · by_cases c2 : p < q
    · by_cases c3 : q ≤ 12622780800
      · by_cases c4 : q - p ≤ 172800000
        · simp [List.replicate, go_sem, e1, e2, e3, e4, s, sh, c1, c2, c3, c4, eqL, eq1, e_awake]
        · simp [List.replicate, go_sem, e1, e2, e3, e4, s, sh, c1, c2, c3, c4, eqL, eq1, e_awake]
      · simp [List.replicate, go_sem, e1, e2, e3, e4, s, sh, c1, c2, c3, eqL, eq1, e_awake]
    · simp [List.replicate, go_sem, e1, e2, e3, e4, s, sh, c1, c2, eqL, eq1, e_awake]
  · simp [List.replicate, go_sem, e1, e2, e3, e4, s, sh, c1, eqL, eq1, e_awake]

theorem all_calendarCycles (us : List V) (h : TyArgs Go.Proofs.Try.prog Go.Proofs.Try.f6.params.toList us) : acall mach 6 us [] = some (.ret (.bool true) []) := by
  obtain ⟨u, v, w, rfl, h1, h2, h3⟩ := TyArgs.three h
  obtain ⟨a, rfl, _⟩ := arg_int u3 h1
  obtain ⟨t, rfl, _⟩ := arg_int u3 h2
  obtain ⟨p, q, rfl, _⟩ := arg_period h3
  exact law_cycles a t p q
end Go.Am
