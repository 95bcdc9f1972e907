/- The law CalendarTiles on the machine, whole. -/
import Derived.Test.YtndiiiapmnfhjaaE16
set_option linter.unusedSimpArgs false
namespace Go.Am
open Go Go.Pu

set_option maxRecDepth 8000 in
theorem law_tiles2 {a t p q : Int} {j : Nat} (hc : InCyc a t j) (h0 : 0 ≤ t) (h3 : t < 12622780800) (g : ¬ (0 ≤ p ∧ p < q ∧ q ≤ 12622780800 ∧ q - p ≤ 172800000)) : acall mach n_billinglaw03_CalendarTiles [.int .i64 a, .int .i64 t, .agg [.int .i64 p, .int .i64 q]] [] = some (.ret (.bool true) []) := by
  refine acall_fn rfl (af := a_billinglaw03_CalendarTiles) rfl rfl ?_
  have c1 : ¬ a < 1 := by have := hc.a1; omega
  have c2 : ¬ 28 < a := by have := hc.a2; omega
  have c3 : ¬ t < 0 := by omega
  have c4 : ¬ 12622780800 ≤ t := by omega
  have e1 := fun h => e_Cycle hc h h0 h3
  have l1 : ¬ t < edge a j := by have := hc.lo; omega
  have l2 : ¬ edge a (j + 1) ≤ t := by have := hc.hi; omega
  have j2 := hc.j2
  have x0 := edge_lo hc.a1 hc.a2 (j := j) (by omega)
  have x1 := edge_hi hc.a1 hc.a2 (j := j + 1) (by omega)
  have x2 := edge_lo hc.a1 hc.a2 (j := j + 1) (by omega)
  have x3 := edge_hi hc.a1 hc.a2 (j := j) (by omega)
  have e2 := fun h => e_Cycles hc.first hc.last h (by omega) (by omega) (by omega)
  have n1 : j + 1 - j = 1 := by omega
  rw [n1] at e2
  simp only [cycs] at e2
  have e3 := fun (o1 o2 : Bool) h => e_same o1 o2 [(edge a j, edge a (j + 1))] h (by simp)
  simp only [pvs, pv, List.map] at e2 e3
  -- the next cycle, and the one before
  have sh := fun h => e_short p q h
  have cs : (0 ≤ p ∧ p < q ∧ q ≤ 12622780800 ∧ q - p ≤ 172800000) = False := by simp only [g]
  simp only [cs] at sh
  have w1 : IntKind.wrap .i64 (edge a j - 1) = edge a j - 1 := wrap_i64 (by omega)
  have e5 : edge a (j + 1) < 12622780800 → ∀ h, acall mach n_calendar_Cycle [.int .i64 a, .int .i64 (edge a (j + 1))] h = some (.ret (.agg [.int .i64 (edge a (j + 1)), .int .i64 (edge a (j + 1 + 1))]) h) := fun hn h => e_Cycle (hc.next hn) h (by omega) (by omega)
  have e6 : 0 < edge a j → ∃ z, ∀ h, acall mach n_calendar_Cycle [.int .i64 a, .int .i64 (edge a j - 1)] h = some (.ret (.agg [.int .i64 z, .int .i64 (edge a j)]) h) := fun hn => by
    obtain ⟨i, hi, hx⟩ := hc.prev hn
    refine ⟨edge a i, fun h => ?_⟩
    rw [e_Cycle hx h (by omega) (by omega), hi]
  have pos : ¬ edge a (j + 1) < 12622780800 → 0 < edge a j := by
    intro hx
    have hj : j = 4800 := by
      rcases Nat.lt_or_ge j 4800 with q | q
      · have := edge_lt hc.a1 hc.a2 q; have := edge_hi hc.a1 hc.a2 (j := j + 1 + 1) (by omega); omega
      · omega
    subst hj
    have h5 := edge_in (a := a) (j := 4799) (by omega)
    have h6 := mbeg_mono (a := 0) (b := 4799) (by omega)
    have h7 : mbeg 0 = 0 := rfl
    have h8 := hc.a1
    simp only [h7] at h6
    rw [h5]
    omega
  generalize hE0 : edge a j = E0 at *
  generalize hE1 : edge a (j + 1) = E1 at *
  by_cases hn : E1 < 12622780800
  · have e5 := e5 hn
    by_cases hz : 0 < E0
    · obtain ⟨z, e6⟩ := e6 hz
      simp [List.replicate, go_sem, c1, c2, c3, c4, e1, l1, l2, e2, e3, hn, hz, e5, e6, w1, sh, eqL, eq1, e_awake]
    · simp [List.replicate, go_sem, c1, c2, c3, c4, e1, l1, l2, e2, e3, hn, hz, e5, w1, sh, eqL, eq1, e_awake]
  · by_cases hz : 0 < E0
    · obtain ⟨z, e6⟩ := e6 hz
      simp [List.replicate, go_sem, c1, c2, c3, c4, e1, l1, l2, e2, e3, hn, hz, e6, w1, sh, eqL, eq1, e_awake]
    · exact (hz (pos hn)).elim

theorem law_tiles (a t p q : Int) : acall mach n_billinglaw03_CalendarTiles [.int .i64 a, .int .i64 t, .agg [.int .i64 p, .int .i64 q]] [] = some (.ret (.bool true) []) := by
  by_cases hc : a < 1 ∨ 28 < a ∨ t < 0 ∨ 12622780800 ≤ t
  · refine acall_fn rfl (af := a_billinglaw03_CalendarTiles) rfl rfl ?_
    by_cases c1 : a < 1
    · simp [List.replicate, go_sem, c1, e_awake]
    by_cases c2 : 28 < a
    · simp [List.replicate, go_sem, c1, c2, e_awake]
    by_cases c3 : t < 0
    · simp [List.replicate, go_sem, c1, c2, c3, e_awake]
    have c4 : 12622780800 ≤ t := by omega
    simp [List.replicate, go_sem, c1, c2, c3, c4, e_awake]
  · obtain ⟨j, hj⟩ := exists_cyc (a := a) (t := t) (by omega) (by omega) (by omega) (by omega)
    by_cases g : 0 ≤ p ∧ p < q ∧ q ≤ 12622780800 ∧ q - p ≤ 172800000
    · obtain ⟨i, hi⟩ := exists_cyc (a := a) (t := p) (by omega) (by omega) (by omega) (by omega)
      obtain ⟨k, hk⟩ := exists_cyc (a := a) (t := q - 1) (by omega) (by omega) (by omega) (by omega)
      exact law_tiles1 hj (by omega) (by omega) hi hk g.1 g.2.1 g.2.2.1 g.2.2.2
    · exact law_tiles2 hj (by omega) (by omega) g

theorem all_calendarTiles (us : List V) (h : TyArgs Go.Proofs.Try.prog Go.Proofs.Try.f7.params.toList us) : acall mach 7 us [] = some (.ret (.bool true) []) := by
  obtain ⟨u, v, w, rfl, h1, h2, h3⟩ := TyArgs.three h
  obtain ⟨a, rfl, _⟩ := arg_int u3 h1
  obtain ⟨t, rfl, _⟩ := arg_int u3 h2
  obtain ⟨p, q, rfl, _⟩ := arg_period h3
  exact law_tiles a t p q
end Go.Am
