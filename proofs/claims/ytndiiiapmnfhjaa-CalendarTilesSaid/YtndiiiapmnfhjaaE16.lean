/- The law CalendarTiles on the machine. -/
import Derived.Test.YtndiiiapmnfhjaaE15
set_option linter.unusedSimpArgs false
namespace Go.Am
open Go Go.Pu

set_option maxRecDepth 8000 in
theorem l_tiles {a p q : Int} {i j : Nat} (hp : InCyc a p i) (hq : InCyc a (q - 1) j) (h h' : Heap) (n0 : Nat) (k : List It) (hij : i ≤ j)
    (hk : Run mach k (.exit 0) ⟨(.int .i64 a :: .undef :: .undef :: .undef :: .undef :: .undef :: .undef :: .undef :: .sl false 2 (pvs (cycs a i (j + 1 - i))) :: .int .i64 ((j + 1 - i : Nat) : Int) :: .undef :: .undef :: .undef :: .undef :: .undef :: .undef :: .undef :: .undef :: .undef :: .undef :: .undef :: .undef :: .undef :: .undef :: .undef :: .undef :: .undef :: .undef :: .undef :: .undef :: .undef :: .undef :: .undef :: .undef :: .undef :: .undef :: .undef :: .undef :: .undef :: .undef :: .undef :: .undef :: .undef :: .undef :: .undef :: .undef :: .undef :: .undef :: .undef :: .undef :: .undef :: .undef :: .undef :: .undef :: .undef :: .undef :: .undef :: .undef :: .undef :: .undef :: .undef :: .undef :: .undef :: .undef :: .undef :: .undef :: .undef :: .undef :: .undef :: .undef :: .undef :: .undef :: .undef :: .undef :: .undef :: .undef :: .undef :: .undef :: .undef :: .undef :: .undef :: .undef :: .undef :: .undef :: .undef :: .undef :: .undef :: .undef :: .undef :: .undef :: .undef :: .undef :: .undef :: .undef :: .undef :: .undef :: .undef :: .undef :: .undef :: .undef :: .undef :: .undef :: .undef :: .undef :: .undef :: .undef :: .undef :: .undef :: .undef :: .undef :: .int .i64 ((j + 1 - i : Nat) : Int) :: .sl false 2 (pvs (cycs a i (j + 1 - i))) :: .int .i64 ((j + 1 - i : Nat) : Int) :: .bool false :: .undef :: .undef :: .undef :: .undef :: .undef :: .undef :: .undef :: .undef :: .undef :: .undef :: .undef :: .undef :: .undef :: .undef :: .undef :: .undef :: .undef :: .undef :: .undef :: .undef :: .undef :: .undef :: .undef :: .undef :: .undef :: .undef :: .undef :: .undef :: .undef :: []), h⟩ (FinQ [.tmp 6] n0 (.ret (.bool true) h'))) :
    ∀ (n m : Nat), m + n = j + 1 - i → 1 ≤ m →
    Run mach (.c billinglaw03_CalendarTiles_l1b :: .lp billinglaw03_CalendarTiles_l1 :: k) .norm ⟨(.int .i64 a :: .undef :: .undef :: .undef :: .undef :: .undef :: .undef :: .undef :: .sl false 2 (pvs (cycs a i (j + 1 - i))) :: .int .i64 m :: .undef :: .undef :: .undef :: .undef :: .undef :: .undef :: .undef :: .undef :: .undef :: .undef :: .undef :: .undef :: .undef :: .undef :: .undef :: .undef :: .undef :: .undef :: .undef :: .undef :: .undef :: .undef :: .undef :: .undef :: .undef :: .undef :: .undef :: .undef :: .undef :: .undef :: .undef :: .undef :: .undef :: .undef :: .undef :: .undef :: .undef :: .undef :: .undef :: .undef :: .undef :: .undef :: .undef :: .undef :: .undef :: .undef :: .undef :: .undef :: .undef :: .undef :: .undef :: .undef :: .undef :: .undef :: .undef :: .undef :: .undef :: .undef :: .undef :: .undef :: .undef :: .undef :: .undef :: .undef :: .undef :: .undef :: .undef :: .undef :: .undef :: .undef :: .undef :: .undef :: .undef :: .undef :: .undef :: .undef :: .undef :: .undef :: .undef :: .undef :: .undef :: .undef :: .undef :: .undef :: .undef :: .undef :: .undef :: .undef :: .undef :: .undef :: .undef :: .undef :: .undef :: .undef :: .undef :: .undef :: .undef :: .undef :: .undef :: .undef :: .undef :: .undef :: .undef :: .undef :: .undef :: .undef :: .undef :: .undef :: .undef :: .undef :: .undef :: .undef :: .undef :: .undef :: .undef :: .undef :: .undef :: .undef :: .undef :: .undef :: .undef :: .undef :: .undef :: .undef :: .undef :: .undef :: .undef :: .undef :: .undef :: .undef :: .undef :: .undef :: .undef :: []), h⟩ (FinQ [.tmp 6] n0 (.ret (.bool true) h'))
  | 0, m, hm, h1 => by
    obtain rfl : m = j + 1 - i := by omega
    have hl : (pvs (cycs a i (j + 1 - i))).length = j + 1 - i := by rw [pvs_length, cycs_length]
    generalize pvs (cycs a i (j + 1 - i)) = L at *
    generalize j + 1 - i = N at *
    unfold billinglaw03_CalendarTiles_l1b
    simp [go_sem, hl]
    exact hk
  | n + 1, m, hm, h1 => by
    have ih := l_tiles hp hq h h' n0 k hij hk n (m + 1) (by omega) (by omega)
    have hl : (pvs (cycs a i (j + 1 - i))).length = j + 1 - i := by rw [pvs_length, cycs_length]
    have hj2 := hq.j2
    have g1 : nth (pvs (cycs a i (j + 1 - i))) m = pv (edge a (i + m), edge a (i + m + 1)) := by
      have e := nth_map pv (cycs a i (j + 1 - i)) m (by rw [cycs_length]; omega)
      rw [cycs_get] at e
      exact e
    have g2 : nth (pvs (cycs a i (j + 1 - i))) (m - 1) = pv (edge a (i + m - 1), edge a (i + m)) := by
      have e := nth_map pv (cycs a i (j + 1 - i)) (m - 1) (by rw [cycs_length]; omega)
      rw [cycs_get] at e
      have e1 : i + (m - 1) = i + m - 1 := by omega
      have e2 : i + m - 1 + 1 = i + m := by omega
      rw [e1, e2] at e
      exact e
    have hc : InCyc a (edge a (i + m)) (i + m) := by
      refine ⟨hp.a1, hp.a2, by omega, Int.le_refl _, ?_⟩
      have e2 : i + m = i + m - 1 + 1 := by omega
      rw [e2]
      exact edge_lt hp.a1 hp.a2 (by omega)
    have x0 := edge_lo hp.a1 hp.a2 (j := i + m) (by omega)
    have x1 := edge_hi hp.a1 hp.a2 (j := i + m + 1) (by omega)
    have x2 := hc.hi
    have ec := e_Cycle hc [] x0 (by omega)
    have w1 : IntKind.wrap .i64 ((m : Int) - 1) = ((m - 1 : Nat) : Int) := by rw [wrap_i64 (by omega)]; omega
    have w2 : IntKind.wrap .i64 ((m : Int) + 1) = ((m + 1 : Nat) : Int) := by rw [wrap_i64 (by omega)]; omega
    have q1 : m < j + 1 - i := by omega
    have q2 : m - 1 < j + 1 - i := by omega
    generalize pvs (cycs a i (j + 1 - i)) = L at *
    generalize j + 1 - i = N at *
    generalize (m + 1 : Nat) = m1 at *
    generalize hm0 : (m - 1 : Nat) = m0 at *
    unfold billinglaw03_CalendarTiles_l1b
    simp [go_sem, hl, q1, q2, g1, g2, pv, ec, w1, w2, eqL, eq1]
    exact ih

set_option maxRecDepth 8000 in
theorem law_tiles1 {a t p q : Int} {j i k : Nat} (hc : InCyc a t j) (h0 : 0 ≤ t) (h3 : t < 12622780800) (hp : InCyc a p i) (hq : InCyc a (q - 1) k) (g0 : 0 ≤ p) (g1 : p < q) (g2 : q ≤ 12622780800) (g3 : q - p ≤ 172800000) : acall mach n_billinglaw03_CalendarTiles [.int .i64 a, .int .i64 t, .agg [.int .i64 p, .int .i64 q]] [] = some (.ret (.bool true) []) := by
  refine acall_fn rfl (af := a_billinglaw03_CalendarTiles) rfl rfl ?_
  have c1 : ¬ a < 1 := by have := hc.a1; omega
  have c2 : ¬ 28 < a := by have := hc.a2; omega
  have c3 : ¬ t < 0 := by omega
  have c4 : ¬ 12622780800 ≤ t := by omega
  have e1 := fun h => e_Cycle hc h h0 h3
  have l1 : ¬ t < edge a j := by have := hc.lo; omega
  have l2 : ¬ edge a (j + 1) ≤ t := by have := hc.hi; omega
  have j2 := hc.j2
  have x0 := edge_lo hc.a1 hc.a2 (j := j) (by omega)
  have x1 := edge_hi hc.a1 hc.a2 (j := j + 1) (by omega)
  have x2 := edge_lo hc.a1 hc.a2 (j := j + 1) (by omega)
  have x3 := edge_hi hc.a1 hc.a2 (j := j) (by omega)
  have e2 := fun h => e_Cycles hc.first hc.last h (by omega) (by omega) (by omega)
  have n1 : j + 1 - j = 1 := by omega
  rw [n1] at e2
  simp only [cycs] at e2
  have e3 := fun (o1 o2 : Bool) h => e_same o1 o2 [(edge a j, edge a (j + 1))] h (by simp)
  simp only [pvs, pv, List.map] at e2 e3
  -- the next cycle, and the one before
  have sh := fun h => e_short p q h
  have cs : (0 ≤ p ∧ p < q ∧ q ≤ 12622780800 ∧ q - p ≤ 172800000) = True := by simp; omega
  simp only [cs] at sh
  have e4 := fun h => e_Cycles hp hq h g0 g1 g2
  have w1 : IntKind.wrap .i64 (edge a j - 1) = edge a j - 1 := wrap_i64 (by omega)
  have wq : IntKind.wrap .i64 (q - 1) = q - 1 := wrap_i64 (by omega)
  have e5 : edge a (j + 1) < 12622780800 → ∀ h, acall mach n_calendar_Cycle [.int .i64 a, .int .i64 (edge a (j + 1))] h = some (.ret (.agg [.int .i64 (edge a (j + 1)), .int .i64 (edge a (j + 1 + 1))]) h) := fun hn h => e_Cycle (hc.next hn) h (by omega) (by omega)
  have e6 : 0 < edge a j → ∃ z, ∀ h, acall mach n_calendar_Cycle [.int .i64 a, .int .i64 (edge a j - 1)] h = some (.ret (.agg [.int .i64 z, .int .i64 (edge a j)]) h) := fun hn => by
    obtain ⟨i, hi, hx⟩ := hc.prev hn
    refine ⟨edge a i, fun h => ?_⟩
    rw [e_Cycle hx h (by omega) (by omega), hi]
  have e7 := fun h => e_Cycle hp h g0 (by omega)
  have e8 := fun h => e_Cycle hq h (by omega) (by omega)
  have hik := hp.le hq (by omega)
  have hne : (pvs (cycs a i (k + 1 - i))).length = k + 1 - i := by rw [pvs_length, cycs_length]
  have hk2 := hq.j2
  have nz : ¬ (k + 1 - i = 0) := by omega
  have nz' : ¬ (k + 1 ≤ i) := by omega
  have w9 : IntKind.wrap .i64 (((k + 1 - i : Nat) : Int) - 1) = ((k - i : Nat) : Int) := by rw [wrap_i64 (by omega)]; omega
  have f0 : nth (pvs (cycs a i (k + 1 - i))) 0 = pv (edge a i, edge a (i + 1)) := by
    have e := nth_map pv (cycs a i (k + 1 - i)) 0 (by rw [cycs_length]; omega)
    rw [cycs_get] at e
    exact e
  have f1 : nth (pvs (cycs a i (k + 1 - i))) (k - i) = pv (edge a k, edge a (k + 1)) := by
    have e := nth_map pv (cycs a i (k + 1 - i)) (k - i) (by rw [cycs_length]; omega)
    rw [cycs_get] at e
    have : i + (k - i) = k := by omega
    rw [this] at e
    exact e
  have lt9 : k - i < k + 1 - i := by omega
  have pos : ¬ edge a (j + 1) < 12622780800 → 0 < edge a j := by
    intro hx
    have hj : j = 4800 := by
      rcases Nat.lt_or_ge j 4800 with q | q
      · have := edge_lt hc.a1 hc.a2 q; have := edge_hi hc.a1 hc.a2 (j := j + 1 + 1) (by omega); omega
      · omega
    subst hj
    have h5 := edge_in (a := a) (j := 4799) (by omega)
    have h6 := mbeg_mono (a := 0) (b := 4799) (by omega)
    have h7 : mbeg 0 = 0 := rfl
    have h8 := hc.a1
    simp only [h7] at h6
    rw [h5]
    omega
  generalize hL : pvs (cycs a i (k + 1 - i)) = L at *
  generalize hN : k + 1 - i = N at *
  generalize hE0 : edge a j = E0 at *
  generalize hE1 : edge a (j + 1) = E1 at *
  by_cases hn : E1 < 12622780800
  · have e5 := e5 hn
    by_cases hz : 0 < E0
    · obtain ⟨z, e6⟩ := e6 hz
      simp [List.replicate, go_sem, c1, c2, c3, c4, e1, l1, l2, e2, e3, hn, hz, e5, e6, e7, e8, w1, wq, sh, e4, hne, nz, w9, f0, f1, pv, eqL, eq1, lt9]
      refine ⟨by omega, ?_⟩
      rw [← hL, ← hN]
      refine l_tiles hp hq _ _ _ _ (by omega) ?_ (k - i) 1 (by omega) (by omega)
      simp [go_sem, e_awake]
    · simp [List.replicate, go_sem, c1, c2, c3, c4, e1, l1, l2, e2, e3, hn, hz, e5, e7, e8, w1, wq, sh, e4, hne, nz, w9, f0, f1, pv, eqL, eq1, lt9]
      refine ⟨by omega, ?_⟩
      rw [← hL, ← hN]
      refine l_tiles hp hq _ _ _ _ (by omega) ?_ (k - i) 1 (by omega) (by omega)
      simp [go_sem, e_awake]
  · by_cases hz : 0 < E0
    · obtain ⟨z, e6⟩ := e6 hz
      simp [List.replicate, go_sem, c1, c2, c3, c4, e1, l1, l2, e2, e3, hn, hz, e6, e7, e8, w1, wq, sh, e4, hne, nz, w9, f0, f1, pv, eqL, eq1, lt9]
      refine ⟨by omega, ?_⟩
      rw [← hL, ← hN]
      refine l_tiles hp hq _ _ _ _ (by omega) ?_ (k - i) 1 (by omega) (by omega)
      simp [go_sem, e_awake]
    · exact (hz (pos hn)).elim
end Go.Am
