/- The lists of cycles; their comparison. -/
import Derived.Test.YtndiiiapmnfhjaaE13
set_option linter.unusedSimpArgs false
namespace Go.Am
open Go Go.Pu

theorem e_Cycles {a p q : Int} {i j : Nat} (hp : InCyc a p i) (hq : InCyc a (q - 1) j) (h : Heap) (h0 : 0 ≤ p) (hpq : p < q) (h3 : q ≤ 12622780800) : acall mach n_calendar_Cycles [.int .i64 a, .agg [.int .i64 p, .int .i64 q]] h = some (.ret (.sl true 2 (pvs (cycs a i (j + 1 - i)))) h) := by
  refine acall_fn rfl (af := a_calendar_Cycles) rfl rfl ?_
  have c1 : ¬ a < 1 := by have := hp.a1; omega
  have c2 : ¬ 28 < a := by have := hp.a2; omega
  have c3 : ¬ p < 0 := by omega
  have c4 : ¬ q ≤ p := by omega
  have c5 : ¬ 12622780800 < q := by omega
  have e := fun h => e_month hp h h0 (by omega)
  have hij := hp.le hq (by omega)
  simp [List.replicate, go_sem, c1, c2, c3, c4, c5, e]
  have hs : (.sl true 2 [] : V) = .sl true 2 (pvs (cycs a i (i - i))) := by simp [cycs, pvs]
  rw [hs]
  refine l_cycs hp hq h h h.length _ _ h0 hpq h3 ?_ (j + 1 - i) i (by omega) (Nat.le_refl _)
  simp [go_sem]

theorem e_Cycles_out {a p q : Int} (hc : a < 1 ∨ 28 < a ∨ p < 0 ∨ q ≤ p ∨ 12622780800 < q) (h : Heap) : acall mach n_calendar_Cycles [.int .i64 a, .agg [.int .i64 p, .int .i64 q]] h = some (.ret (.sl true 2 []) h) := by
  refine acall_fn rfl (af := a_calendar_Cycles) rfl rfl ?_
  by_cases c1 : a < 1
  · simp [List.replicate, go_sem, c1]
  by_cases c2 : 28 < a
  · simp [List.replicate, go_sem, c1, c2]
  by_cases c3 : p < 0
  · simp [List.replicate, go_sem, c1, c2, c3]
  by_cases c4 : q ≤ p
  · simp [List.replicate, go_sem, c1, c2, c3, c4]
  have c5 : 12622780800 < q := by omega
  simp [List.replicate, go_sem, c1, c2, c3, c4, c5]

theorem e_rCycles {a p q : Int} (h1 : 1 ≤ a) (h2 : a ≤ 28) (h : Heap) (h0 : 0 ≤ p) (hpq : p < q) (h3 : q ≤ 12622780800) : acall mach n_billingref03_Cycles [.int .i64 a, .agg [.int .i64 p, .int .i64 q]] h = some (.ret (.sl true 2 (pvs (refL a p q 4801))) h) := by
  refine acall_fn rfl (af := a_billingref03_Cycles) rfl rfl ?_
  have c1 : ¬ a < 1 := by omega
  have c2 : ¬ 28 < a := by omega
  have e := fun h => e_valid p q h
  have c3 : (0 ≤ p ∧ p < q ∧ q ≤ 12622780800) = True := by simp [h0, hpq, h3]
  simp only [c3] at e
  simp [List.replicate, go_sem, c1, c2, e]
  refine l_rcycs h1 h2 h h h.length _ _ ?_ 4801 0 (Nat.zero_add _)
  intro x
  simp [go_sem]

theorem e_rCycles_out {a p q : Int} (hc : a < 1 ∨ 28 < a ∨ p < 0 ∨ q ≤ p ∨ 12622780800 < q) (h : Heap) : acall mach n_billingref03_Cycles [.int .i64 a, .agg [.int .i64 p, .int .i64 q]] h = some (.ret (.sl true 2 []) h) := by
  refine acall_fn rfl (af := a_billingref03_Cycles) rfl rfl ?_
  by_cases c1 : a < 1
  · simp [List.replicate, go_sem, c1]
  by_cases c2 : 28 < a
  · simp [List.replicate, go_sem, c1, c2]
  have e := fun h => e_valid p q h
  have c3 : (0 ≤ p ∧ p < q ∧ q ≤ 12622780800) = False := by simp; omega
  simp only [c3] at e
  simp [List.replicate, go_sem, c1, c2, e]

theorem e_rCycle {a t : Int} {j : Nat} (hc : InCyc a t j) (h : Heap) (h0 : 0 ≤ t) (h3 : t < 12622780800) : acall mach n_billingref03_Cycle [.int .i64 a, .int .i64 t] h = some (.ret (.agg [.int .i64 (edge a j), .int .i64 (edge a (j + 1))]) h) := by
  refine acall_fn rfl (af := a_billingref03_Cycle) rfl rfl ?_
  have c3 : ¬ t < 0 := by omega
  have c4 : ¬ 12622780800 ≤ t := by omega
  have w : IntKind.wrap .i64 (t + 1) = t + 1 := wrap_i64 (by omega)
  have e := fun h => e_rCycles (p := t) (q := t + 1) hc.a1 hc.a2 h h0 (by omega) (by omega)
  have hq : InCyc a (t + 1 - 1) j := by rw [Int.add_sub_cancel]; exact hc
  have hr := refL_all hc hq (by omega)
  have hn : j + 1 - j = 1 := by omega
  rw [hn] at hr
  rw [hr] at e
  simp [List.replicate, go_sem, c3, c4, w, e, cycs, pvs, pv]

theorem e_rCycle_out {a t : Int} (hc : a < 1 ∨ 28 < a ∨ t < 0 ∨ 12622780800 ≤ t) (h : Heap) : acall mach n_billingref03_Cycle [.int .i64 a, .int .i64 t] h = some (.ret (.agg [.int .i64 0, .int .i64 0]) h) := by
  refine acall_fn rfl (af := a_billingref03_Cycle) rfl rfl ?_
  by_cases c1 : t < 0
  · simp [List.replicate, go_sem, c1]
  by_cases c2 : 12622780800 ≤ t
  · simp [List.replicate, go_sem, c1, c2]
  have w : IntKind.wrap .i64 (t + 1) = t + 1 := wrap_i64 (by omega)
  have e := fun h => e_rCycles_out (a := a) (p := t) (q := t + 1) (by omega) h
  simp [List.replicate, go_sem, c1, c2, w, e]

theorem l_same (l : List (Int × Int)) (h h' : Heap) (n0 : Nat) (k : List It)
    (hk : Run mach k (.exit 0) ⟨(.sl false 2 (pvs l) :: .sl false 2 (pvs l) :: .undef :: .undef :: .undef :: .int .i64 l.length :: .undef :: .undef :: .undef :: .undef :: .undef :: .int .i64 l.length :: .sl false 2 (pvs l) :: .int .i64 l.length :: .bool false :: .undef :: .undef :: .undef :: .undef :: .undef :: .undef :: .undef :: .undef :: .undef :: .undef :: .undef :: []), h⟩ (FinQ [.tmp 4] n0 (.ret (.bool true) h'))) (hl : l.length ≤ 100000) :
    ∀ (n i : Nat), i + n = l.length →
    Run mach (.c billinglaw03_same_l1b :: .lp billinglaw03_same_l1 :: k) .norm ⟨(.sl false 2 (pvs l) :: .sl false 2 (pvs l) :: .undef :: .undef :: .undef :: .int .i64 i :: .undef :: .undef :: .undef :: .undef :: .undef :: .undef :: .undef :: .undef :: .undef :: .undef :: .undef :: .undef :: .undef :: .undef :: .undef :: .undef :: .undef :: .undef :: .undef :: .undef :: []), h⟩ (FinQ [.tmp 4] n0 (.ret (.bool true) h'))
  | 0, i, hi => by
    obtain rfl : i = l.length := by omega
    unfold billinglaw03_same_l1b
    simp [go_sem, pvs_length]
    exact hk
  | n + 1, i, hi => by
    have ih := l_same l h h' n0 k hk hl n (i + 1) (by omega)
    have w : IntKind.wrap .i64 ((i : Int) + 1) = ((i + 1 : Nat) : Int) := by rw [wrap_i64 (by omega)]; omega
    have q : i < l.length := by omega
    have g : nth (pvs l) i = pv l[i] := nth_map _ l i q
    unfold billinglaw03_same_l1b
    simp [go_sem, pvs_length, q, g, pv, w, eqL, eq1]
    exact ih

theorem e_same (o1 o2 : Bool) (l : List (Int × Int)) (h : Heap) (hl : l.length ≤ 100000) : acall mach n_billinglaw03_same [.sl o1 2 (pvs l), .sl o2 2 (pvs l)] h = some (.ret (.bool true) h) := by
  refine acall_fn rfl (af := a_billinglaw03_same) rfl rfl ?_
  cases o1 <;> cases o2 <;> (
    simp [List.replicate, go_sem, pvs_length]
    refine l_same l h h h.length _ ?_ hl l.length 0 (Nat.zero_add _)
    simp [go_sem])

theorem e_short (p q : Int) (h : Heap) : acall mach n_billinglaw03_short [.agg [.int .i64 p, .int .i64 q]] h = some (.ret (.bool (decide (0 ≤ p ∧ p < q ∧ q ≤ 12622780800 ∧ q - p ≤ 172800000))) h) := by
  refine acall_fn rfl (af := a_billinglaw03_short) rfl rfl ?_
  by_cases c1 : 0 ≤ p
  · by_cases c2 : p < q
    · by_cases c3 : q ≤ 12622780800
      · have w : IntKind.wrap .i64 (q - p) = q - p := wrap_i64 (by omega)
        simp [List.replicate, go_sem, c1, c2, c3, w]
      · simp [List.replicate, go_sem, c1, c2, c3]
    · simp [List.replicate, go_sem, c1, c2]
  · simp [List.replicate, go_sem, c1]
end Go.Am
