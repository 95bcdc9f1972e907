/- The cycles of the program. -/
import Derived.Test.YtndiiiapmnfhjaaE5
import Derived.Test.YtndiiiapmnfhjaaPe
set_option linter.unusedSimpArgs false
namespace Go.Am
open Go Go.Pu

theorem dayP_month {a : Int} (h1 : 1 ≤ a) (h2 : a ≤ 28) {m : Nat} (hm : m < 4800) : dayP (2000 + (m / 12 : Nat)) ((m % 12 : Nat) + 1) a = (mbeg m + a - 1, 0) := by
  unfold dayP
  have hl := dlen_lo (2000 + (m / 12 : Nat)) ((m % 12 : Nat) + 1)
  rw [lenP_in (by omega) (by omega) (by omega) (by omega), if_neg (by omega), mbeg_eq]
  have e : (((m % 12 : Nat) : Int) + 1 - 1).toNat = m % 12 := by omega
  rw [e]
theorem dayP_end {a : Int} (h1 : 1 ≤ a) : dayP 2400 1 a = (0, 6) := by
  unfold dayP lenP
  rw [if_pos]
  simp
  omega

theorem e_begin (a : Int) (m : Nat) (h : Heap) (h1 : 1 ≤ a) (h2 : a ≤ 28) (hm : m ≤ 4800) : acall mach n_calendar_begin [.int .i64 a, .int .i64 m] h = some (.ret (.int .i64 (edge a (m + 1))) h) := by
  refine acall_fn rfl (af := a_calendar_begin) rfl rfl ?_
  have d : (m : Int).tdiv 12 = ((m / 12 : Nat) : Int) := rfl
  have r : (m : Int).tmod 12 = ((m % 12 : Nat) : Int) := rfl
  have w1 : IntKind.wrap .i64 ((m / 12 : Nat) : Int) = ((m / 12 : Nat) : Int) := wrap_i64 (by omega)
  have w2 : IntKind.wrap .i64 (2000 + ((m / 12 : Nat) : Int)) = 2000 + ((m / 12 : Nat) : Int) := wrap_i64 (by omega)
  have w3 : IntKind.wrap .i64 (((m % 12 : Nat) : Int) + 1) = ((m % 12 : Nat) : Int) + 1 := wrap_i64 (by omega)
  by_cases hm' : m < 4800
  · have e := e_Day (2000 + (m / 12 : Nat)) ((m % 12 : Nat) + 1) a
    rw [dayP_month h1 h2 hm'] at e
    have b1 := mbeg_lt hm'
    have b2 := mbeg_lo m
    have w4 : IntKind.wrap .i64 ((mbeg m + a - 1) * 86400) = (mbeg m + a - 1) * 86400 := wrap_i64 (by omega)
    rw [edge_in hm']
    generalize m / 12 = x at *
    generalize m % 12 = y at *
    simp [List.replicate, go_sem, d, r, w1, w2, w3, w4, e]
  · obtain rfl : m = 4800 := by omega
    have e := e_Day 2400 1 a
    rw [dayP_end h1] at e
    rw [edge_end]
    simp [List.replicate, go_sem, e, wrap_i64]

theorem e_cycle (a : Int) (j : Nat) (h : Heap) (h1 : 1 ≤ a) (h2 : a ≤ 28) (hj : j ≤ 4800) : acall mach n_calendar_cycle [.int .i64 a, .int .i64 ((j : Int) - 1)] h = some (.ret (.agg [.int .i64 (edge a j), .int .i64 (edge a (j + 1))]) h) := by
  refine acall_fn rfl (af := a_calendar_cycle) rfl rfl ?_
  have w : IntKind.wrap .i64 ((j : Int) - 1 + 1) = (j : Int) := by rw [wrap_i64 (by omega)]; omega
  have e1 := fun h => e_begin a j h h1 h2 hj
  cases j with
  | zero =>
    have w0 : IntKind.wrap .i64 0 = 0 := by decide
    have e0 := e1
    simp at e0
    simp [List.replicate, go_sem, w0, e0, edge]
  | succ j =>
    have e2 := fun h => e_begin a j h h1 h2 (by omega)
    have q : ((j + 1 : Nat) : Int) - 1 = (j : Int) := by omega
    have w' : IntKind.wrap .i64 ((j : Int) + 1) = (j : Int) + 1 := wrap_i64 (by omega)
    have e1' : ∀ h, acall mach n_calendar_begin [.int .i64 a, .int .i64 ((j : Int) + 1)] h = some (.ret (.int .i64 (edge a (j + 1 + 1))) h) := fun h => e1 h
    simp only [q] at w ⊢
    simp [List.replicate, go_sem, w', e1', e2]

theorem e_month {a t : Int} {j : Nat} (hc : InCyc a t j) (h : Heap) (h0 : 0 ≤ t) (h3 : t < 12622780800) : acall mach n_calendar_month [.int .i64 a, .int .i64 t] h = some (.ret (.int .i64 ((j : Int) - 1)) h) := by
  refine acall_fn rfl (af := a_calendar_month) rfl rfl ?_
  obtain ⟨y, m, d, hd⟩ := exists_date (day := t / 86400) (by omega) (by omega)
  have hj := hc.unique (inCyc_date hc.a1 hc.a2 h0 hd)
  have e := fun h => e_Date hd h
  have q1 := hd.y1; have q2 := hd.y2; have q3 := hd.m1; have q4 := hd.m2
  have t1 : t.tdiv 86400 = t / 86400 := Int.tdiv_eq_ediv_of_nonneg h0
  have w0 : IntKind.wrap .i64 (t / 86400) = t / 86400 := wrap_i64 (by omega)
  have w1 : IntKind.wrap .i64 (y - 2000) = y - 2000 := wrap_i64 (by omega)
  have w2 : IntKind.wrap .i64 (12 * (y - 2000)) = 12 * (y - 2000) := wrap_i64 (by omega)
  have w3 : IntKind.wrap .i64 (12 * (y - 2000) + m) = 12 * (y - 2000) + m := wrap_i64 (by omega)
  have w4 : IntKind.wrap .i64 (12 * (y - 2000) + m - 1) = 12 * (y - 2000) + m - 1 := wrap_i64 (by omega)
  have w5 : IntKind.wrap .i64 (12 * (y - 2000) + m - 1 - 1) = 12 * (y - 2000) + m - 1 - 1 := wrap_i64 (by omega)
  by_cases hda : d < a
  · rw [if_pos hda] at hj
    have hj' : (j : Int) = 12 * (y - 2000) + m - 1 := by omega
    simp [List.replicate, go_sem, t1, w0, w1, w2, w3, w4, w5, e, hda, hj']
  · rw [if_neg hda] at hj
    have hj' : (j : Int) - 1 = 12 * (y - 2000) + m - 1 := by omega
    simp [List.replicate, go_sem, t1, w0, w1, w2, w3, w4, w5, e, hda, hj']

theorem e_Cycle {a t : Int} {j : Nat} (hc : InCyc a t j) (h : Heap) (h0 : 0 ≤ t) (h3 : t < 12622780800) : acall mach n_calendar_Cycle [.int .i64 a, .int .i64 t] h = some (.ret (.agg [.int .i64 (edge a j), .int .i64 (edge a (j + 1))]) h) := by
  refine acall_fn rfl (af := a_calendar_Cycle) rfl rfl ?_
  have c1 : ¬ a < 1 := by have := hc.a1; omega
  have c2 : ¬ 28 < a := by have := hc.a2; omega
  have c3 : ¬ t < 0 := by omega
  have c4 : ¬ 12622780800 ≤ t := by omega
  have e := fun h => e_month hc h h0 h3
  have e2 := fun h => e_cycle a j h hc.a1 hc.a2 hc.j2
  simp [List.replicate, go_sem, c1, c2, c3, c4, e, e2]

theorem e_Cycle_out {a t : Int} (hc : a < 1 ∨ 28 < a ∨ t < 0 ∨ 12622780800 ≤ t) (h : Heap) : acall mach n_calendar_Cycle [.int .i64 a, .int .i64 t] h = some (.ret (.agg [.int .i64 0, .int .i64 0]) h) := by
  refine acall_fn rfl (af := a_calendar_Cycle) rfl rfl ?_
  by_cases c1 : a < 1
  · simp [List.replicate, go_sem, c1]
  by_cases c2 : 28 < a
  · simp [List.replicate, go_sem, c1, c2]
  by_cases c3 : t < 0
  · simp [List.replicate, go_sem, c1, c2, c3]
  have c4 : 12622780800 ≤ t := by omega
  simp [List.replicate, go_sem, c1, c2, c3, c4]
end Go.Am
