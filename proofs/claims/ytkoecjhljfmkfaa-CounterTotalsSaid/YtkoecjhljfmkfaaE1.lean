/- Equations of the small functions of counters. -/
import Derived.Test.YtkoecjhljfmkfaaFt
import Derived.Test.YtkoecjhljfmkfaaPk
set_option linter.unusedSimpArgs false
namespace Go.Am
open Go Go.Pu

def cv (c : Ctr) : V := .agg [.int .i64 c.s, .int .i64 c.k, .int .i64 c.f, .int .i64 c.u, .int .i64 c.p]

theorem e_ranged (c : Ctr) (h : Heap) : acall mach n_counter_ranged [cv c] h = some (.ret (.bool (rngOk c)) h) := by
  refine acall_of_run rfl (af := a_counter_ranged) rfl ?_
  unfold rngOk cv
  by_cases h1 : 0 ≤ c.u <;> by_cases h2 : c.u ≤ 1125899906842624 <;> by_cases h3 : 0 ≤ c.p <;> by_cases h4 : c.p ≤ 1125899906842624 <;>
    simp [a_counter_ranged, frame, finish, resL, resV, List.replicate, go_sem, h1, h2, h3, h4]

theorem e_within (c : Ctr) (h : Heap) : acall mach n_billingref32_within [cv c] h = some (.ret (.bool (rngOk c)) h) := by
  refine acall_of_run rfl (af := a_billingref32_within) rfl ?_
  unfold rngOk cv
  by_cases h1 : 0 ≤ c.u <;> by_cases h2 : c.u ≤ 1125899906842624 <;> by_cases h3 : 0 ≤ c.p <;> by_cases h4 : c.p ≤ 1125899906842624 <;>
    simp [a_billingref32_within, frame, finish, resL, resV, List.replicate, go_sem, h1, h2, h3, h4]

theorem e_known (k : Int) (h : Heap) : acall mach n_counter_known [.int .i64 k] h = some (.ret (.bool (k == 1 || k == 2 || k == 3 || k == 4)) h) := by
  refine acall_of_run rfl (af := a_counter_known) rfl ?_
  by_cases h1 : 1 = k
  · subst h1; simp [a_counter_known, counter_known_l1b, frame, finish, resL, resV, List.replicate, go_sem, wrap_i64]
  by_cases h2 : 2 = k
  · subst h2; simp [a_counter_known, counter_known_l1b, frame, finish, resL, resV, List.replicate, go_sem, wrap_i64]
  by_cases h3 : 3 = k
  · subst h3; simp [a_counter_known, counter_known_l1b, frame, finish, resL, resV, List.replicate, go_sem, wrap_i64]
  by_cases h4 : 4 = k
  · subst h4; simp [a_counter_known, counter_known_l1b, frame, finish, resL, resV, List.replicate, go_sem, wrap_i64]
  simp [a_counter_known, counter_known_l1b, frame, finish, resL, resV, List.replicate, go_sem, wrap_i64, h1, h2, h3, h4, Ne.symm h1, Ne.symm h2, Ne.symm h3, Ne.symm h4]

theorem e_sign (a b : Int) (h : Heap) : acall mach n_billingref32_sign [.int .i64 a, .int .i64 b] h = some (.ret (.int .i64 (sgn a b)) h) := by
  refine acall_of_run rfl (af := a_billingref32_sign) rfl ?_
  unfold sgn
  by_cases h1 : a < b <;> by_cases h2 : b < a <;> simp [a_billingref32_sign, frame, finish, resL, resV, List.replicate, go_sem, h1, h2]

theorem e_order (a b : Ctr) (h : Heap) : acall mach n_billingref32_order [cv a, cv b] h = some (.ret (.int .i64 (ord a b)) h) := by
  refine acall_of_run rfl (af := a_billingref32_order) rfl ?_
  unfold ord cv
  by_cases h1 : a.s = b.s <;> by_cases h2 : a.k = b.k <;> simp [a_billingref32_order, frame, finish, resL, resV, List.replicate, go_sem, h1, h2, e_sign]

theorem e_keyed (c : Ctr) (h : Heap) : acall mach n_billingref32_keyed [cv c] h = some (.ret (.bool (keyOk c)) h) := by
  refine acall_of_run rfl (af := a_billingref32_keyed) rfl ?_
  unfold keyOk cv
  by_cases h1 : 1 ≤ c.s
  rotate_left
  · simp [a_billingref32_keyed, frame, finish, resL, resV, List.replicate, go_sem, h1]
  by_cases h2 : c.s ≤ 9999
  rotate_left
  · simp [a_billingref32_keyed, frame, finish, resL, resV, List.replicate, go_sem, h1, h2]
  by_cases h3 : 1 ≤ c.k
  rotate_left
  · simp [a_billingref32_keyed, frame, finish, resL, resV, List.replicate, go_sem, h1, h2, h3]
  by_cases h4 : c.k < 5
  rotate_left
  · simp [a_billingref32_keyed, frame, finish, resL, resV, List.replicate, go_sem, h1, h2, h3, h4]
  by_cases h5 : 0 ≤ c.f
  rotate_left
  · simp [a_billingref32_keyed, frame, finish, resL, resV, List.replicate, go_sem, h1, h2, h3, h4, h5]
  by_cases h6 : c.f < 12622780800 <;> simp [a_billingref32_keyed, frame, finish, resL, resV, List.replicate, go_sem, h1, h2, h3, h4, h5, h6]

theorem known_eq (k : Int) : (k == 1 || k == 2 || k == 3 || k == 4) = (decide (1 ≤ k) && decide (k < 5)) := by
  rw [Bool.eq_iff_iff]
  simp only [Bool.or_eq_true, beq_iff_eq, Bool.and_eq_true, decide_eq_true_eq]
  omega

theorem e_permitted (c : Ctr) (h : Heap) : acall mach n_counter_permitted [cv c] h = some (.ret (.bool (keyOk c)) h) := by
  refine acall_of_run rfl (af := a_counter_permitted) rfl ?_
  unfold keyOk cv
  by_cases h1 : 1 ≤ c.s
  rotate_left
  · simp [a_counter_permitted, frame, finish, resL, resV, List.replicate, go_sem, h1]
  by_cases h2 : c.s ≤ 9999
  rotate_left
  · simp [a_counter_permitted, frame, finish, resL, resV, List.replicate, go_sem, h1, h2]
  have e := e_known c.k
  rw [known_eq] at e
  cases h3 : (decide (1 ≤ c.k) && decide (c.k < 5)) with
  | false =>
    rw [h3] at e
    simp [a_counter_permitted, frame, finish, resL, resV, List.replicate, go_sem, h1, h2, e, h3]
  | true =>
    rw [h3] at e
    by_cases h5 : 0 ≤ c.f
    rotate_left
    · simp [a_counter_permitted, frame, finish, resL, resV, List.replicate, go_sem, h1, h2, e, h3, h5]
    by_cases h6 : c.f < 12622780800 <;> simp [a_counter_permitted, frame, finish, resL, resV, List.replicate, go_sem, h1, h2, e, h3, h5, h6]

theorem e_compare (a b : Ctr) (h : Heap) : acall mach n_counter_compare [cv a, cv b] h = some (.ret (.int .i64 (ord a b)) h) := by
  refine acall_of_run rfl (af := a_counter_compare) rfl ?_
  unfold ord cv sgn
  by_cases h1 : a.s < b.s
  · have : ¬ a.s = b.s := by omega
    simp [a_counter_compare, counter_compare_l1b, frame, finish, resL, resV, List.replicate, go_sem, wrap_i64, h1, this]
  by_cases h2 : b.s < a.s
  · have : ¬ a.s = b.s := by omega
    simp [a_counter_compare, counter_compare_l1b, frame, finish, resL, resV, List.replicate, go_sem, wrap_i64, h1, h2, this]
  have h0 : a.s = b.s := by omega
  by_cases h3 : a.k < b.k
  · have : ¬ a.k = b.k := by omega
    simp [a_counter_compare, counter_compare_l1b, frame, finish, resL, resV, List.replicate, go_sem, wrap_i64, h0, h3, this]
  by_cases h4 : b.k < a.k
  · have : ¬ a.k = b.k := by omega
    simp [a_counter_compare, counter_compare_l1b, frame, finish, resL, resV, List.replicate, go_sem, wrap_i64, h0, h3, h4, this]
  have h00 : a.k = b.k := by omega
  by_cases h5 : a.f < b.f
  · simp [a_counter_compare, counter_compare_l1b, frame, finish, resL, resV, List.replicate, go_sem, wrap_i64, h0, h00, h5]
  by_cases h6 : b.f < a.f <;> simp [a_counter_compare, counter_compare_l1b, frame, finish, resL, resV, List.replicate, go_sem, wrap_i64, h0, h00, h5, h6]
end Go.Am
