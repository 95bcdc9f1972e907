/- Equations of Check of lists of counters. -/
import Derived.Test.YtkoecjhljfmkfaaE2
set_option linter.unusedSimpArgs false
namespace Go.Am
open Go Go.Pu

def prevO (l : List Ctr) (i : Nat) : Option Ctr := if i = 0 then none else l[i - 1]?

theorem wrap_pred {i : Nat} (h : i < 4611686018427387904) : IntKind.wrap .i64 ((i : Int) - 1) = (i : Int) - 1 := wrap_i64 (by omega)

theorem l_check (l : List Ctr) (h h' : Heap) (n0 : Nat) (k : List It) (hl : l.length ≤ 1000000)
    (hk : Run mach k (.exit 0) ⟨(.sl false 5 (l.map cv) :: .undef :: .undef :: .undef :: .undef :: .sl false 5 (l.map cv) :: .int .i64 l.length :: .int .i64 l.length :: .bool false :: .undef :: .undef :: .undef :: .undef :: .undef :: .undef :: .undef :: .undef :: .undef :: .undef :: .undef :: .undef :: .undef :: .undef :: .undef :: .undef :: .undef :: .undef :: .undef :: .undef :: .undef :: .undef :: .undef :: .undef :: .undef :: .undef :: .undef :: .undef :: .undef :: .undef :: .undef :: .undef :: .undef :: .undef :: []), h⟩ (FinQ [.tmp 2] n0 (.ret (.bool true) h')))
    (hh : h.take n0 = h') : ∀ (n i : Nat), i + n = l.length →
    Run mach (.c counter_Check_l1b :: .lp counter_Check_l1 :: k) .norm ⟨(.sl false 5 (l.map cv) :: .undef :: .undef :: .undef :: .undef :: .sl false 5 (l.map cv) :: .int .i64 l.length :: .int .i64 i :: .undef :: .undef :: .undef :: .undef :: .undef :: .undef :: .undef :: .undef :: .undef :: .undef :: .undef :: .undef :: .undef :: .undef :: .undef :: .undef :: .undef :: .undef :: .undef :: .undef :: .undef :: .undef :: .undef :: .undef :: .undef :: .undef :: .undef :: .undef :: .undef :: .undef :: .undef :: .undef :: .undef :: .undef :: .undef :: []), h⟩ (FinQ [.tmp 2] n0 (.ret (.bool (canF (prevO l i) (l.drop i))) h'))
  | 0, i, hi => by
    obtain rfl : i = l.length := by omega
    unfold counter_Check_l1b
    simp [go_sem, canF]
    exact hk
  | n + 1, i, hi => by
    have hil : i < l.length := by omega
    have ih := l_check l h h' n0 k hl hk hh n (i + 1) (by omega)
    have hp : prevO l (i + 1) = some l[i] := by simp [prevO, hil]
    rw [hp] at ih
    rw [List.drop_eq_getElem_cons hil, canF_cons]
    unfold counter_Check_l1b okc nul
    by_cases h1 : keyOk l[i] = true
    rotate_left
    · simp [go_sem, hil, e_permitted5, e_ranged5, ctr_eta, h1, hh, cv]
    by_cases h2 : rngOk l[i] = true
    rotate_left
    · simp [go_sem, hil, e_permitted5, e_ranged5, ctr_eta, h1, h2, hh, cv]
    have bt : ∀ {a b : Int}, a = b → (a == b) = true := fun h => beq_iff_eq.2 h
    have bf : ∀ {a b : Int}, ¬ a = b → (a == b) = false := fun h => beq_false_of_ne h
    by_cases h3 : l[i].u = 0 ∧ l[i].p = 0
    · have hu : (decide (l[i].u = 0) && decide (l[i].p = 0)) = true := by simpa using h3
      simp only [hu, Bool.not_true, Bool.and_false, Bool.false_and]
      simp [go_sem, hil, e_permitted5, e_ranged5, ctr_eta, h1, h2, bt h3.1, bt h3.2, hh, cv]
    have hu : (decide (l[i].u = 0) && decide (l[i].p = 0)) = false := by simpa using h3
    by_cases h0 : i = 0
    · have e : prevO l i = none := by rw [h0]; rfl
      have e4 : ¬ 0 < i := by omega
      simp only [e, h1, h2, hu, Bool.not_false, Bool.and_true, Bool.true_and]
      by_cases h4 : l[i].u = 0
      · have h5 : ¬ l[i].p = 0 := fun h => h3 ⟨h4, h⟩
        simp [go_sem, hil, e_permitted5, e_ranged5, ctr_eta, h1, h2, bt h4, bf h5, hh, cv, e4, wrap_succ (show i < 4611686018427387904 by omega)]
        exact ih
      · simp [go_sem, hil, e_permitted5, e_ranged5, ctr_eta, h1, h2, bf h4, hh, cv, e4, wrap_succ (show i < 4611686018427387904 by omega)]
        exact ih
    have e : prevO l i = some l[i - 1] := by
      unfold prevO
      rw [if_neg h0, List.getElem?_eq_getElem (by omega)]
    have hi1 : i - 1 < l.length := by omega
    have e1 : ((i : Int) - 1).toNat = i - 1 := by omega
    have e2 : (1 : Int) ≤ (i : Int) := by omega
    have e3 : (i : Int) - 1 < l.length := by omega
    have e4 : 0 < i := by omega
    simp only [e, h1, h2, hu, Bool.not_false, Bool.and_true, Bool.true_and]
    by_cases h6 : ord l[i - 1] l[i] < 0
    · have h7 : ¬ 0 ≤ ord l[i - 1] l[i] := by omega
      simp only [h6, decide_true, Bool.true_and]
      by_cases h4 : l[i].u = 0
      · have h5 : ¬ l[i].p = 0 := fun h => h3 ⟨h4, h⟩
        simp [go_sem, hil, hi1, e1, e2, e3, e4, h7, e_compare5, wrap_pred (show i < 4611686018427387904 by omega), wrap_succ (show i < 4611686018427387904 by omega), e_permitted5, e_ranged5, ctr_eta, h1, h2, bt h4, bf h5, hh, cv]
        exact ih
      · simp [go_sem, hil, hi1, e1, e2, e3, e4, h7, e_compare5, wrap_pred (show i < 4611686018427387904 by omega), wrap_succ (show i < 4611686018427387904 by omega), e_permitted5, e_ranged5, ctr_eta, h1, h2, bf h4, hh, cv]
        exact ih
    · have h7 : 0 ≤ ord l[i - 1] l[i] := by omega
      simp only [h6, decide_false, Bool.false_and]
      by_cases h4 : l[i].u = 0
      · have h5 : ¬ l[i].p = 0 := fun h => h3 ⟨h4, h⟩
        simp [go_sem, hil, hi1, e1, e2, e3, e4, h7, e_compare5, wrap_pred (show i < 4611686018427387904 by omega), e_permitted5, e_ranged5, ctr_eta, h1, h2, bt h4, bf h5, hh, cv]
      · simp [go_sem, hil, hi1, e1, e2, e3, e4, h7, e_compare5, wrap_pred (show i < 4611686018427387904 by omega), e_permitted5, e_ranged5, ctr_eta, h1, h2, bf h4, hh, cv]
theorem e_Check (l : List Ctr) (h : Heap) (hl : l.length ≤ 1000000) : acall mach n_counter_Check [.sl false 5 (l.map cv)] h = some (.ret (.bool (chk l)) h) := by
  refine acall_fn rfl (af := a_counter_Check) rfl rfl ?_
  simp [List.replicate, go_sem]
  refine l_check l h h _ _ hl ?_ (by simp) l.length 0 (Nat.zero_add _)
  simp [go_sem]

theorem l_rcheck (l : List Ctr) (h h' : Heap) (n0 : Nat) (k : List It) (hl : l.length ≤ 1000000)
    (hk : Run mach k (.exit 0) ⟨(.sl false 5 (l.map cv) :: .undef :: .undef :: .int .i64 l.length :: .undef :: .int .i64 l.length :: .sl false 5 (l.map cv) :: .int .i64 l.length :: .bool false :: .undef :: .undef :: .undef :: .undef :: .undef :: .undef :: .undef :: .undef :: .undef :: .undef :: .undef :: .undef :: .undef :: .undef :: .undef :: .undef :: .undef :: .undef :: .undef :: .undef :: .undef :: .undef :: .undef :: .undef :: .undef :: .undef :: .undef :: .undef :: .undef :: .undef :: .undef :: .undef :: .undef :: .undef :: .undef :: .undef :: .undef :: .undef :: []), h⟩ (FinQ [.tmp 2] n0 (.ret (.bool true) h')))
    (hh : h.take n0 = h') : ∀ (n i : Nat), i + n = l.length →
    Run mach (.c billingref32_Check_l1b :: .lp billingref32_Check_l1 :: k) .norm ⟨(.sl false 5 (l.map cv) :: .undef :: .undef :: .int .i64 i :: .undef :: .undef :: .undef :: .undef :: .undef :: .undef :: .undef :: .undef :: .undef :: .undef :: .undef :: .undef :: .undef :: .undef :: .undef :: .undef :: .undef :: .undef :: .undef :: .undef :: .undef :: .undef :: .undef :: .undef :: .undef :: .undef :: .undef :: .undef :: .undef :: .undef :: .undef :: .undef :: .undef :: .undef :: .undef :: .undef :: .undef :: .undef :: .undef :: .undef :: .undef :: .undef :: .undef :: []), h⟩ (FinQ [.tmp 2] n0 (.ret (.bool (canF (prevO l i) (l.drop i))) h'))
  | 0, i, hi => by
    obtain rfl : i = l.length := by omega
    unfold billingref32_Check_l1b
    simp [go_sem, canF]
    exact hk
  | n + 1, i, hi => by
    have hil : i < l.length := by omega
    have ih := l_rcheck l h h' n0 k hl hk hh n (i + 1) (by omega)
    have hp : prevO l (i + 1) = some l[i] := by simp [prevO, hil]
    rw [hp] at ih
    rw [List.drop_eq_getElem_cons hil, canF_cons]
    unfold billingref32_Check_l1b okc nul
    by_cases h1 : keyOk l[i] = true
    rotate_left
    · simp [go_sem, hil, e_keyed5, e_within5, ctr_eta, h1, hh, cv]
    by_cases h2 : rngOk l[i] = true
    rotate_left
    · simp [go_sem, hil, e_keyed5, e_within5, ctr_eta, h1, h2, hh, cv]
    have bt : ∀ {a b : Int}, a = b → (a == b) = true := fun h => beq_iff_eq.2 h
    have bf : ∀ {a b : Int}, ¬ a = b → (a == b) = false := fun h => beq_false_of_ne h
    by_cases h3 : l[i].u = 0 ∧ l[i].p = 0
    · have hu : (decide (l[i].u = 0) && decide (l[i].p = 0)) = true := by simpa using h3
      simp only [hu, Bool.not_true, Bool.and_false, Bool.false_and]
      simp [go_sem, hil, e_keyed5, e_within5, ctr_eta, h1, h2, bt h3.1, bt h3.2, hh, cv]
    have hu : (decide (l[i].u = 0) && decide (l[i].p = 0)) = false := by simpa using h3
    by_cases h0 : i = 0
    · have e : prevO l i = none := by rw [h0]; rfl
      have e4 : ¬ 0 < i := by omega
      simp only [e, h1, h2, hu, Bool.not_false, Bool.and_true, Bool.true_and]
      by_cases h4 : l[i].u = 0
      · have h5 : ¬ l[i].p = 0 := fun h => h3 ⟨h4, h⟩
        simp [go_sem, hil, e_keyed5, e_within5, ctr_eta, h1, h2, bt h4, bf h5, hh, cv, e4, wrap_succ (show i < 4611686018427387904 by omega)]
        exact ih
      · simp [go_sem, hil, e_keyed5, e_within5, ctr_eta, h1, h2, bf h4, hh, cv, e4, wrap_succ (show i < 4611686018427387904 by omega)]
        exact ih
    have e : prevO l i = some l[i - 1] := by
      unfold prevO
      rw [if_neg h0, List.getElem?_eq_getElem (by omega)]
    have hi1 : i - 1 < l.length := by omega
    have e1 : ((i : Int) - 1).toNat = i - 1 := by omega
    have e2 : (1 : Int) ≤ (i : Int) := by omega
    have e3 : (i : Int) - 1 < l.length := by omega
    have e4 : 0 < i := by omega
    simp only [e, h1, h2, hu, Bool.not_false, Bool.and_true, Bool.true_and]
    by_cases h6 : ord l[i - 1] l[i] < 0
    · have h7 : ¬ 0 ≤ ord l[i - 1] l[i] := by omega
      simp only [h6, decide_true, Bool.true_and]
      by_cases h4 : l[i].u = 0
      · have h5 : ¬ l[i].p = 0 := fun h => h3 ⟨h4, h⟩
        simp [go_sem, hil, hi1, e1, e2, e3, e4, h7, e_order5, wrap_pred (show i < 4611686018427387904 by omega), wrap_succ (show i < 4611686018427387904 by omega), e_keyed5, e_within5, ctr_eta, h1, h2, bt h4, bf h5, hh, cv]
        exact ih
      · simp [go_sem, hil, hi1, e1, e2, e3, e4, h7, e_order5, wrap_pred (show i < 4611686018427387904 by omega), wrap_succ (show i < 4611686018427387904 by omega), e_keyed5, e_within5, ctr_eta, h1, h2, bf h4, hh, cv]
        exact ih
    · have h7 : 0 ≤ ord l[i - 1] l[i] := by omega
      simp only [h6, decide_false, Bool.false_and]
      by_cases h4 : l[i].u = 0
      · have h5 : ¬ l[i].p = 0 := fun h => h3 ⟨h4, h⟩
        simp [go_sem, hil, hi1, e1, e2, e3, e4, h7, e_order5, wrap_pred (show i < 4611686018427387904 by omega), e_keyed5, e_within5, ctr_eta, h1, h2, bt h4, bf h5, hh, cv]
      · simp [go_sem, hil, hi1, e1, e2, e3, e4, h7, e_order5, wrap_pred (show i < 4611686018427387904 by omega), e_keyed5, e_within5, ctr_eta, h1, h2, bf h4, hh, cv]
theorem e_rCheck (l : List Ctr) (h : Heap) (hl : l.length ≤ 1000000) : acall mach n_billingref32_Check [.sl false 5 (l.map cv)] h = some (.ret (.bool (chk l)) h) := by
  refine acall_fn rfl (af := a_billingref32_Check) rfl rfl ?_
  simp [List.replicate, go_sem]
  refine l_rcheck l h h _ _ hl ?_ (by simp) l.length 0 (Nat.zero_add _)
  simp [go_sem]

end Go.Am
