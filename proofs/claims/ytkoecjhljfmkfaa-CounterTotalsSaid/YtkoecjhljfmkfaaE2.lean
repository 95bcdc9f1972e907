/- Equations of the loops over lists of counters: Get, Drop, Same, Check. -/
import Derived.Test.YtkoecjhljfmkfaaE1
import Derived.Test.YtkoecjhljfmkfaaAm29
set_option linter.unusedSimpArgs false
namespace Go.Am
open Go Go.Pu

theorem ctr_eta (c : Ctr) : (Ctr.mk c.s c.k c.f c.u c.p) = c := rfl
theorem e_compare5 (s k f u p s' k' f' u' p' : Int) (h : Heap) : acall mach n_counter_compare [.agg [.int .i64 s, .int .i64 k, .int .i64 f, .int .i64 u, .int .i64 p], .agg [.int .i64 s', .int .i64 k', .int .i64 f', .int .i64 u', .int .i64 p']] h = some (.ret (.int .i64 (ord ⟨s, k, f, u, p⟩ ⟨s', k', f', u', p'⟩)) h) := e_compare ⟨s, k, f, u, p⟩ ⟨s', k', f', u', p'⟩ h
theorem e_order5 (s k f u p s' k' f' u' p' : Int) (h : Heap) : acall mach n_billingref32_order [.agg [.int .i64 s, .int .i64 k, .int .i64 f, .int .i64 u, .int .i64 p], .agg [.int .i64 s', .int .i64 k', .int .i64 f', .int .i64 u', .int .i64 p']] h = some (.ret (.int .i64 (ord ⟨s, k, f, u, p⟩ ⟨s', k', f', u', p'⟩)) h) := e_order ⟨s, k, f, u, p⟩ ⟨s', k', f', u', p'⟩ h
theorem e_permitted5 (s k f u p : Int) (h : Heap) : acall mach n_counter_permitted [.agg [.int .i64 s, .int .i64 k, .int .i64 f, .int .i64 u, .int .i64 p]] h = some (.ret (.bool (keyOk ⟨s, k, f, u, p⟩)) h) := e_permitted ⟨s, k, f, u, p⟩ h
theorem e_keyed5 (s k f u p : Int) (h : Heap) : acall mach n_billingref32_keyed [.agg [.int .i64 s, .int .i64 k, .int .i64 f, .int .i64 u, .int .i64 p]] h = some (.ret (.bool (keyOk ⟨s, k, f, u, p⟩)) h) := e_keyed ⟨s, k, f, u, p⟩ h
theorem e_ranged5 (s k f u p : Int) (h : Heap) : acall mach n_counter_ranged [.agg [.int .i64 s, .int .i64 k, .int .i64 f, .int .i64 u, .int .i64 p]] h = some (.ret (.bool (rngOk ⟨s, k, f, u, p⟩)) h) := e_ranged ⟨s, k, f, u, p⟩ h
theorem e_within5 (s k f u p : Int) (h : Heap) : acall mach n_billingref32_within [.agg [.int .i64 s, .int .i64 k, .int .i64 f, .int .i64 u, .int .i64 p]] h = some (.ret (.bool (rngOk ⟨s, k, f, u, p⟩)) h) := e_within ⟨s, k, f, u, p⟩ h

theorem wrap_succ {i : Nat} (h : i < 4611686018427387904) : IntKind.wrap .i64 ((i : Int) + 1) = (i : Int) + 1 := wrap_i64 (by omega)

theorem l_get (l : List Ctr) (q : Ctr) (h h' : Heap) (n0 : Nat) (k : List It) (hl : l.length ≤ 1000000)
    (hk : Run mach k (.exit 0) ⟨(.sl false 5 (l.map cv) :: .undef :: .undef :: .undef :: .undef :: .undef :: .undef :: .undef :: .box [.int .i64 0, .int .i64 0, .int .i64 0, .int .i64 0, .int .i64 0] :: .box (cv q).cells :: .undef :: .undef :: .undef :: .undef :: .undef :: .undef :: .sl false 5 (l.map cv) :: .int .i64 l.length :: .int .i64 l.length :: .bool false :: .undef :: .undef :: .undef :: .undef :: .undef :: .undef :: .undef :: .undef :: .undef :: []), h⟩ (FinQ [.cell 8 (some 5)] n0 (.ret (cv q) h')))
    (hh : h.take n0 = h') : ∀ (n i : Nat), i + n = l.length →
    Run mach (.c counter_Get_l1b :: .lp counter_Get_l1 :: k) .norm ⟨(.sl false 5 (l.map cv) :: .undef :: .undef :: .undef :: .undef :: .undef :: .undef :: .undef :: .box [.int .i64 0, .int .i64 0, .int .i64 0, .int .i64 0, .int .i64 0] :: .box (cv q).cells :: .undef :: .undef :: .undef :: .undef :: .undef :: .undef :: .sl false 5 (l.map cv) :: .int .i64 l.length :: .int .i64 i :: .undef :: .undef :: .undef :: .undef :: .undef :: .undef :: .undef :: .undef :: .undef :: .undef :: []), h⟩ (FinQ [.cell 8 (some 5)] n0 (.ret (cv (getC (l.drop i) q)) h'))
  | 0, i, hi => by
    obtain rfl : i = l.length := by omega
    unfold counter_Get_l1b
    simp [go_sem, getC]
    exact hk
  | n + 1, i, hi => by
    have hil : i < l.length := by omega
    have ih := l_get l q h h' n0 k hl hk hh n (i + 1) (by omega)
    rw [List.drop_eq_getElem_cons hil, getC]
    unfold counter_Get_l1b
    by_cases hq : ord l[i] q = 0
    · simp [go_sem, hil, e_compare5, ctr_eta, hq, hh, cv]
    · simp [go_sem, hil, e_compare5, ctr_eta, hq, wrap_succ (show i < 4611686018427387904 by omega), cv]
      exact ih

theorem e_Get (l : List Ctr) (s k f : Int) (h : Heap) (hl : l.length ≤ 1000000) : acall mach n_counter_Get [.sl false 5 (l.map cv), .int .i64 s, .int .i64 k, .int .i64 f] h = some (.ret (cv (getC l ⟨s, k, f, 0, 0⟩)) h) := by
  refine acall_fn rfl (af := a_counter_Get) rfl rfl ?_
  simp [List.replicate, go_sem]
  refine l_get l ⟨s, k, f, 0, 0⟩ h h _ _ hl ?_ (by simp) l.length 0 (Nat.zero_add _)
  simp [go_sem, cv]

theorem l_rget (l : List Ctr) (q : Ctr) (h h' : Heap) (n0 : Nat) (k : List It) (hl : l.length ≤ 1000000)
    (hk : Run mach k (.exit 0) ⟨(.sl false 5 (l.map cv) :: .undef :: .undef :: .undef :: .undef :: .undef :: .undef :: .undef :: .box [.int .i64 0, .int .i64 0, .int .i64 0, .int .i64 0, .int .i64 0] :: .box (cv q).cells :: .int .i64 l.length :: .undef :: .undef :: .undef :: .undef :: .int .i64 l.length :: .sl false 5 (l.map cv) :: .int .i64 l.length :: .bool false :: .undef :: .undef :: .undef :: .undef :: .undef :: .undef :: .undef :: .undef :: .undef :: .undef :: .undef :: .undef :: .undef :: .undef :: []), h⟩ (FinQ [.cell 8 (some 5)] n0 (.ret (cv q) h')))
    (hh : h.take n0 = h') : ∀ (n i : Nat), i + n = l.length →
    Run mach (.c billingref32_Get_l1b :: .lp billingref32_Get_l1 :: k) .norm ⟨(.sl false 5 (l.map cv) :: .undef :: .undef :: .undef :: .undef :: .undef :: .undef :: .undef :: .box [.int .i64 0, .int .i64 0, .int .i64 0, .int .i64 0, .int .i64 0] :: .box (cv q).cells :: .int .i64 i :: .undef :: .undef :: .undef :: .undef :: .undef :: .undef :: .undef :: .undef :: .undef :: .undef :: .undef :: .undef :: .undef :: .undef :: .undef :: .undef :: .undef :: .undef :: .undef :: .undef :: .undef :: .undef :: []), h⟩ (FinQ [.cell 8 (some 5)] n0 (.ret (cv (getC (l.drop i) q)) h'))
  | 0, i, hi => by
    obtain rfl : i = l.length := by omega
    unfold billingref32_Get_l1b
    simp [go_sem, getC]
    exact hk
  | n + 1, i, hi => by
    have hil : i < l.length := by omega
    have ih := l_rget l q h h' n0 k hl hk hh n (i + 1) (by omega)
    rw [List.drop_eq_getElem_cons hil, getC]
    unfold billingref32_Get_l1b
    by_cases hq : ord l[i] q = 0
    · simp [go_sem, hil, e_order5, ctr_eta, hq, hh, cv]
    · simp [go_sem, hil, e_order5, ctr_eta, hq, wrap_succ (show i < 4611686018427387904 by omega), cv]
      exact ih

theorem e_rGet (l : List Ctr) (s k f : Int) (h : Heap) (hl : l.length ≤ 1000000) : acall mach n_billingref32_Get [.sl false 5 (l.map cv), .int .i64 s, .int .i64 k, .int .i64 f] h = some (.ret (cv (getC l ⟨s, k, f, 0, 0⟩)) h) := by
  refine acall_fn rfl (af := a_billingref32_Get) rfl rfl ?_
  simp [List.replicate, go_sem]
  refine l_rget l ⟨s, k, f, 0, 0⟩ h h _ _ hl ?_ (by simp) l.length 0 (Nat.zero_add _)
  simp [go_sem, cv]

def dropP (b : Int) (l : List Ctr) : List Ctr := l.filter (fun c => decide (b ≤ c.f))

theorem l_drop (l : List Ctr) (b : Int) (h h' : Heap) (n0 : Nat) (k : List It) (r : V) (hl : l.length ≤ 1000000)
    (hk : Run mach k (.exit 0) ⟨(.sl false 5 (l.map cv) :: .int .i64 b :: .undef :: .undef :: .undef :: .sl true 5 ((dropP b l).map cv) :: .undef :: .undef :: .sl false 5 (l.map cv) :: .int .i64 l.length :: .int .i64 l.length :: .bool false :: .undef :: .undef :: .undef :: .undef :: .undef :: .undef :: .undef :: .undef :: .undef :: .undef :: .undef :: .undef :: []), h⟩ (FinQ [.tmp 4] n0 (.ret r h'))) :
    ∀ (n i : Nat) (acc : List Ctr), i + n = l.length → acc.length ≤ i → acc ++ dropP b (l.drop i) = dropP b l →
    Run mach (.c counter_Drop_l1b :: .lp counter_Drop_l1 :: k) .norm ⟨(.sl false 5 (l.map cv) :: .int .i64 b :: .undef :: .undef :: .undef :: .sl true 5 (acc.map cv) :: .undef :: .undef :: .sl false 5 (l.map cv) :: .int .i64 l.length :: .int .i64 i :: .undef :: .undef :: .undef :: .undef :: .undef :: .undef :: .undef :: .undef :: .undef :: .undef :: .undef :: .undef :: .undef :: []), h⟩ (FinQ [.tmp 4] n0 (.ret r h'))
  | 0, i, acc, hi, ha, he => by
    obtain rfl : i = l.length := by omega
    have : acc = dropP b l := by rw [← he]; simp [dropP]
    subst this
    unfold counter_Drop_l1b
    simp [go_sem]
    exact hk
  | n + 1, i, acc, hi, ha, he => by
    have hil : i < l.length := by omega
    rw [List.drop_eq_getElem_cons hil] at he
    simp only [dropP, List.filter_cons] at he
    unfold counter_Drop_l1b
    by_cases hq : b ≤ l[i].f
    · have ih := l_drop l b h h' n0 k r hl hk n (i + 1) (acc ++ [l[i]]) (by omega) (by simp; omega) (by simpa [dropP, hq] using he)
      simp only [List.map_append, List.map_cons, List.map_nil, cv] at ih
      simp [go_sem, hil, hq, wrap_succ (show i < 4611686018427387904 by omega), cv]
      exact ⟨by omega, ih⟩
    · have ih := l_drop l b h h' n0 k r hl hk n (i + 1) acc (by omega) (by omega) (by simpa [dropP, hq] using he)
      simp [go_sem, hil, hq, wrap_succ (show i < 4611686018427387904 by omega), cv]
      exact ih

theorem e_Drop (l : List Ctr) (b : Int) (h : Heap) (hl : l.length ≤ 1000000) : acall mach n_counter_Drop [.sl false 5 (l.map cv), .int .i64 b] h = some (.ret (.sl true 5 ((dropP b l).map cv)) h) := by
  refine acall_fn rfl (af := a_counter_Drop) rfl rfl ?_
  simp [List.replicate, go_sem]
  refine l_drop l b h h _ _ _ hl ?_ l.length 0 [] (Nat.zero_add _) (Nat.le_refl _) rfl
  simp [go_sem]

theorem l_rdrop (l : List Ctr) (b : Int) (h h' : Heap) (n0 : Nat) (k : List It) (r : V) (hl : l.length ≤ 1000000)
    (hk : Run mach k (.exit 0) ⟨(.sl false 5 (l.map cv) :: .int .i64 b :: .undef :: .undef :: .undef :: .sl true 5 ((dropP b l).map cv) :: .int .i64 l.length :: .int .i64 l.length :: .sl false 5 (l.map cv) :: .int .i64 l.length :: .bool false :: .undef :: .undef :: .undef :: .undef :: .undef :: .undef :: .undef :: .undef :: .undef :: .undef :: .undef :: .undef :: .undef :: .undef :: .undef :: .undef :: .undef :: []), h⟩ (FinQ [.tmp 4] n0 (.ret r h'))) :
    ∀ (n i : Nat) (acc : List Ctr), i + n = l.length → acc.length ≤ i → acc ++ dropP b (l.drop i) = dropP b l →
    Run mach (.c billingref32_Drop_l1b :: .lp billingref32_Drop_l1 :: k) .norm ⟨(.sl false 5 (l.map cv) :: .int .i64 b :: .undef :: .undef :: .undef :: .sl true 5 (acc.map cv) :: .int .i64 i :: .undef :: .undef :: .undef :: .undef :: .undef :: .undef :: .undef :: .undef :: .undef :: .undef :: .undef :: .undef :: .undef :: .undef :: .undef :: .undef :: .undef :: .undef :: .undef :: .undef :: .undef :: []), h⟩ (FinQ [.tmp 4] n0 (.ret r h'))
  | 0, i, acc, hi, ha, he => by
    obtain rfl : i = l.length := by omega
    have : acc = dropP b l := by rw [← he]; simp [dropP]
    subst this
    unfold billingref32_Drop_l1b
    simp [go_sem]
    exact hk
  | n + 1, i, acc, hi, ha, he => by
    have hil : i < l.length := by omega
    rw [List.drop_eq_getElem_cons hil] at he
    simp only [dropP, List.filter_cons] at he
    unfold billingref32_Drop_l1b
    by_cases hq : b ≤ l[i].f
    · have ih := l_rdrop l b h h' n0 k r hl hk n (i + 1) (acc ++ [l[i]]) (by omega) (by simp; omega) (by simpa [dropP, hq] using he)
      simp only [List.map_append, List.map_cons, List.map_nil, cv] at ih
      simp [go_sem, hil, hq, wrap_succ (show i < 4611686018427387904 by omega), cv]
      exact ⟨by omega, ih⟩
    · have ih := l_rdrop l b h h' n0 k r hl hk n (i + 1) acc (by omega) (by omega) (by simpa [dropP, hq] using he)
      simp [go_sem, hil, hq, wrap_succ (show i < 4611686018427387904 by omega), cv]
      exact ih

theorem e_rDrop (l : List Ctr) (b : Int) (h : Heap) (hl : l.length ≤ 1000000) : acall mach n_billingref32_Drop [.sl false 5 (l.map cv), .int .i64 b] h = some (.ret (.sl true 5 ((dropP b l).map cv)) h) := by
  refine acall_fn rfl (af := a_billingref32_Drop) rfl rfl ?_
  simp [List.replicate, go_sem]
  refine l_rdrop l b h h _ _ _ hl ?_ l.length 0 [] (Nat.zero_add _) (Nat.le_refl _) rfl
  simp [go_sem]

theorem l_same (l m : List Ctr) (h h' : Heap) (n0 : Nat) (k : List It) (hl : l.length ≤ 1000000) (hm : l.length = m.length)
    (hk : Run mach k (.exit 0) ⟨(.sl false 5 (l.map cv) :: .sl false 5 (m.map cv) :: .undef :: .undef :: .undef :: .int .i64 l.length :: .undef :: .undef :: .undef :: .undef :: .undef :: .int .i64 l.length :: .sl false 5 (l.map cv) :: .int .i64 l.length :: .bool false :: .undef :: .undef :: .undef :: .undef :: .undef :: .undef :: .undef :: .undef :: .undef :: .undef :: .undef :: []), h⟩ (FinQ [.tmp 4] n0 (.ret (.bool true) h')))
    (hh : h.take n0 = h') : ∀ (n i : Nat), i + n = l.length →
    Run mach (.c billingref32_Same_l1b :: .lp billingref32_Same_l1 :: k) .norm ⟨(.sl false 5 (l.map cv) :: .sl false 5 (m.map cv) :: .undef :: .undef :: .undef :: .int .i64 i :: .undef :: .undef :: .undef :: .undef :: .undef :: .undef :: .undef :: .undef :: .undef :: .undef :: .undef :: .undef :: .undef :: .undef :: .undef :: .undef :: .undef :: .undef :: .undef :: .undef :: []), h⟩ (FinQ [.tmp 4] n0 (.ret (.bool (l.drop i == m.drop i)) h'))
  | 0, i, hi => by
    obtain rfl : i = l.length := by omega
    unfold billingref32_Same_l1b
    have e1 : l.drop l.length = [] := by simp
    have e2 : m.drop l.length = [] := by rw [hm]; simp
    rw [e1, e2]
    simp [go_sem]
    exact hk
  | n + 1, i, hi => by
    have hil : i < l.length := by omega
    have him : i < m.length := by omega
    have ih := l_same l m h h' n0 k hl hm hk hh n (i + 1) (by omega)
    rw [List.drop_eq_getElem_cons hil, List.drop_eq_getElem_cons him]
    unfold billingref32_Same_l1b
    by_cases hq : l[i] = m[i]
    · have e : (l[i] :: l.drop (i + 1) == m[i] :: m.drop (i + 1)) = (l.drop (i + 1) == m.drop (i + 1)) := by rw [List.cons_beq_cons, hq, beq_self_eq_true, Bool.true_and]
      rw [e]
      simp [go_sem, hil, him, hq, eqL, eq1, wrap_succ (show i < 4611686018427387904 by omega), cv]
      exact ih
    · have e : (l[i] :: l.drop (i + 1) == m[i] :: m.drop (i + 1)) = false := by rw [List.cons_beq_cons, beq_false_of_ne hq, Bool.false_and]
      rw [e]
      have hne : l[i].s = m[i].s → l[i].k = m[i].k → l[i].f = m[i].f → l[i].u = m[i].u → ¬ l[i].p = m[i].p := by
        intro h1 h2 h3 h4 h5
        exact hq (ctr_ext ⟨h1, h2, h3⟩ (by simp [val, h4, h5]))
      simp [go_sem, hil, him, eqL, eq1, hh, cv]
      exact fun h1 h2 h3 h4 h5 => absurd h5 (hne h1 h2 h3 h4)

theorem e_Same (o1 o2 : Bool) (l m : List Ctr) (h : Heap) (hl : l.length ≤ 1000000) : acall mach n_billingref32_Same [.sl o1 5 (l.map cv), .sl o2 5 (m.map cv)] h = some (.ret (.bool (l == m)) h) := by
  refine acall_fn rfl (af := a_billingref32_Same) rfl rfl ?_
  by_cases hm : l.length = m.length
  · have H : ∀ k, Run mach k (.exit 0) ⟨(.sl false 5 (l.map cv) :: .sl false 5 (m.map cv) :: .undef :: .undef :: .undef :: .int .i64 l.length :: .undef :: .undef :: .undef :: .undef :: .undef :: .int .i64 l.length :: .sl false 5 (l.map cv) :: .int .i64 l.length :: .bool false :: .undef :: .undef :: .undef :: .undef :: .undef :: .undef :: .undef :: .undef :: .undef :: .undef :: .undef :: []), h⟩ (FinQ [.tmp 4] h.length (.ret (.bool true) h)) → Run mach (.c billingref32_Same_l1b :: .lp billingref32_Same_l1 :: k) .norm ⟨(.sl false 5 (l.map cv) :: .sl false 5 (m.map cv) :: .undef :: .undef :: .undef :: .int .i64 0 :: .undef :: .undef :: .undef :: .undef :: .undef :: .undef :: .undef :: .undef :: .undef :: .undef :: .undef :: .undef :: .undef :: .undef :: .undef :: .undef :: .undef :: .undef :: .undef :: .undef :: []), h⟩ (FinQ [.tmp 4] h.length (.ret (.bool (l == m)) h)) :=
      fun k hk => l_same l m h h _ k hl hm hk (by simp) l.length 0 (Nat.zero_add _)
    cases o1 <;> cases o2 <;> simp [List.replicate, go_sem, hm] <;> (refine H _ ?_; simp [go_sem])
  · have : (l == m) = false := by
      have : l ≠ m := fun e => hm (by rw [e])
      simpa using this
    rw [this]
    have h2 : ¬ (l.length : Int) = m.length := by omega
    cases o1 <;> cases o2 <;> simp [List.replicate, go_sem, h2]
end Go.Am
