/- The reference's expressions: operators that bind from the left. -/
import Derived.Test.YtcjglgeamdfpmaaER3
set_option linter.unusedSimpArgs false
set_option linter.unnecessarySimpa false
set_option linter.unusedVariables false
set_option maxRecDepth 10000
namespace Go.Am
open Go Go.Pu

section
variable {n : Nat} {L : List (Tk × Nat)}

theorem okT.tail {ts : List Tk} (h : okT ts) : okT ts.tail := fun t ht => h t (List.mem_of_mem_tail ht)
theorem p_suf : ∀ k, (∀ l ts a r, pE k l ts = some (.ok a r) → ∃ d, ts = d ++ r) ∧ (∀ l a ts b r, pL k l a ts = some (.ok b r) → ∃ d, ts = d ++ r) := by
  have tl : ∀ (ts : List Tk), ∃ d, ts = d ++ ts.tail := fun ts => by
    cases ts with
    | nil => exact ⟨[], rfl⟩
    | cons t ts => exact ⟨[t], rfl⟩
  have tr : ∀ {a b c : List Tk}, (∃ d, a = d ++ b) → (∃ d, b = d ++ c) → ∃ d, a = d ++ c := by
    rintro a b c ⟨d, rfl⟩ ⟨e, rfl⟩
    exact ⟨d ++ e, by simp⟩
  intro k
  induction k with
  | zero => exact ⟨fun l ts a r h => by simp [pE] at h, fun l a ts b r h => by simp [pL] at h⟩
  | succ k ih =>
    obtain ⟨i1, i2⟩ := ih
    constructor
    · intro l ts a r h
      rw [pE_succ] at h
      split at h
      · split at h
        · rcases bindO_some h with ⟨b, q, h1, h2⟩ | ⟨m, e, h1, h2⟩
          · cases h2; exact tr (tl ts) (i1 _ _ _ _ h1)
          · cases h2
        · exact i1 _ _ _ _ h
      · split at h
        · rcases bindO_some h with ⟨b, q, h1, h2⟩ | ⟨m, e, h1, h2⟩
          · have hq := i1 _ _ _ _ h1
            split at h2
            · cases h2; exact hq
            · rcases bindO_some h2 with ⟨c, q', h3, h4⟩ | ⟨m, e, h3, h4⟩
              · cases h4; exact tr hq (tr (tl q) (i1 _ _ _ _ h3))
              · cases h4
          · cases h2
        · split at h
          · split at h
            · split at h
              · cases h; exact tl _
              · cases h
            · cases h; exact tl _
            · split at h
              · cases h; exact tl _
              · split at h
                · cases h
                · cases h; exact tl _
            · split at h
              · rcases bindO_some h with ⟨b, q, h1, h2⟩ | ⟨m, e, h1, h2⟩
                · have hq := i1 _ _ _ _ h1
                  split at h2
                  · cases h2; exact tr (tl ts) (tr hq (tl q))
                  · cases h2
                · cases h2
              · cases h
          · rcases bindO_some h with ⟨b, q, h1, h2⟩ | ⟨m, e, h1, h2⟩
            · exact tr (i1 _ _ _ _ h1) (i2 _ _ _ _ _ h2)
            · cases h2
    · intro l a ts b r h
      rw [pL_succ] at h
      split at h
      · cases h; exact ⟨[], rfl⟩
      · rcases bindO_some h with ⟨c, q, h1, h2⟩ | ⟨m, e, h1, h2⟩
        · exact tr (tr (tl ts) (i1 _ _ _ _ h1)) (i2 _ _ _ _ _ h2)
        · cases h2
theorem okT.p {k l : Nat} {ts r : List Tk} {a : PE} (h : okT ts) (hp : pE k l ts = some (.ok a r)) : okT r := by
  obtain ⟨d, rfl⟩ := (p_suf k).1 _ _ _ _ hp
  exact fun t ht => h t (List.mem_append_right _ ht)

/-- Where it fails is a rest of the list. -/
theorem p_err' : ∀ k, (∀ l ts m e, pE k l ts = some (.err m e) → At L ts → e ≠ 0 ∧ ∃ us, At L us ∧ us.length = m) ∧ (∀ l a ts m e, pL k l a ts = some (.err m e) → At L ts → e ≠ 0 ∧ ∃ us, At L us ∧ us.length = m) := by
  have here : ∀ {ts : List Tk} {m e : Nat}, some (failT (α := PE) ts 1) = some (.err m e) → At L ts → e ≠ 0 ∧ ∃ us, At L us ∧ us.length = m := fun {ts m e} h hA => by
    simp only [failT, Option.some.injEq, PR.err.injEq] at h
    exact ⟨by omega, ts, hA, h.1⟩
  intro k
  induction k with
  | zero => exact ⟨fun l ts m e h => by simp [pE] at h, fun l a ts m e h => by simp [pL] at h⟩
  | succ k ih =>
    obtain ⟨i1, i2⟩ := ih
    constructor
    · intro l ts m e h hA
      rw [pE_succ] at h
      split at h
      · split at h
        · rename_i hw
          rcases bindO_some h with ⟨b, q, h1, h2⟩ | ⟨m', e', h1, h2⟩
          · cases h2
          · cases h2; exact i1 _ _ _ _ h1 (hA.word hw)
        · exact i1 _ _ _ _ h hA
      · split at h
        · rcases bindO_some h with ⟨b, q, h1, h2⟩ | ⟨m', e', h1, h2⟩
          · have hq := (p_at k).1 _ _ _ _ h1 hA
            split at h2
            · cases h2
            · rename_i hc
              rcases bindO_some h2 with ⟨c, q', h3, h4⟩ | ⟨m', e', h3, h4⟩
              · cases h4
              · cases h4; exact i1 _ _ _ _ h3 (hq.cmp hc)
          · cases h2; exact i1 _ _ _ _ h1 hA
        · split at h
          · split at h
            · split at h
              · cases h
              · exact here h hA
            · cases h
            · split at h
              · cases h
              · split at h
                · exact here h hA
                · cases h
            · split at h
              · rename_i hw
                rcases bindO_some h with ⟨b, q, h1, h2⟩ | ⟨m', e', h1, h2⟩
                · have hq := (p_at k).1 _ _ _ _ h1 (hA.sym hw)
                  split at h2
                  · cases h2
                  · exact here h2 hq
                · cases h2; exact i1 _ _ _ _ h1 (hA.sym hw)
              · exact here h hA
          · rcases bindO_some h with ⟨b, q, h1, h2⟩ | ⟨m', e', h1, h2⟩
            · exact i2 _ _ _ _ _ h2 ((p_at k).1 _ _ _ _ h1 hA)
            · cases h2; exact i1 _ _ _ _ h1 hA
    · intro l a ts m e h hA
      rw [pL_succ] at h
      split at h
      · cases h
      · rename_i hc
        rcases bindO_some h with ⟨c, q, h1, h2⟩ | ⟨m', e', h1, h2⟩
        · exact i2 _ _ _ _ _ h2 ((p_at k).1 _ _ _ _ h1 (hA.chain hc))
        · cases h2; exact i1 _ _ _ _ h1 (hA.chain hc)
theorem p_err (k l : Nat) (ts : List Tk) (m e : Nat) (h : pE k l ts = some (.err m e)) (hA : At L ts) : e ≠ 0 ∧ ∃ us, At L us ∧ us.length = m := (p_err' k).1 l ts m e h hA

def resH (n : Nat) (L : List (Tk × Nat)) {α : Type} : PR α → Heap
  | .ok _ q => hf n L q.length 0
  | .err m e => hf n L m e
/-- A method of the reference's reader does as the plain parser, with so much fuel. -/
def EqR (n : Nat) (L : List (Tk × Nat)) (f : FuncId) (l k : Nat) : Prop := ∀ ts r, pE k l ts = some r → At L ts → okT ts →
  ∃ a, acall mach0 f [.ptr 0 0] (hf n L ts.length 0) = some (.ret (exprV a) (resH n L r)) ∧ (∀ b q, r = .ok b q → a = b) ∧ (∀ m e, r = .err m e → e ≠ 0 ∧ ∃ us, At L us ∧ us.length = m)
/-- Behind an error it does nothing. -/
def ErrR (n : Nat) (L : List (Tk × Nat)) (f : FuncId) : Prop := ∀ e us, e ≠ 0 → At L us → ∃ a, acall mach0 f [.ptr 0 0] (hf n L us.length e) = some (.ret (exprV a) (hf n L us.length e))

theorem expr_lE (a : PE) (e : Nat) (he : e ≠ 0) (us : List Tk) (hA : At L us) :
    Run mach0 (.c billingref24_Reader_expr_l1b :: .lp billingref24_Reader_expr_l1 :: .endB 0 :: .c billingref24_Reader_expr_k1 :: []) .norm ⟨(.ptr 0 0 :: .undef :: box0 :: .box (exprC a) :: .undef :: .undef :: .undef :: .undef :: .undef :: .undef :: .undef :: .undef :: .undef :: []), hf n L us.length e⟩ (FinQ [.cell 2 (some 4)] 1 (.ret (exprV a) (hf n L us.length e))) := by
  have et0 := f_acceptE (n := n) [111, 114] e he hA
  obtain ⟨op, num, text, args⟩ := a
  simp only [exprC]
  unfold billingref24_Reader_expr_l1b
  simp [go_sem, et0, billingref24_Reader_expr_k1]
  simp [go_sem, billingref24_Reader_expr_k1b, exprV]

theorem expr_lR : ∀ k, (∀ m, m < k → EqR n L n_billingref24_Reader_both 2 m) → ∀ a ts r, pL k 1 a ts = some r → At L ts → okT ts →
    ∃ b, (∀ c q, r = .ok c q → b = c) ∧ Run mach0 (.c billingref24_Reader_expr_l1b :: .lp billingref24_Reader_expr_l1 :: .endB 0 :: .c billingref24_Reader_expr_k1 :: []) .norm ⟨(.ptr 0 0 :: .undef :: box0 :: .box (exprC a) :: .undef :: .undef :: .undef :: .undef :: .undef :: .undef :: .undef :: .undef :: .undef :: []), hf n L ts.length 0⟩ (FinQ [.cell 2 (some 4)] 1 (.ret (exprV b) (resH n L r))) := by
  intro k
  induction k with
  | zero => intro _ a ts r h; simp [pL] at h
  | succ k ih =>
    intro hE a ts r h hA ho
    have ih := ih (fun m hm => hE m (by omega))
    have hE := hE k (by omega)
    have et0 := f_accept0 (n := n) [111, 114] hA
    rw [isA_word ho (by decide)] at et0
    rw [pL_succ] at h
    by_cases hw0 : isWord [111, 114] ts = true
    · have hA2 := hA.word hw0
      have ho2 := okT.tail ho
      have hc : chainOp 1 ts = some 6 := by simp [chainOp, kOr, kAnd, hw0]
      simp only [hw0, if_true] at et0
      rw [hc] at h
      simp only at h
      rcases bindO_some h with ⟨b, q, h1, h2⟩ | ⟨m, e, h1, h2⟩
      · obtain ⟨b', eb, hb, _⟩ := hE _ _ h1 hA2 ho2
        obtain rfl := hb b q rfl
        obtain ⟨c', hc', run⟩ := ih (two 6 a b') q r h2 ((p_at k).1 _ _ _ _ h1 hA2) (okT.p ho2 h1)
        refine ⟨c', hc', ?_⟩
        have e2 := fun h => f_two 6 a b' h
        obtain ⟨op, num, text, args⟩ := a
        obtain ⟨op2, num2, text2, args2⟩ := b'
        simp only [resH] at eb
        simp only [two, exprC, exprVs, exprV] at run e2 eb ⊢
        unfold billingref24_Reader_expr_l1b
        generalize ts.tail = tl at *
        simp [go_sem, et0, eb, e2]
        exact run
      · subst h2
        obtain ⟨b', eb, _, hb⟩ := hE _ _ h1 hA2 ho2
        obtain ⟨he, us, hu, hul⟩ := hb m e rfl
        subst hul
        refine ⟨two 6 a b', (fun c q hh => by cases hh), ?_⟩
        have run := expr_lE (n := n) (two 6 a b') e he us hu
        have e2 := fun h => f_two 6 a b' h
        obtain ⟨op, num, text, args⟩ := a
        obtain ⟨op2, num2, text2, args2⟩ := b'
        simp only [resH] at eb ⊢
        simp only [two, exprC, exprVs, exprV] at run e2 eb ⊢
        unfold billingref24_Reader_expr_l1b
        generalize ts.tail = tl at *
        simp [go_sem, et0, eb, e2]
        exact run
    have hw0 : isWord [111, 114] ts = false := by simpa using hw0
    simp [hw0] at et0
    have hc : chainOp 1 ts = none := by simp [chainOp, kOr, kAnd, hw0]
    rw [hc] at h
    simp only [Option.some.injEq] at h
    subst h
    refine ⟨a, (fun c q hh => by cases hh; rfl), ?_⟩
    obtain ⟨op, num, text, args⟩ := a
    simp only [exprC, resH]
    unfold billingref24_Reader_expr_l1b
    simp [go_sem, et0, billingref24_Reader_expr_k1]
    simp [go_sem, billingref24_Reader_expr_k1b, exprV]

theorem expr_fR (k : Nat) (hE : ∀ m, m ≤ k → EqR n L n_billingref24_Reader_both 2 m) : EqR n L n_billingref24_Reader_expr 1 (k + 1) := by
  intro ts r h hA ho
  have hpe := fun m e (hr : r = .err m e) => p_err (k + 1) 1 ts m e (hr ▸ h) hA
  rw [pE_succ, if_neg (by decide), if_neg (by decide), if_neg (by decide)] at h
  rcases bindO_some h with ⟨a, q, h1, h2⟩ | ⟨m, e, h1, h2⟩
  · obtain ⟨a', ea, ha, _⟩ := hE k (Nat.le_refl k) ts _ h1 hA ho
    obtain rfl := ha a q rfl
    obtain ⟨b, hb, run⟩ := expr_lR k (fun m hm => hE m (by omega)) a' q r h2 ((p_at k).1 _ _ _ _ h1 hA) (okT.p ho h1)
    refine ⟨b, acall_fn rfl (af := a_billingref24_Reader_expr) rfl rfl ?_, hb, hpe⟩
    obtain ⟨op, num, text, args⟩ := a'
    simp only [exprC] at run
    simp only [resH, exprV] at ea
    simp [List.replicate, go_sem, ea]
    exact run
  · subst h2
    obtain ⟨a', ea, _, ha⟩ := hE k (Nat.le_refl k) ts _ h1 hA ho
    obtain ⟨he, us, hu, hul⟩ := ha m e rfl
    subst hul
    have run := expr_lE (n := n) a' e he us hu
    refine ⟨a', acall_fn rfl (af := a_billingref24_Reader_expr) rfl rfl ?_, (fun c q hh => by cases hh), hpe⟩
    obtain ⟨op, num, text, args⟩ := a'
    simp only [exprC, exprV] at run
    simp only [resH, exprV] at ea ⊢
    simp [List.replicate, go_sem, ea]
    exact run
theorem expr_fE (hS : ErrR n L n_billingref24_Reader_both) : ErrR n L n_billingref24_Reader_expr := by
  intro e us he hA
  obtain ⟨a', ea⟩ := hS e us he hA
  have run := expr_lE (n := n) a' e he us hA
  refine ⟨a', acall_fn rfl (af := a_billingref24_Reader_expr) rfl rfl ?_⟩
  obtain ⟨op, num, text, args⟩ := a'
  simp only [exprC, exprV] at run ea ⊢
  simp [List.replicate, go_sem, ea]
  exact run

theorem both_lE (a : PE) (e : Nat) (he : e ≠ 0) (us : List Tk) (hA : At L us) :
    Run mach0 (.c billingref24_Reader_both_l1b :: .lp billingref24_Reader_both_l1 :: .endB 0 :: .c billingref24_Reader_both_k1 :: []) .norm ⟨(.ptr 0 0 :: .undef :: box0 :: .box (exprC a) :: .undef :: .undef :: .undef :: .undef :: .undef :: .undef :: .undef :: .undef :: .undef :: []), hf n L us.length e⟩ (FinQ [.cell 2 (some 4)] 1 (.ret (exprV a) (hf n L us.length e))) := by
  have et0 := f_acceptE (n := n) [97, 110, 100] e he hA
  obtain ⟨op, num, text, args⟩ := a
  simp only [exprC]
  unfold billingref24_Reader_both_l1b
  simp [go_sem, et0, billingref24_Reader_both_k1]
  simp [go_sem, billingref24_Reader_both_k1b, exprV]

theorem both_lR : ∀ k, (∀ m, m < k → EqR n L n_billingref24_Reader_negated 3 m) → ∀ a ts r, pL k 2 a ts = some r → At L ts → okT ts →
    ∃ b, (∀ c q, r = .ok c q → b = c) ∧ Run mach0 (.c billingref24_Reader_both_l1b :: .lp billingref24_Reader_both_l1 :: .endB 0 :: .c billingref24_Reader_both_k1 :: []) .norm ⟨(.ptr 0 0 :: .undef :: box0 :: .box (exprC a) :: .undef :: .undef :: .undef :: .undef :: .undef :: .undef :: .undef :: .undef :: .undef :: []), hf n L ts.length 0⟩ (FinQ [.cell 2 (some 4)] 1 (.ret (exprV b) (resH n L r))) := by
  intro k
  induction k with
  | zero => intro _ a ts r h; simp [pL] at h
  | succ k ih =>
    intro hE a ts r h hA ho
    have ih := ih (fun m hm => hE m (by omega))
    have hE := hE k (by omega)
    have et0 := f_accept0 (n := n) [97, 110, 100] hA
    rw [isA_word ho (by decide)] at et0
    rw [pL_succ] at h
    by_cases hw0 : isWord [97, 110, 100] ts = true
    · have hA2 := hA.word hw0
      have ho2 := okT.tail ho
      have hc : chainOp 2 ts = some 5 := by simp [chainOp, kOr, kAnd, hw0]
      simp only [hw0, if_true] at et0
      rw [hc] at h
      simp only at h
      rcases bindO_some h with ⟨b, q, h1, h2⟩ | ⟨m, e, h1, h2⟩
      · obtain ⟨b', eb, hb, _⟩ := hE _ _ h1 hA2 ho2
        obtain rfl := hb b q rfl
        obtain ⟨c', hc', run⟩ := ih (two 5 a b') q r h2 ((p_at k).1 _ _ _ _ h1 hA2) (okT.p ho2 h1)
        refine ⟨c', hc', ?_⟩
        have e2 := fun h => f_two 5 a b' h
        obtain ⟨op, num, text, args⟩ := a
        obtain ⟨op2, num2, text2, args2⟩ := b'
        simp only [resH] at eb
        simp only [two, exprC, exprVs, exprV] at run e2 eb ⊢
        unfold billingref24_Reader_both_l1b
        generalize ts.tail = tl at *
        simp [go_sem, et0, eb, e2]
        exact run
      · subst h2
        obtain ⟨b', eb, _, hb⟩ := hE _ _ h1 hA2 ho2
        obtain ⟨he, us, hu, hul⟩ := hb m e rfl
        subst hul
        refine ⟨two 5 a b', (fun c q hh => by cases hh), ?_⟩
        have run := both_lE (n := n) (two 5 a b') e he us hu
        have e2 := fun h => f_two 5 a b' h
        obtain ⟨op, num, text, args⟩ := a
        obtain ⟨op2, num2, text2, args2⟩ := b'
        simp only [resH] at eb ⊢
        simp only [two, exprC, exprVs, exprV] at run e2 eb ⊢
        unfold billingref24_Reader_both_l1b
        generalize ts.tail = tl at *
        simp [go_sem, et0, eb, e2]
        exact run
    have hw0 : isWord [97, 110, 100] ts = false := by simpa using hw0
    simp [hw0] at et0
    have hc : chainOp 2 ts = none := by simp [chainOp, kOr, kAnd, hw0]
    rw [hc] at h
    simp only [Option.some.injEq] at h
    subst h
    refine ⟨a, (fun c q hh => by cases hh; rfl), ?_⟩
    obtain ⟨op, num, text, args⟩ := a
    simp only [exprC, resH]
    unfold billingref24_Reader_both_l1b
    simp [go_sem, et0, billingref24_Reader_both_k1]
    simp [go_sem, billingref24_Reader_both_k1b, exprV]

theorem both_fR (k : Nat) (hE : ∀ m, m ≤ k → EqR n L n_billingref24_Reader_negated 3 m) : EqR n L n_billingref24_Reader_both 2 (k + 1) := by
  intro ts r h hA ho
  have hpe := fun m e (hr : r = .err m e) => p_err (k + 1) 2 ts m e (hr ▸ h) hA
  rw [pE_succ, if_neg (by decide), if_neg (by decide), if_neg (by decide)] at h
  rcases bindO_some h with ⟨a, q, h1, h2⟩ | ⟨m, e, h1, h2⟩
  · obtain ⟨a', ea, ha, _⟩ := hE k (Nat.le_refl k) ts _ h1 hA ho
    obtain rfl := ha a q rfl
    obtain ⟨b, hb, run⟩ := both_lR k (fun m hm => hE m (by omega)) a' q r h2 ((p_at k).1 _ _ _ _ h1 hA) (okT.p ho h1)
    refine ⟨b, acall_fn rfl (af := a_billingref24_Reader_both) rfl rfl ?_, hb, hpe⟩
    obtain ⟨op, num, text, args⟩ := a'
    simp only [exprC] at run
    simp only [resH, exprV] at ea
    simp [List.replicate, go_sem, ea]
    exact run
  · subst h2
    obtain ⟨a', ea, _, ha⟩ := hE k (Nat.le_refl k) ts _ h1 hA ho
    obtain ⟨he, us, hu, hul⟩ := ha m e rfl
    subst hul
    have run := both_lE (n := n) a' e he us hu
    refine ⟨a', acall_fn rfl (af := a_billingref24_Reader_both) rfl rfl ?_, (fun c q hh => by cases hh), hpe⟩
    obtain ⟨op, num, text, args⟩ := a'
    simp only [exprC, exprV] at run
    simp only [resH, exprV] at ea ⊢
    simp [List.replicate, go_sem, ea]
    exact run
theorem both_fE (hS : ErrR n L n_billingref24_Reader_negated) : ErrR n L n_billingref24_Reader_both := by
  intro e us he hA
  obtain ⟨a', ea⟩ := hS e us he hA
  have run := both_lE (n := n) a' e he us hA
  refine ⟨a', acall_fn rfl (af := a_billingref24_Reader_both) rfl rfl ?_⟩
  obtain ⟨op, num, text, args⟩ := a'
  simp only [exprC, exprV] at run ea ⊢
  simp [List.replicate, go_sem, ea]
  exact run

theorem sum_lE (a : PE) (e : Nat) (he : e ≠ 0) (us : List Tk) (hA : At L us) :
    Run mach0 (.c billingref24_Reader_sum_l1b :: .lp billingref24_Reader_sum_l1 :: .endB 0 :: []) .norm ⟨(.ptr 0 0 :: .undef :: box0 :: .box (exprC a) :: .undef :: .undef :: .undef :: .undef :: .undef :: .undef :: .undef :: .undef :: .undef :: .undef :: .undef :: .undef :: .undef :: .undef :: .undef :: []), hf n L us.length e⟩ (FinQ [.cell 2 (some 4)] 1 (.ret (exprV a) (hf n L us.length e))) := by
  have et0 := f_acceptE (n := n) [43] e he hA
  have et1 := f_acceptE (n := n) [45] e he hA
  obtain ⟨op, num, text, args⟩ := a
  simp only [exprC]
  unfold billingref24_Reader_sum_l1b
  simp [go_sem, et0, et1, exprV]

theorem sum_lR : ∀ k, (∀ m, m < k → EqR n L n_billingref24_Reader_product 6 m) → ∀ a ts r, pL k 5 a ts = some r → At L ts → okT ts →
    ∃ b, (∀ c q, r = .ok c q → b = c) ∧ Run mach0 (.c billingref24_Reader_sum_l1b :: .lp billingref24_Reader_sum_l1 :: .endB 0 :: []) .norm ⟨(.ptr 0 0 :: .undef :: box0 :: .box (exprC a) :: .undef :: .undef :: .undef :: .undef :: .undef :: .undef :: .undef :: .undef :: .undef :: .undef :: .undef :: .undef :: .undef :: .undef :: .undef :: []), hf n L ts.length 0⟩ (FinQ [.cell 2 (some 4)] 1 (.ret (exprV b) (resH n L r))) := by
  intro k
  induction k with
  | zero => intro _ a ts r h; simp [pL] at h
  | succ k ih =>
    intro hE a ts r h hA ho
    have ih := ih (fun m hm => hE m (by omega))
    have hE := hE k (by omega)
    have et0 := f_accept0 (n := n) [43] hA
    rw [isA_sym ho (by decide)] at et0
    have et1 := f_accept0 (n := n) [45] hA
    rw [isA_sym ho (by decide)] at et1
    rw [pL_succ] at h
    by_cases hw0 : isSymT [43] ts = true
    · have hA2 := hA.sym hw0
      have ho2 := okT.tail ho
      have hc : chainOp 5 ts = some 11 := by simp [chainOp, hw0]
      simp only [hw0, if_true] at et0
      rw [hc] at h
      simp only at h
      rcases bindO_some h with ⟨b, q, h1, h2⟩ | ⟨m, e, h1, h2⟩
      · obtain ⟨b', eb, hb, _⟩ := hE _ _ h1 hA2 ho2
        obtain rfl := hb b q rfl
        obtain ⟨c', hc', run⟩ := ih (two 11 a b') q r h2 ((p_at k).1 _ _ _ _ h1 hA2) (okT.p ho2 h1)
        refine ⟨c', hc', ?_⟩
        have e2 := fun h => f_two 11 a b' h
        obtain ⟨op, num, text, args⟩ := a
        obtain ⟨op2, num2, text2, args2⟩ := b'
        simp only [resH] at eb
        simp only [two, exprC, exprVs, exprV] at run e2 eb ⊢
        unfold billingref24_Reader_sum_l1b
        generalize ts.tail = tl at *
        simp [go_sem, et0, eb, e2]
        exact run
      · subst h2
        obtain ⟨b', eb, _, hb⟩ := hE _ _ h1 hA2 ho2
        obtain ⟨he, us, hu, hul⟩ := hb m e rfl
        subst hul
        refine ⟨two 11 a b', (fun c q hh => by cases hh), ?_⟩
        have run := sum_lE (n := n) (two 11 a b') e he us hu
        have e2 := fun h => f_two 11 a b' h
        obtain ⟨op, num, text, args⟩ := a
        obtain ⟨op2, num2, text2, args2⟩ := b'
        simp only [resH] at eb ⊢
        simp only [two, exprC, exprVs, exprV] at run e2 eb ⊢
        unfold billingref24_Reader_sum_l1b
        generalize ts.tail = tl at *
        simp [go_sem, et0, eb, e2]
        exact run
    have hw0 : isSymT [43] ts = false := by simpa using hw0
    simp [hw0] at et0
    by_cases hw1 : isSymT [45] ts = true
    · have hA2 := hA.sym hw1
      have ho2 := okT.tail ho
      have hc : chainOp 5 ts = some 12 := by simp [chainOp, hw0, hw1]
      simp only [hw1, if_true] at et1
      rw [hc] at h
      simp only at h
      rcases bindO_some h with ⟨b, q, h1, h2⟩ | ⟨m, e, h1, h2⟩
      · obtain ⟨b', eb, hb, _⟩ := hE _ _ h1 hA2 ho2
        obtain rfl := hb b q rfl
        obtain ⟨c', hc', run⟩ := ih (two 12 a b') q r h2 ((p_at k).1 _ _ _ _ h1 hA2) (okT.p ho2 h1)
        refine ⟨c', hc', ?_⟩
        have e2 := fun h => f_two 12 a b' h
        obtain ⟨op, num, text, args⟩ := a
        obtain ⟨op2, num2, text2, args2⟩ := b'
        simp only [resH] at eb
        simp only [two, exprC, exprVs, exprV] at run e2 eb ⊢
        unfold billingref24_Reader_sum_l1b
        generalize ts.tail = tl at *
        simp [go_sem, et0, et1, eb, e2]
        exact run
      · subst h2
        obtain ⟨b', eb, _, hb⟩ := hE _ _ h1 hA2 ho2
        obtain ⟨he, us, hu, hul⟩ := hb m e rfl
        subst hul
        refine ⟨two 12 a b', (fun c q hh => by cases hh), ?_⟩
        have run := sum_lE (n := n) (two 12 a b') e he us hu
        have e2 := fun h => f_two 12 a b' h
        obtain ⟨op, num, text, args⟩ := a
        obtain ⟨op2, num2, text2, args2⟩ := b'
        simp only [resH] at eb ⊢
        simp only [two, exprC, exprVs, exprV] at run e2 eb ⊢
        unfold billingref24_Reader_sum_l1b
        generalize ts.tail = tl at *
        simp [go_sem, et0, et1, eb, e2]
        exact run
    have hw1 : isSymT [45] ts = false := by simpa using hw1
    simp [hw1] at et1
    have hc : chainOp 5 ts = none := by simp [chainOp, hw0, hw1]
    rw [hc] at h
    simp only [Option.some.injEq] at h
    subst h
    refine ⟨a, (fun c q hh => by cases hh; rfl), ?_⟩
    obtain ⟨op, num, text, args⟩ := a
    simp only [exprC, resH]
    unfold billingref24_Reader_sum_l1b
    simp [go_sem, et0, et1, exprV]

theorem sum_fR (k : Nat) (hE : ∀ m, m ≤ k → EqR n L n_billingref24_Reader_product 6 m) : EqR n L n_billingref24_Reader_sum 5 (k + 1) := by
  intro ts r h hA ho
  have hpe := fun m e (hr : r = .err m e) => p_err (k + 1) 5 ts m e (hr ▸ h) hA
  rw [pE_succ, if_neg (by decide), if_neg (by decide), if_neg (by decide)] at h
  rcases bindO_some h with ⟨a, q, h1, h2⟩ | ⟨m, e, h1, h2⟩
  · obtain ⟨a', ea, ha, _⟩ := hE k (Nat.le_refl k) ts _ h1 hA ho
    obtain rfl := ha a q rfl
    obtain ⟨b, hb, run⟩ := sum_lR k (fun m hm => hE m (by omega)) a' q r h2 ((p_at k).1 _ _ _ _ h1 hA) (okT.p ho h1)
    refine ⟨b, acall_fn rfl (af := a_billingref24_Reader_sum) rfl rfl ?_, hb, hpe⟩
    obtain ⟨op, num, text, args⟩ := a'
    simp only [exprC] at run
    simp only [resH, exprV] at ea
    simp [List.replicate, go_sem, ea]
    exact run
  · subst h2
    obtain ⟨a', ea, _, ha⟩ := hE k (Nat.le_refl k) ts _ h1 hA ho
    obtain ⟨he, us, hu, hul⟩ := ha m e rfl
    subst hul
    have run := sum_lE (n := n) a' e he us hu
    refine ⟨a', acall_fn rfl (af := a_billingref24_Reader_sum) rfl rfl ?_, (fun c q hh => by cases hh), hpe⟩
    obtain ⟨op, num, text, args⟩ := a'
    simp only [exprC, exprV] at run
    simp only [resH, exprV] at ea ⊢
    simp [List.replicate, go_sem, ea]
    exact run
theorem sum_fE (hS : ErrR n L n_billingref24_Reader_product) : ErrR n L n_billingref24_Reader_sum := by
  intro e us he hA
  obtain ⟨a', ea⟩ := hS e us he hA
  have run := sum_lE (n := n) a' e he us hA
  refine ⟨a', acall_fn rfl (af := a_billingref24_Reader_sum) rfl rfl ?_⟩
  obtain ⟨op, num, text, args⟩ := a'
  simp only [exprC, exprV] at run ea ⊢
  simp [List.replicate, go_sem, ea]
  exact run

theorem product_lE (a : PE) (e : Nat) (he : e ≠ 0) (us : List Tk) (hA : At L us) :
    Run mach0 (.c billingref24_Reader_product_l1b :: .lp billingref24_Reader_product_l1 :: .endB 0 :: []) .norm ⟨(.ptr 0 0 :: .undef :: box0 :: .box (exprC a) :: .undef :: .undef :: .undef :: .undef :: .undef :: .undef :: .undef :: .undef :: .undef :: .undef :: .undef :: .undef :: .undef :: .undef :: .undef :: .undef :: .undef :: .undef :: .undef :: .undef :: .undef :: []), hf n L us.length e⟩ (FinQ [.cell 2 (some 4)] 1 (.ret (exprV a) (hf n L us.length e))) := by
  have et0 := f_acceptE (n := n) [42] e he hA
  have et1 := f_acceptE (n := n) [47] e he hA
  have et2 := f_acceptE (n := n) [37] e he hA
  obtain ⟨op, num, text, args⟩ := a
  simp only [exprC]
  unfold billingref24_Reader_product_l1b
  simp [go_sem, et0, et1, et2, exprV]

theorem product_lR : ∀ k, (∀ m, m < k → EqR n L n_billingref24_Reader_primary 7 m) → ∀ a ts r, pL k 6 a ts = some r → At L ts → okT ts →
    ∃ b, (∀ c q, r = .ok c q → b = c) ∧ Run mach0 (.c billingref24_Reader_product_l1b :: .lp billingref24_Reader_product_l1 :: .endB 0 :: []) .norm ⟨(.ptr 0 0 :: .undef :: box0 :: .box (exprC a) :: .undef :: .undef :: .undef :: .undef :: .undef :: .undef :: .undef :: .undef :: .undef :: .undef :: .undef :: .undef :: .undef :: .undef :: .undef :: .undef :: .undef :: .undef :: .undef :: .undef :: .undef :: []), hf n L ts.length 0⟩ (FinQ [.cell 2 (some 4)] 1 (.ret (exprV b) (resH n L r))) := by
  intro k
  induction k with
  | zero => intro _ a ts r h; simp [pL] at h
  | succ k ih =>
    intro hE a ts r h hA ho
    have ih := ih (fun m hm => hE m (by omega))
    have hE := hE k (by omega)
    have et0 := f_accept0 (n := n) [42] hA
    rw [isA_sym ho (by decide)] at et0
    have et1 := f_accept0 (n := n) [47] hA
    rw [isA_sym ho (by decide)] at et1
    have et2 := f_accept0 (n := n) [37] hA
    rw [isA_sym ho (by decide)] at et2
    rw [pL_succ] at h
    by_cases hw0 : isSymT [42] ts = true
    · have hA2 := hA.sym hw0
      have ho2 := okT.tail ho
      have hc : chainOp 6 ts = some 13 := by simp [chainOp, hw0]
      simp only [hw0, if_true] at et0
      rw [hc] at h
      simp only at h
      rcases bindO_some h with ⟨b, q, h1, h2⟩ | ⟨m, e, h1, h2⟩
      · obtain ⟨b', eb, hb, _⟩ := hE _ _ h1 hA2 ho2
        obtain rfl := hb b q rfl
        obtain ⟨c', hc', run⟩ := ih (two 13 a b') q r h2 ((p_at k).1 _ _ _ _ h1 hA2) (okT.p ho2 h1)
        refine ⟨c', hc', ?_⟩
        have e2 := fun h => f_two 13 a b' h
        obtain ⟨op, num, text, args⟩ := a
        obtain ⟨op2, num2, text2, args2⟩ := b'
        simp only [resH] at eb
        simp only [two, exprC, exprVs, exprV] at run e2 eb ⊢
        unfold billingref24_Reader_product_l1b
        generalize ts.tail = tl at *
        simp [go_sem, et0, eb, e2]
        exact run
      · subst h2
        obtain ⟨b', eb, _, hb⟩ := hE _ _ h1 hA2 ho2
        obtain ⟨he, us, hu, hul⟩ := hb m e rfl
        subst hul
        refine ⟨two 13 a b', (fun c q hh => by cases hh), ?_⟩
        have run := product_lE (n := n) (two 13 a b') e he us hu
        have e2 := fun h => f_two 13 a b' h
        obtain ⟨op, num, text, args⟩ := a
        obtain ⟨op2, num2, text2, args2⟩ := b'
        simp only [resH] at eb ⊢
        simp only [two, exprC, exprVs, exprV] at run e2 eb ⊢
        unfold billingref24_Reader_product_l1b
        generalize ts.tail = tl at *
        simp [go_sem, et0, eb, e2]
        exact run
    have hw0 : isSymT [42] ts = false := by simpa using hw0
    simp [hw0] at et0
    by_cases hw1 : isSymT [47] ts = true
    · have hA2 := hA.sym hw1
      have ho2 := okT.tail ho
      have hc : chainOp 6 ts = some 14 := by simp [chainOp, hw0, hw1]
      simp only [hw1, if_true] at et1
      rw [hc] at h
      simp only at h
      rcases bindO_some h with ⟨b, q, h1, h2⟩ | ⟨m, e, h1, h2⟩
      · obtain ⟨b', eb, hb, _⟩ := hE _ _ h1 hA2 ho2
        obtain rfl := hb b q rfl
        obtain ⟨c', hc', run⟩ := ih (two 14 a b') q r h2 ((p_at k).1 _ _ _ _ h1 hA2) (okT.p ho2 h1)
        refine ⟨c', hc', ?_⟩
        have e2 := fun h => f_two 14 a b' h
        obtain ⟨op, num, text, args⟩ := a
        obtain ⟨op2, num2, text2, args2⟩ := b'
        simp only [resH] at eb
        simp only [two, exprC, exprVs, exprV] at run e2 eb ⊢
        unfold billingref24_Reader_product_l1b
        generalize ts.tail = tl at *
        simp [go_sem, et0, et1, eb, e2]
        exact run
      · subst h2
        obtain ⟨b', eb, _, hb⟩ := hE _ _ h1 hA2 ho2
        obtain ⟨he, us, hu, hul⟩ := hb m e rfl
        subst hul
        refine ⟨two 14 a b', (fun c q hh => by cases hh), ?_⟩
        have run := product_lE (n := n) (two 14 a b') e he us hu
        have e2 := fun h => f_two 14 a b' h
        obtain ⟨op, num, text, args⟩ := a
        obtain ⟨op2, num2, text2, args2⟩ := b'
        simp only [resH] at eb ⊢
        simp only [two, exprC, exprVs, exprV] at run e2 eb ⊢
        unfold billingref24_Reader_product_l1b
        generalize ts.tail = tl at *
        simp [go_sem, et0, et1, eb, e2]
        exact run
    have hw1 : isSymT [47] ts = false := by simpa using hw1
    simp [hw1] at et1
    by_cases hw2 : isSymT [37] ts = true
    · have hA2 := hA.sym hw2
      have ho2 := okT.tail ho
      have hc : chainOp 6 ts = some 15 := by simp [chainOp, hw0, hw1, hw2]
      simp only [hw2, if_true] at et2
      rw [hc] at h
      simp only at h
      rcases bindO_some h with ⟨b, q, h1, h2⟩ | ⟨m, e, h1, h2⟩
      · obtain ⟨b', eb, hb, _⟩ := hE _ _ h1 hA2 ho2
        obtain rfl := hb b q rfl
        obtain ⟨c', hc', run⟩ := ih (two 15 a b') q r h2 ((p_at k).1 _ _ _ _ h1 hA2) (okT.p ho2 h1)
        refine ⟨c', hc', ?_⟩
        have e2 := fun h => f_two 15 a b' h
        obtain ⟨op, num, text, args⟩ := a
        obtain ⟨op2, num2, text2, args2⟩ := b'
        simp only [resH] at eb
        simp only [two, exprC, exprVs, exprV] at run e2 eb ⊢
        unfold billingref24_Reader_product_l1b
        generalize ts.tail = tl at *
        simp [go_sem, et0, et1, et2, eb, e2]
        exact run
      · subst h2
        obtain ⟨b', eb, _, hb⟩ := hE _ _ h1 hA2 ho2
        obtain ⟨he, us, hu, hul⟩ := hb m e rfl
        subst hul
        refine ⟨two 15 a b', (fun c q hh => by cases hh), ?_⟩
        have run := product_lE (n := n) (two 15 a b') e he us hu
        have e2 := fun h => f_two 15 a b' h
        obtain ⟨op, num, text, args⟩ := a
        obtain ⟨op2, num2, text2, args2⟩ := b'
        simp only [resH] at eb ⊢
        simp only [two, exprC, exprVs, exprV] at run e2 eb ⊢
        unfold billingref24_Reader_product_l1b
        generalize ts.tail = tl at *
        simp [go_sem, et0, et1, et2, eb, e2]
        exact run
    have hw2 : isSymT [37] ts = false := by simpa using hw2
    simp [hw2] at et2
    have hc : chainOp 6 ts = none := by simp [chainOp, hw0, hw1, hw2]
    rw [hc] at h
    simp only [Option.some.injEq] at h
    subst h
    refine ⟨a, (fun c q hh => by cases hh; rfl), ?_⟩
    obtain ⟨op, num, text, args⟩ := a
    simp only [exprC, resH]
    unfold billingref24_Reader_product_l1b
    simp [go_sem, et0, et1, et2, exprV]

theorem product_fR (k : Nat) (hE : ∀ m, m ≤ k → EqR n L n_billingref24_Reader_primary 7 m) : EqR n L n_billingref24_Reader_product 6 (k + 1) := by
  intro ts r h hA ho
  have hpe := fun m e (hr : r = .err m e) => p_err (k + 1) 6 ts m e (hr ▸ h) hA
  rw [pE_succ, if_neg (by decide), if_neg (by decide), if_neg (by decide)] at h
  rcases bindO_some h with ⟨a, q, h1, h2⟩ | ⟨m, e, h1, h2⟩
  · obtain ⟨a', ea, ha, _⟩ := hE k (Nat.le_refl k) ts _ h1 hA ho
    obtain rfl := ha a q rfl
    obtain ⟨b, hb, run⟩ := product_lR k (fun m hm => hE m (by omega)) a' q r h2 ((p_at k).1 _ _ _ _ h1 hA) (okT.p ho h1)
    refine ⟨b, acall_fn rfl (af := a_billingref24_Reader_product) rfl rfl ?_, hb, hpe⟩
    obtain ⟨op, num, text, args⟩ := a'
    simp only [exprC] at run
    simp only [resH, exprV] at ea
    simp [List.replicate, go_sem, ea]
    exact run
  · subst h2
    obtain ⟨a', ea, _, ha⟩ := hE k (Nat.le_refl k) ts _ h1 hA ho
    obtain ⟨he, us, hu, hul⟩ := ha m e rfl
    subst hul
    have run := product_lE (n := n) a' e he us hu
    refine ⟨a', acall_fn rfl (af := a_billingref24_Reader_product) rfl rfl ?_, (fun c q hh => by cases hh), hpe⟩
    obtain ⟨op, num, text, args⟩ := a'
    simp only [exprC, exprV] at run
    simp only [resH, exprV] at ea ⊢
    simp [List.replicate, go_sem, ea]
    exact run
theorem product_fE (hS : ErrR n L n_billingref24_Reader_primary) : ErrR n L n_billingref24_Reader_product := by
  intro e us he hA
  obtain ⟨a', ea⟩ := hS e us he hA
  have run := product_lE (n := n) a' e he us hA
  refine ⟨a', acall_fn rfl (af := a_billingref24_Reader_product) rfl rfl ?_⟩
  obtain ⟨op, num, text, args⟩ := a'
  simp only [exprC, exprV] at run ea ⊢
  simp [List.replicate, go_sem, ea]
  exact run

end
end Go.Am
