/- The parser of expressions: sums and products. -/
import Derived.Test.YtcjglgeamdfpmaaEP3
set_option linter.unusedSimpArgs false
set_option linter.unnecessarySimpa false
set_option linter.unusedVariables false
set_option maxRecDepth 10000
namespace Go.Am
open Go Go.Pu

section
variable {x0 x1 x2 : List V} {n : Nat} {L : List (Tk × Nat)}
theorem sum_l : ∀ k, (∀ m, m < k → EqE x0 x1 x2 n L n_parser_reader_product 6 m) → ∀ a ts r, pL k 5 a ts = some r → At L ts →
    Run mach0 (.c parser_reader_sum_l1b :: .lp parser_reader_sum_l1 :: .endB 0 :: []) .norm ⟨(.ptr 3 0 :: .undef :: box0 :: .box (exprC a) :: .undef :: .undef :: .undef :: .undef :: .undef :: .undef :: .undef :: .undef :: .undef :: .undef :: .undef :: .undef :: .undef :: .undef :: .undef :: .undef :: .undef :: []), hr x0 x1 x2 n L ts.length⟩ (kX x0 x1 x2 n L r) := by
  intro k
  induction k with
  | zero => intro _ a ts r h; simp [pL] at h
  | succ k ih =>
    intro hE a ts r h hA
    have ih := ih (fun m hm => hE m (by omega))
    have hE := hE k (by omega)
    obtain ⟨t, ts, rfl⟩ := ends_ne hA.2.1
    have et0 := e_takeSymbol (x0 := x0) (x1 := x1) (x2 := x2) (n := n) [43] hA
    have et1 := e_takeSymbol (x0 := x0) (x1 := x1) (x2 := x2) (n := n) [45] hA
    rw [pL_succ] at h
    obtain ⟨op, num, text, args⟩ := a
    simp only [exprC]
    by_cases hw0 : isSymT [43] (t :: ts) = true
    · have hA2 := hA.sym hw0
      simp only [List.tail_cons] at hA2
      simp only [hw0, if_true] at et0
      have hc : chainOp 5 (t :: ts) = some 11 := by simp [chainOp, hw0]
      rw [hc] at h
      simp only [List.tail_cons] at h
      rcases bindO_some h with ⟨b, q, h1, h2⟩ | ⟨m, e, h1, h2⟩
      · have eb := hE ts _ h1 hA2
        have ih := ih _ q r h2 ((p_at k).1 _ _ _ _ h1 hA2)
        have e2 := fun h => e_two 11 (.mk op num text args) b h
        obtain ⟨op2, num2, text2, args2⟩ := b
        simp only [two, exprC, exprVs, exprV] at ih
        simp only [exprV, exprVs, two, rdRt] at e2 eb
        unfold parser_reader_sum_l1b
        simp [go_sem, et0, eb, e2]
        exact ih
      · subst h2
        have eb := hE ts _ h1 hA2
        simp only [rdRt, errH, pfail] at eb
        unfold parser_reader_sum_l1b
        simp [go_sem, et0, eb, rdRt, errH, pfail]
    have hw0 : isSymT [43] (t :: ts) = false := by simpa using hw0
    simp [hw0] at et0
    by_cases hw1 : isSymT [45] (t :: ts) = true
    · have hA2 := hA.sym hw1
      simp only [List.tail_cons] at hA2
      simp only [hw1, if_true] at et1
      have hc : chainOp 5 (t :: ts) = some 12 := by simp [chainOp, hw0, hw1]
      rw [hc] at h
      simp only [List.tail_cons] at h
      rcases bindO_some h with ⟨b, q, h1, h2⟩ | ⟨m, e, h1, h2⟩
      · have eb := hE ts _ h1 hA2
        have ih := ih _ q r h2 ((p_at k).1 _ _ _ _ h1 hA2)
        have e2 := fun h => e_two 12 (.mk op num text args) b h
        obtain ⟨op2, num2, text2, args2⟩ := b
        simp only [two, exprC, exprVs, exprV] at ih
        simp only [exprV, exprVs, two, rdRt] at e2 eb
        unfold parser_reader_sum_l1b
        simp [go_sem, et0, et1, eb, e2]
        exact ih
      · subst h2
        have eb := hE ts _ h1 hA2
        simp only [rdRt, errH, pfail] at eb
        unfold parser_reader_sum_l1b
        simp [go_sem, et0, et1, eb, rdRt, errH, pfail]
    have hw1 : isSymT [45] (t :: ts) = false := by simpa using hw1
    simp [hw1] at et1
    have hc : chainOp 5 (t :: ts) = none := by simp [chainOp, hw0, hw1]
    rw [hc] at h
    simp only [Option.some.injEq] at h
    subst h
    unfold parser_reader_sum_l1b
    simp [go_sem, et0, et1, rdRt, exprV, kX, hr]

theorem sum_f (k : Nat) (hE : ∀ m, m ≤ k → EqE x0 x1 x2 n L n_parser_reader_product 6 m) : EqE x0 x1 x2 n L n_parser_reader_sum 5 (k + 1) := by
  intro ts r h hA
  refine acall_fn rfl (af := a_parser_reader_sum) rfl rfl ?_
  rw [pE_succ, if_neg (by decide), if_neg (by decide), if_neg (by decide)] at h
  rcases bindO_some h with ⟨a, q, h1, h2⟩ | ⟨m, e, h1, h2⟩
  · have ea := hE k (Nat.le_refl k) ts _ h1 hA
    have el := sum_l k (fun m hm => hE m (by omega)) a q r h2 ((p_at k).1 _ _ _ _ h1 hA)
    obtain ⟨op, num, text, args⟩ := a
    simp only [exprC] at el
    simp only [rdRt, exprV] at ea
    simp [List.replicate, go_sem, ea]
    simpa [kX, hr] using el
  · subst h2
    have ea := hE k (Nat.le_refl k) ts _ h1 hA
    simp only [rdRt, errH, pfail] at ea
    simp [List.replicate, go_sem, ea, rdRt, errH, pfail]

theorem product_l : ∀ k, (∀ m, m < k → EqE x0 x1 x2 n L n_parser_reader_primary 7 m) → ∀ a ts r, pL k 6 a ts = some r → At L ts →
    Run mach0 (.c parser_reader_product_l1b :: .lp parser_reader_product_l1 :: .endB 0 :: []) .norm ⟨(.ptr 3 0 :: .undef :: box0 :: .box (exprC a) :: .undef :: .undef :: .undef :: .undef :: .undef :: .undef :: .undef :: .undef :: .undef :: .undef :: .undef :: .undef :: .undef :: .undef :: .undef :: .undef :: .undef :: .undef :: .undef :: .undef :: .undef :: .undef :: .undef :: .undef :: []), hr x0 x1 x2 n L ts.length⟩ (kX x0 x1 x2 n L r) := by
  intro k
  induction k with
  | zero => intro _ a ts r h; simp [pL] at h
  | succ k ih =>
    intro hE a ts r h hA
    have ih := ih (fun m hm => hE m (by omega))
    have hE := hE k (by omega)
    obtain ⟨t, ts, rfl⟩ := ends_ne hA.2.1
    have et0 := e_takeSymbol (x0 := x0) (x1 := x1) (x2 := x2) (n := n) [42] hA
    have et1 := e_takeSymbol (x0 := x0) (x1 := x1) (x2 := x2) (n := n) [47] hA
    have et2 := e_takeSymbol (x0 := x0) (x1 := x1) (x2 := x2) (n := n) [37] hA
    rw [pL_succ] at h
    obtain ⟨op, num, text, args⟩ := a
    simp only [exprC]
    by_cases hw0 : isSymT [42] (t :: ts) = true
    · have hA2 := hA.sym hw0
      simp only [List.tail_cons] at hA2
      simp only [hw0, if_true] at et0
      have hc : chainOp 6 (t :: ts) = some 13 := by simp [chainOp, hw0]
      rw [hc] at h
      simp only [List.tail_cons] at h
      rcases bindO_some h with ⟨b, q, h1, h2⟩ | ⟨m, e, h1, h2⟩
      · have eb := hE ts _ h1 hA2
        have ih := ih _ q r h2 ((p_at k).1 _ _ _ _ h1 hA2)
        have e2 := fun h => e_two 13 (.mk op num text args) b h
        obtain ⟨op2, num2, text2, args2⟩ := b
        simp only [two, exprC, exprVs, exprV] at ih
        simp only [exprV, exprVs, two, rdRt] at e2 eb
        unfold parser_reader_product_l1b
        simp [go_sem, et0, eb, e2]
        exact ih
      · subst h2
        have eb := hE ts _ h1 hA2
        simp only [rdRt, errH, pfail] at eb
        unfold parser_reader_product_l1b
        simp [go_sem, et0, eb, rdRt, errH, pfail]
    have hw0 : isSymT [42] (t :: ts) = false := by simpa using hw0
    simp [hw0] at et0
    by_cases hw1 : isSymT [47] (t :: ts) = true
    · have hA2 := hA.sym hw1
      simp only [List.tail_cons] at hA2
      simp only [hw1, if_true] at et1
      have hc : chainOp 6 (t :: ts) = some 14 := by simp [chainOp, hw0, hw1]
      rw [hc] at h
      simp only [List.tail_cons] at h
      rcases bindO_some h with ⟨b, q, h1, h2⟩ | ⟨m, e, h1, h2⟩
      · have eb := hE ts _ h1 hA2
        have ih := ih _ q r h2 ((p_at k).1 _ _ _ _ h1 hA2)
        have e2 := fun h => e_two 14 (.mk op num text args) b h
        obtain ⟨op2, num2, text2, args2⟩ := b
        simp only [two, exprC, exprVs, exprV] at ih
        simp only [exprV, exprVs, two, rdRt] at e2 eb
        unfold parser_reader_product_l1b
        simp [go_sem, et0, et1, eb, e2]
        exact ih
      · subst h2
        have eb := hE ts _ h1 hA2
        simp only [rdRt, errH, pfail] at eb
        unfold parser_reader_product_l1b
        simp [go_sem, et0, et1, eb, rdRt, errH, pfail]
    have hw1 : isSymT [47] (t :: ts) = false := by simpa using hw1
    simp [hw1] at et1
    by_cases hw2 : isSymT [37] (t :: ts) = true
    · have hA2 := hA.sym hw2
      simp only [List.tail_cons] at hA2
      simp only [hw2, if_true] at et2
      have hc : chainOp 6 (t :: ts) = some 15 := by simp [chainOp, hw0, hw1, hw2]
      rw [hc] at h
      simp only [List.tail_cons] at h
      rcases bindO_some h with ⟨b, q, h1, h2⟩ | ⟨m, e, h1, h2⟩
      · have eb := hE ts _ h1 hA2
        have ih := ih _ q r h2 ((p_at k).1 _ _ _ _ h1 hA2)
        have e2 := fun h => e_two 15 (.mk op num text args) b h
        obtain ⟨op2, num2, text2, args2⟩ := b
        simp only [two, exprC, exprVs, exprV] at ih
        simp only [exprV, exprVs, two, rdRt] at e2 eb
        unfold parser_reader_product_l1b
        simp [go_sem, et0, et1, et2, eb, e2]
        exact ih
      · subst h2
        have eb := hE ts _ h1 hA2
        simp only [rdRt, errH, pfail] at eb
        unfold parser_reader_product_l1b
        simp [go_sem, et0, et1, et2, eb, rdRt, errH, pfail]
    have hw2 : isSymT [37] (t :: ts) = false := by simpa using hw2
    simp [hw2] at et2
    have hc : chainOp 6 (t :: ts) = none := by simp [chainOp, hw0, hw1, hw2]
    rw [hc] at h
    simp only [Option.some.injEq] at h
    subst h
    unfold parser_reader_product_l1b
    simp [go_sem, et0, et1, et2, rdRt, exprV, kX, hr]

theorem product_f (k : Nat) (hE : ∀ m, m ≤ k → EqE x0 x1 x2 n L n_parser_reader_primary 7 m) : EqE x0 x1 x2 n L n_parser_reader_product 6 (k + 1) := by
  intro ts r h hA
  refine acall_fn rfl (af := a_parser_reader_product) rfl rfl ?_
  rw [pE_succ, if_neg (by decide), if_neg (by decide), if_neg (by decide)] at h
  rcases bindO_some h with ⟨a, q, h1, h2⟩ | ⟨m, e, h1, h2⟩
  · have ea := hE k (Nat.le_refl k) ts _ h1 hA
    have el := product_l k (fun m hm => hE m (by omega)) a q r h2 ((p_at k).1 _ _ _ _ h1 hA)
    obtain ⟨op, num, text, args⟩ := a
    simp only [exprC] at el
    simp only [rdRt, exprV] at ea
    simp [List.replicate, go_sem, ea]
    simpa [kX, hr] using el
  · subst h2
    have ea := hE k (Nat.le_refl k) ts _ h1 hA
    simp only [rdRt, errH, pfail] at ea
    simp [List.replicate, go_sem, ea, rdRt, errH, pfail]

end
end Go.Am
