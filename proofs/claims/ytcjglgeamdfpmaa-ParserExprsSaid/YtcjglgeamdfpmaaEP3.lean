/- The parser of expressions: operators that bind from the left. -/
import Derived.Test.YtcjglgeamdfpmaaEP2
set_option linter.unusedSimpArgs false
set_option linter.unnecessarySimpa false
set_option linter.unusedVariables false
set_option maxRecDepth 10000
namespace Go.Am
open Go Go.Pu

section
variable {x0 x1 x2 : List V} {n : Nat} {L : List (Tk × Nat)}

theorem At.word {s : Bs} {ts : List Tk} (h : At L ts) (hw : isWord s ts = true) : At L ts.tail := by
  have e := isWord_cons hw
  rw [e] at h
  exact h.tl (by simp)
theorem At.sym {s : Bs} {ts : List Tk} (h : At L ts) (hw : isSymT s ts = true) : At L ts.tail := by
  have e := isSymT_cons hw
  rw [e] at h
  exact h.tl (by simp)
theorem At.chain {l : Nat} {op : Int} {ts : List Tk} (h : At L ts) (hc : chainOp l ts = some op) : At L ts.tail := by
  unfold chainOp at hc
  repeat' split at hc
  all_goals first
    | (cases hc; done)
    | (rename_i hw; first | exact h.word hw | exact h.sym hw)
theorem At.cmp {o : Int × Bool} {ts : List Tk} (h : At L ts) (hc : cmpOp ts = some o) : At L ts.tail := by
  unfold cmpOp at hc
  repeat' split at hc
  all_goals first
    | (cases hc; done)
    | (rename_i hw; exact h.sym hw)

/-- What is left is a rest of the list. -/
theorem p_at : ∀ k, (∀ l ts a r, pE k l ts = some (.ok a r) → At L ts → At L r) ∧ (∀ l a ts b r, pL k l a ts = some (.ok b r) → At L ts → At L r) := by
  intro k
  induction k with
  | zero => exact ⟨fun l ts a r h => by simp [pE] at h, fun l a ts b r h => by simp [pL] at h⟩
  | succ k ih =>
    obtain ⟨i1, i2⟩ := ih
    constructor
    · intro l ts a r h hA
      rw [pE_succ] at h
      split at h
      · split at h
        · rename_i hw
          rcases bindO_some h with ⟨b, q, h1, h2⟩ | ⟨m, e, h1, h2⟩
          · cases h2; exact i1 _ _ _ _ h1 (hA.word hw)
          · cases h2
        · exact i1 _ _ _ _ h hA
      · split at h
        · rcases bindO_some h with ⟨b, q, h1, h2⟩ | ⟨m, e, h1, h2⟩
          · have hq := i1 _ _ _ _ h1 hA
            split at h2
            · cases h2; exact hq
            · rename_i hc
              rcases bindO_some h2 with ⟨c, q', h3, h4⟩ | ⟨m, e, h3, h4⟩
              · cases h4; exact i1 _ _ _ _ h3 (hq.cmp hc)
              · cases h4
          · cases h2
        · split at h
          · split at h
            · split at h
              · cases h; exact hA.tl (by simp)
              · cases h
            · cases h; exact hA.tl (by simp)
            · split at h
              · cases h; exact hA.tl (by simp)
              · split at h
                · cases h
                · cases h; exact hA.tl (by simp)
            · split at h
              · rename_i hw
                rcases bindO_some h with ⟨b, q, h1, h2⟩ | ⟨m, e, h1, h2⟩
                · have hq := i1 _ _ _ _ h1 (hA.sym hw)
                  split at h2
                  · rename_i hw2; cases h2; exact hq.sym hw2
                  · cases h2
                · cases h2
              · cases h
          · rcases bindO_some h with ⟨b, q, h1, h2⟩ | ⟨m, e, h1, h2⟩
            · exact i2 _ _ _ _ _ h2 (i1 _ _ _ _ h1 hA)
            · cases h2
    · intro l a ts b r h hA
      rw [pL_succ] at h
      split at h
      · cases h; exact hA
      · rename_i hc
        rcases bindO_some h with ⟨c, q, h1, h2⟩ | ⟨m, e, h1, h2⟩
        · exact i2 _ _ _ _ _ h2 (i1 _ _ _ _ h1 (hA.chain hc))
        · cases h2

/-- A method of the reader does as the plain parser, with so much fuel. -/
def EqE (x0 x1 x2 : List V) (n : Nat) (L : List (Tk × Nat)) (f : FuncId) (l k : Nat) : Prop := ∀ ts r, pE k l ts = some r → At L ts → acall mach0 f [.ptr 3 0] (hr x0 x1 x2 n L ts.length) = some (rdRt x0 x1 x2 n L exprV r)

abbrev box0 : V := .box [.int .i64 0, .int .i64 0, .str [], .sl false 4 []]
abbrev kX (x0 x1 x2 : List V) (n : Nat) (L : List (Tk × Nat)) (r : PR PE) : Ex → St → Prop := FinQ [.cell 2 (some 4)] 4 (rdRt x0 x1 x2 n L exprV r)

theorem either_l : ∀ k, (∀ m, m < k → EqE x0 x1 x2 n L n_parser_reader_both 2 m) → ∀ a ts r, pL k 1 a ts = some r → At L ts →
    Run mach0 (.c parser_reader_either_l1b :: .lp parser_reader_either_l1 :: .endB 0 :: .c parser_reader_either_k1 :: []) .norm ⟨(.ptr 3 0 :: .undef :: box0 :: .box (exprC a) :: .undef :: .undef :: .undef :: .undef :: .undef :: .undef :: .undef :: .undef :: .undef :: []), hr x0 x1 x2 n L ts.length⟩ (kX x0 x1 x2 n L r) := by
  intro k
  induction k with
  | zero => intro _ a ts r h; simp [pL] at h
  | succ k ih =>
    intro hE a ts r h hA
    have ih := ih (fun m hm => hE m (by omega))
    have hE := hE k (by omega)
    obtain ⟨t, ts, rfl⟩ := ends_ne hA.2.1
    have et := e_takeWord (x0 := x0) (x1 := x1) (x2 := x2) (n := n) kOr hA
    rw [pL_succ] at h
    obtain ⟨op, num, text, args⟩ := a
    simp only [exprC]
    by_cases hw : isWord kOr (t :: ts) = true
    · have hA2 := hA.word hw
      simp only [List.tail_cons] at hA2
      simp only [hw] at et
      simp only [kOr, if_true] at et
      have hc : chainOp 1 (t :: ts) = some 6 := by simp only [chainOp, hw, if_true]
      rw [hc] at h
      simp only [List.tail_cons] at h
      rcases bindO_some h with ⟨b, q, h1, h2⟩ | ⟨m, e, h1, h2⟩
      · have eb := hE ts _ h1 hA2
        have ih := ih _ q r h2 ((p_at k).1 _ _ _ _ h1 hA2)
        have e2 := fun h => e_two 6 (.mk op num text args) b h
        obtain ⟨op2, num2, text2, args2⟩ := b
        simp only [two, exprC, exprVs, exprV] at ih
        simp only [exprV, exprVs, two, rdRt] at e2 eb
        unfold parser_reader_either_l1b
        simp [go_sem, et, eb, e2]
        exact ih
      · subst h2
        have eb := hE ts _ h1 hA2
        simp only [rdRt, errH, pfail] at eb
        unfold parser_reader_either_l1b
        simp [go_sem, et, eb, rdRt, errH, pfail]
    · have hw : isWord kOr (t :: ts) = false := by simpa using hw
      have hc : chainOp 1 (t :: ts) = none := by simp [chainOp, hw]
      rw [hc] at h
      simp only [Option.some.injEq] at h
      subst h
      simp only [hw] at et
      simp [kOr] at et
      unfold parser_reader_either_l1b
      simp [go_sem, et, parser_reader_either_k1]
      simp [go_sem, parser_reader_either_k1b, rdRt, exprV, kX, hr]
theorem either_f (k : Nat) (hE : ∀ m, m ≤ k → EqE x0 x1 x2 n L n_parser_reader_both 2 m) : EqE x0 x1 x2 n L n_parser_reader_either 1 (k + 1) := by
  intro ts r h hA
  refine acall_fn rfl (af := a_parser_reader_either) rfl rfl ?_
  rw [pE_succ, if_neg (by decide), if_neg (by decide), if_neg (by decide)] at h
  rcases bindO_some h with ⟨a, q, h1, h2⟩ | ⟨m, e, h1, h2⟩
  · have ea := hE k (Nat.le_refl k) ts _ h1 hA
    have el := either_l k (fun m hm => hE m (by omega)) a q r h2 ((p_at k).1 _ _ _ _ h1 hA)
    obtain ⟨op, num, text, args⟩ := a
    simp only [exprC] at el
    simp only [rdRt, exprV] at ea
    simp [List.replicate, go_sem, ea]
    simpa [kX, hr] using el
  · subst h2
    have ea := hE k (Nat.le_refl k) ts _ h1 hA
    simp only [rdRt, errH, pfail] at ea
    simp [List.replicate, go_sem, ea, rdRt, errH, pfail]

theorem both_l : ∀ k, (∀ m, m < k → EqE x0 x1 x2 n L n_parser_reader_negated 3 m) → ∀ a ts r, pL k 2 a ts = some r → At L ts →
    Run mach0 (.c parser_reader_both_l1b :: .lp parser_reader_both_l1 :: .endB 0 :: .c parser_reader_both_k1 :: []) .norm ⟨(.ptr 3 0 :: .undef :: box0 :: .box (exprC a) :: .undef :: .undef :: .undef :: .undef :: .undef :: .undef :: .undef :: .undef :: .undef :: []), hr x0 x1 x2 n L ts.length⟩ (kX x0 x1 x2 n L r) := by
  intro k
  induction k with
  | zero => intro _ a ts r h; simp [pL] at h
  | succ k ih =>
    intro hE a ts r h hA
    have ih := ih (fun m hm => hE m (by omega))
    have hE := hE k (by omega)
    obtain ⟨t, ts, rfl⟩ := ends_ne hA.2.1
    have et := e_takeWord (x0 := x0) (x1 := x1) (x2 := x2) (n := n) kAnd hA
    rw [pL_succ] at h
    obtain ⟨op, num, text, args⟩ := a
    simp only [exprC]
    by_cases hw : isWord kAnd (t :: ts) = true
    · have hA2 := hA.word hw
      simp only [List.tail_cons] at hA2
      simp only [hw] at et
      simp only [kAnd, if_true] at et
      have hc : chainOp 2 (t :: ts) = some 5 := by simp only [chainOp, hw, if_true]
      rw [hc] at h
      simp only [List.tail_cons] at h
      rcases bindO_some h with ⟨b, q, h1, h2⟩ | ⟨m, e, h1, h2⟩
      · have eb := hE ts _ h1 hA2
        have ih := ih _ q r h2 ((p_at k).1 _ _ _ _ h1 hA2)
        have e2 := fun h => e_two 5 (.mk op num text args) b h
        obtain ⟨op2, num2, text2, args2⟩ := b
        simp only [two, exprC, exprVs, exprV] at ih
        simp only [exprV, exprVs, two, rdRt] at e2 eb
        unfold parser_reader_both_l1b
        simp [go_sem, et, eb, e2]
        exact ih
      · subst h2
        have eb := hE ts _ h1 hA2
        simp only [rdRt, errH, pfail] at eb
        unfold parser_reader_both_l1b
        simp [go_sem, et, eb, rdRt, errH, pfail]
    · have hw : isWord kAnd (t :: ts) = false := by simpa using hw
      have hc : chainOp 2 (t :: ts) = none := by simp [chainOp, hw]
      rw [hc] at h
      simp only [Option.some.injEq] at h
      subst h
      simp only [hw] at et
      simp [kAnd] at et
      unfold parser_reader_both_l1b
      simp [go_sem, et, parser_reader_both_k1]
      simp [go_sem, parser_reader_both_k1b, rdRt, exprV, kX, hr]
theorem both_f (k : Nat) (hE : ∀ m, m ≤ k → EqE x0 x1 x2 n L n_parser_reader_negated 3 m) : EqE x0 x1 x2 n L n_parser_reader_both 2 (k + 1) := by
  intro ts r h hA
  refine acall_fn rfl (af := a_parser_reader_both) rfl rfl ?_
  rw [pE_succ, if_neg (by decide), if_neg (by decide), if_neg (by decide)] at h
  rcases bindO_some h with ⟨a, q, h1, h2⟩ | ⟨m, e, h1, h2⟩
  · have ea := hE k (Nat.le_refl k) ts _ h1 hA
    have el := both_l k (fun m hm => hE m (by omega)) a q r h2 ((p_at k).1 _ _ _ _ h1 hA)
    obtain ⟨op, num, text, args⟩ := a
    simp only [exprC] at el
    simp only [rdRt, exprV] at ea
    simp [List.replicate, go_sem, ea]
    simpa [kX, hr] using el
  · subst h2
    have ea := hE k (Nat.le_refl k) ts _ h1 hA
    simp only [rdRt, errH, pfail] at ea
    simp [List.replicate, go_sem, ea, rdRt, errH, pfail]

end
end Go.Am
