/- Expressions are the same as themselves. -/
import Derived.Test.YtcjglgeamdfpmaaER6
import Derived.Test.YtcjglgeamdfpmaaEPg
set_option linter.unusedSimpArgs false
set_option linter.unnecessarySimpa false
set_option linter.unusedVariables false
set_option maxRecDepth 10000
namespace Go.Am
open Go Go.Pu

/-- Not too many operands anywhere. -/
inductive Nar : PE → Prop
  | mk (op num : Int) (text : Bs) (args : List PE) : args.length ≤ 1000000 → (∀ a ∈ args, Nar a) → Nar (.mk op num text args)

theorem exprVs_len : ∀ (l : List PE), (exprVs l).length = l.length
  | [] => rfl
  | a :: l => by simp [exprVs, exprVs_len l]
theorem nth_exprVs {a : PE} {l2 : List PE} : ∀ {l1 : List PE}, nth (exprVs (l1 ++ a :: l2)) l1.length = exprV a
  | [] => rfl
  | b :: l1 => by
    simp only [List.cons_append, exprVs, List.length_cons]
    exact nth_exprVs (l1 := l1)

theorem Same_l (op num : Int) (text : Bs) (args : List PE) (hn : args.length ≤ 1000000) (H : ∀ a ∈ args, acall mach0 n_billingref24_SameExpr [exprV a, exprV a] [] = some (.ret (.bool true) [])) :
    ∀ (l2 l1 : List PE), l1 ++ l2 = args →
    Run mach0 (.c billingref24_SameExpr_l1b :: .lp billingref24_SameExpr_l1 :: .endB 0 :: .c billingref24_SameExpr_k1 :: []) .norm
      ⟨(.undef :: .undef :: .rptr [.int .i64 op, .int .i64 num, .str text, .sl false 4 (exprVs args)] :: .rptr [.int .i64 op, .int .i64 num, .str text, .sl false 4 (exprVs args)] :: .undef :: .int .i64 l1.length :: .undef :: .undef :: .undef :: .undef :: .undef :: .undef :: .undef :: .undef :: .undef :: .undef :: .undef :: .undef :: .undef :: .undef :: .undef :: .undef :: .undef :: .undef :: .undef :: .undef :: .undef :: .undef :: .undef :: .undef :: .undef :: .undef :: .undef :: .undef :: .undef :: .undef :: .undef :: .undef :: .undef :: .undef :: .undef :: .undef :: .undef :: .undef :: .undef :: .undef :: .undef :: .undef :: .undef :: .undef :: .undef :: .undef :: .undef :: []), []⟩
      (FinQ [.tmp 4] 0 (.ret (.bool true) []))
  | [], l1, he => by
    have hl := exprVs_len args
    have q : ¬ ((l1.length : Int) < args.length) := by rw [← he]; simp
    unfold billingref24_SameExpr_l1b
    simp [go_sem, hl, q, billingref24_SameExpr_k1]
    simp [go_sem, billingref24_SameExpr_k1b]
  | a :: l2, l1, he => by
    have ih := Same_l op num text args hn H l2 (l1 ++ [a]) (by rw [← he]; simp)
    have hl := exprVs_len args
    have len : args.length = l1.length + (l2.length + 1) := by rw [← he]; simp
    have q : (l1.length : Int) < args.length := by omega
    have w : IntKind.wrap .i64 ((l1.length : Int) + 1) = l1.length + 1 := wrap_i64 (by omega)
    have hnth : nth (exprVs args) l1.length = exprV a := by rw [← he]; exact nth_exprVs
    have e := H a (by rw [← he]; simp)
    simp only [List.length_append, List.length_cons, List.length_nil, Nat.zero_add] at ih
    obtain ⟨op2, num2, text2, args2⟩ := a
    simp only [exprV] at hnth e
    unfold billingref24_SameExpr_l1b
    simp [go_sem, hl, q, hnth, e, w]
    simpa using ih

theorem e_SameExpr : ∀ a : PE, Nar a → acall mach0 n_billingref24_SameExpr [exprV a, exprV a] [] = some (.ret (.bool true) []) := by
  refine PE.ind ?_
  intro op num text args ih hN
  cases hN with
  | mk _ _ _ _ hn hN =>
    have run := Same_l op num text args hn (fun a ha => ih a ha (hN a ha)) args [] rfl
    refine acall_fn rfl (af := a_billingref24_SameExpr) rfl rfl ?_
    simp only [exprV]
    simp [List.replicate, go_sem]
    simpa using run

theorem Nar.two {op : Int} {a b : PE} (ha : Nar a) (hb : Nar b) : Nar (two op a b) := by
  refine .mk _ _ _ _ (by simp) ?_
  intro c hc
  simp at hc
  rcases hc with rfl | rfl <;> assumption
theorem Nar.neg {a : PE} (ha : Nar a) : Nar (neg a) := by
  refine .mk _ _ _ _ (by simp) ?_
  intro c hc
  simp at hc
  subst hc
  assumption
theorem Nar.leaf {op num : Int} {text : Bs} : Nar (.mk op num text []) := .mk _ _ _ _ (by simp) (by simp)
theorem p_nar : ∀ k, (∀ l ts a r, pE k l ts = some (.ok a r) → Nar a) ∧ (∀ l a ts b r, Nar a → pL k l a ts = some (.ok b r) → Nar b) := by
  intro k
  induction k with
  | zero => exact ⟨fun l ts a r h => by simp [pE] at h, fun l a ts b r _ h => by simp [pL] at h⟩
  | succ k ih =>
    obtain ⟨i1, i2⟩ := ih
    constructor
    · intro l ts a r h
      rw [pE_succ] at h
      split at h
      · split at h
        · rcases bindO_some h with ⟨b, q, h1, h2⟩ | ⟨m, e, h1, h2⟩
          · cases h2; exact (i1 _ _ _ _ h1).neg
          · cases h2
        · exact i1 _ _ _ _ h
      · split at h
        · rcases bindO_some h with ⟨b, q, h1, h2⟩ | ⟨m, e, h1, h2⟩
          · have hq := i1 _ _ _ _ h1
            split at h2
            · cases h2; exact hq
            · rcases bindO_some h2 with ⟨c, q', h3, h4⟩ | ⟨m, e, h3, h4⟩
              · have hc := i1 _ _ _ _ h3
                simp only [Option.some.injEq, PR.ok.injEq] at h4
                rw [← h4.1]
                split
                · exact .two hc hq
                · exact .two hq hc
              · cases h4
          · cases h2
        · split at h
          · split at h
            · split at h
              · cases h; exact .leaf
              · cases h
            · cases h; exact .leaf
            · split at h
              · cases h; exact .leaf
              · split at h
                · cases h
                · cases h; exact .leaf
            · split at h
              · rcases bindO_some h with ⟨b, q, h1, h2⟩ | ⟨m, e, h1, h2⟩
                · have hq := i1 _ _ _ _ h1
                  split at h2
                  · cases h2; exact hq
                  · cases h2
                · cases h2
              · cases h
          · rcases bindO_some h with ⟨b, q, h1, h2⟩ | ⟨m, e, h1, h2⟩
            · exact i2 _ _ _ _ _ (i1 _ _ _ _ h1) h2
            · cases h2
    · intro l a ts b r ha h
      rw [pL_succ] at h
      split at h
      · cases h; exact ha
      · rcases bindO_some h with ⟨c, q, h1, h2⟩ | ⟨m, e, h1, h2⟩
        · exact i2 _ _ _ _ _ (.two ha (i1 _ _ _ _ h1)) h2
        · cases h2
theorem exprT_nar {ts r : List Tk} {a : PE} (h : exprT ts = .ok a r) : Nar a := by
  have := exprT_eq ts
  rw [h] at this
  exact (p_nar _).1 _ _ _ _ this
/-- Whatever Expr gives is an expression. -/
theorem ExprV_shape (s : List UInt8) : ∃ a p e, ExprV s = .tup [exprV a, .int .i64 p, .int .i64 e] ∧ Nar a := by
  have z : V.agg [.int .i64 0, .int .i64 0, .str [], .sl false 4 []] = exprV (.mk 0 0 [] []) := rfl
  unfold ExprV
  split
  · exact ⟨.mk 0 0 [] [], _, _, by rw [z], .leaf⟩
  · split
    · exact ⟨.mk 0 0 [] [], _, _, by rw [z], .leaf⟩
    · rename_i L hs
      cases ha : allT exprT (L.map (·.1)) with
      | err m e => exact ⟨.mk 0 0 [] [], posV s.length L m, e, by simp only [z], .leaf⟩
      | ok t q =>
        refine ⟨t, 0, 0, rfl, ?_⟩
        unfold allT at ha
        cases h1 : exprT (L.map (·.1)) with
        | err m e => rw [h1] at ha; cases ha
        | ok x r =>
          rw [h1, bindP_ok] at ha
          cases h2 : endT r with
          | err m e => rw [h2] at ha; cases ha
          | ok u r2 => rw [h2, bindP_ok] at ha; cases ha; exact exprT_nar h1
end Go.Am
