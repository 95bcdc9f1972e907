/- The parser of expressions: comparisons, negations, operands. -/
import Derived.Test.YtcjglgeamdfpmaaEP4
set_option linter.unusedSimpArgs false
set_option linter.unnecessarySimpa false
set_option linter.unusedVariables false
set_option maxRecDepth 10000
namespace Go.Am
open Go Go.Pu

section
variable {x0 x1 x2 : List V} {n : Nat} {L : List (Tk × Nat)}

theorem compared_f (k : Nat) (hE : EqE x0 x1 x2 n L n_parser_reader_sum 5 k) : EqE x0 x1 x2 n L n_parser_reader_compared 4 (k + 1) := by
  intro ts r h hA
  refine acall_fn rfl (af := a_parser_reader_compared) rfl rfl ?_
  rw [pE_succ, if_neg (by decide), if_pos rfl] at h
  rcases bindO_some h with ⟨a, q, h1, h2⟩ | ⟨m, e, h1, h2⟩
  · have ea := hE ts _ h1 hA
    have hq := (p_at k).1 _ _ _ _ h1 hA
    obtain ⟨op, num, text, args⟩ := a
    simp only [rdRt, exprV] at ea
    obtain ⟨t, q, rfl⟩ := ends_ne hq.2.1
    have ep := e_peek (x0 := x0) (x1 := x1) (x2 := x2) (n := n) hq
    by_cases hk : t.kind = 4
    · obtain ⟨w, rfl⟩ : ∃ w, t = .sym w := by cases t <;> simp [Tk.kind] at hk; exact ⟨_, rfl⟩
      have hq2 := hq.tl (by simp)
      have es := e_skip (x0 := x0) (x1 := x1) (x2 := x2) (n := n) hq
      simp only [hr, tokV, Tk.kind, Tk.val, Tk.str] at ep es ea
      have hb : ∀ {x : List UInt8}, ¬ w = x → (w == x) = false := fun h => by simpa using h
      by_cases hw0 : w = [61]
      · subst hw0
        have hc : cmpOp (.sym [61] :: q) = some (7, false) := by simp [cmpOp, isSymT]
        rw [hc] at h2
        simp only [List.tail_cons] at h2
        rcases bindO_some h2 with ⟨b, q', h3, h4⟩ | ⟨m, e, h3, h4⟩
        · have eb := hE q _ h3 hq2
          obtain ⟨op2, num2, text2, args2⟩ := b
          have e2 := fun h => e_two 7 (.mk op num text args) (.mk op2 num2 text2 args2) h
          simp only [Option.some.injEq] at h4
          subst h4
          simp only [hr, exprV, exprVs, two, rdRt] at e2 eb
          simp [List.replicate, go_sem, ea, ep, es, eb, e2, rdRt, two, exprV, exprVs]
        · subst h4
          have eb := hE q _ h3 hq2
          simp only [hr, rdRt, errH, pfail] at eb
          simp [List.replicate, go_sem, ea, ep, es, eb, rdRt, errH, pfail]
      by_cases hw1 : w = [60, 62]
      · subst hw1
        have hc : cmpOp (.sym [60, 62] :: q) = some (8, false) := by simp [cmpOp, isSymT]
        rw [hc] at h2
        simp only [List.tail_cons] at h2
        rcases bindO_some h2 with ⟨b, q', h3, h4⟩ | ⟨m, e, h3, h4⟩
        · have eb := hE q _ h3 hq2
          obtain ⟨op2, num2, text2, args2⟩ := b
          have e2 := fun h => e_two 8 (.mk op num text args) (.mk op2 num2 text2 args2) h
          simp only [Option.some.injEq] at h4
          subst h4
          simp only [hr, exprV, exprVs, two, rdRt] at e2 eb
          simp [List.replicate, go_sem, ea, ep, es, eb, e2, rdRt, two, exprV, exprVs]
        · subst h4
          have eb := hE q _ h3 hq2
          simp only [hr, rdRt, errH, pfail] at eb
          simp [List.replicate, go_sem, ea, ep, es, eb, rdRt, errH, pfail]
      by_cases hw2 : w = [60]
      · subst hw2
        have hc : cmpOp (.sym [60] :: q) = some (9, false) := by simp [cmpOp, isSymT]
        rw [hc] at h2
        simp only [List.tail_cons] at h2
        rcases bindO_some h2 with ⟨b, q', h3, h4⟩ | ⟨m, e, h3, h4⟩
        · have eb := hE q _ h3 hq2
          obtain ⟨op2, num2, text2, args2⟩ := b
          have e2 := fun h => e_two 9 (.mk op num text args) (.mk op2 num2 text2 args2) h
          simp only [Option.some.injEq] at h4
          subst h4
          simp only [hr, exprV, exprVs, two, rdRt] at e2 eb
          simp [List.replicate, go_sem, ea, ep, es, eb, e2, rdRt, two, exprV, exprVs]
        · subst h4
          have eb := hE q _ h3 hq2
          simp only [hr, rdRt, errH, pfail] at eb
          simp [List.replicate, go_sem, ea, ep, es, eb, rdRt, errH, pfail]
      by_cases hw3 : w = [60, 61]
      · subst hw3
        have hc : cmpOp (.sym [60, 61] :: q) = some (10, false) := by simp [cmpOp, isSymT]
        rw [hc] at h2
        simp only [List.tail_cons] at h2
        rcases bindO_some h2 with ⟨b, q', h3, h4⟩ | ⟨m, e, h3, h4⟩
        · have eb := hE q _ h3 hq2
          obtain ⟨op2, num2, text2, args2⟩ := b
          have e2 := fun h => e_two 10 (.mk op num text args) (.mk op2 num2 text2 args2) h
          simp only [Option.some.injEq] at h4
          subst h4
          simp only [hr, exprV, exprVs, two, rdRt] at e2 eb
          simp [List.replicate, go_sem, ea, ep, es, eb, e2, rdRt, two, exprV, exprVs]
        · subst h4
          have eb := hE q _ h3 hq2
          simp only [hr, rdRt, errH, pfail] at eb
          simp [List.replicate, go_sem, ea, ep, es, eb, rdRt, errH, pfail]
      by_cases hw4 : w = [62]
      · subst hw4
        have hc : cmpOp (.sym [62] :: q) = some (9, true) := by simp [cmpOp, isSymT]
        rw [hc] at h2
        simp only [List.tail_cons] at h2
        rcases bindO_some h2 with ⟨b, q', h3, h4⟩ | ⟨m, e, h3, h4⟩
        · have eb := hE q _ h3 hq2
          obtain ⟨op2, num2, text2, args2⟩ := b
          have e2 := fun h => e_two 9 (.mk op2 num2 text2 args2) (.mk op num text args) h
          simp only [Option.some.injEq] at h4
          subst h4
          simp only [hr, exprV, exprVs, two, rdRt] at e2 eb
          simp [List.replicate, go_sem, ea, ep, es, eb, e2, rdRt, two, exprV, exprVs]
        · subst h4
          have eb := hE q _ h3 hq2
          simp only [hr, rdRt, errH, pfail] at eb
          simp [List.replicate, go_sem, ea, ep, es, eb, rdRt, errH, pfail]
      by_cases hw5 : w = [62, 61]
      · subst hw5
        have hc : cmpOp (.sym [62, 61] :: q) = some (10, true) := by simp [cmpOp, isSymT]
        rw [hc] at h2
        simp only [List.tail_cons] at h2
        rcases bindO_some h2 with ⟨b, q', h3, h4⟩ | ⟨m, e, h3, h4⟩
        · have eb := hE q _ h3 hq2
          obtain ⟨op2, num2, text2, args2⟩ := b
          have e2 := fun h => e_two 10 (.mk op2 num2 text2 args2) (.mk op num text args) h
          simp only [Option.some.injEq] at h4
          subst h4
          simp only [hr, exprV, exprVs, two, rdRt] at e2 eb
          simp [List.replicate, go_sem, ea, ep, es, eb, e2, rdRt, two, exprV, exprVs]
        · subst h4
          have eb := hE q _ h3 hq2
          simp only [hr, rdRt, errH, pfail] at eb
          simp [List.replicate, go_sem, ea, ep, es, eb, rdRt, errH, pfail]
      have hc : cmpOp (.sym w :: q) = none := by simp [cmpOp, isSymT, hw0, hw1, hw2, hw3, hw4, hw5]
      rw [hc] at h2
      simp only [Option.some.injEq] at h2
      subst h2
      simp [List.replicate, go_sem, ea, ep, hb hw0, hb hw1, hb hw2, hb hw3, hb hw4, hb hw5, rdRt, exprV]
    · have hk' : ¬ (t.kind : Int) = 4 := by omega
      have hc : cmpOp (t :: q) = none := by simp only [cmpOp, isSymT_tk, hk]; simp
      rw [hc] at h2
      simp only [Option.some.injEq] at h2
      subst h2
      simp only [hr, tokV] at ep ea
      simp [List.replicate, go_sem, ea, ep, nt' hk', rdRt, exprV]
  · subst h2
    have ea := hE ts _ h1 hA
    simp only [hr, rdRt, errH, pfail] at ea
    simp [List.replicate, go_sem, ea, rdRt, errH, pfail]

/-- So many negations. -/
def negs : Nat → PE → PE
  | 0, a => a
  | c + 1, a => negs c (neg a)
def negR (c : Nat) : PR PE → PR PE
  | .ok a q => .ok (negs c a) q
  | .err m e => .err m e

theorem neg_l2 (H : Heap) (hH : H.length = 4) : ∀ (c : Nat) (a : PE), c ≤ 70000 →
    Run mach0 (.c parser_reader_negated_l2b :: .lp parser_reader_negated_l2 :: .endB 2 :: .c parser_reader_negated_k1 :: []) .norm ⟨(.undef :: .undef :: box0 :: .int .i64 c :: .box (exprC a) :: .undef :: .undef :: .undef :: .undef :: .undef :: .undef :: .undef :: .undef :: .undef :: .undef :: .undef :: .undef :: .undef :: .undef :: []), H⟩ (FinQ [.cell 2 (some 4)] 4 (.ret (exprV (negs c a)) H)) := by
  intro c
  induction c with
  | zero =>
    intro a _
    obtain ⟨op, num, text, args⟩ := a
    unfold parser_reader_negated_l2b
    simp [go_sem, exprC, parser_reader_negated_k1]
    simp [go_sem, parser_reader_negated_k1b, negs, exprV, exprC, List.take_of_length_le (show H.length ≤ 4 by omega)]
  | succ c ih =>
    intro a hc
    have ih := ih (neg a) (by omega)
    have q : (0 : Int) < (c : Int) + 1 := by omega
    have w : IntKind.wrap .i64 (c : Int) = c := wrap_i64 (by omega)
    obtain ⟨op, num, text, args⟩ := a
    simp only [neg, exprC, exprVs, exprV] at ih
    unfold parser_reader_negated_l2b
    simp [go_sem, q, w, exprC]
    simpa [negs, neg] using ih

theorem neg_l1 : ∀ k, (∀ m, m < k → EqE x0 x1 x2 n L n_parser_reader_compared 4 m) → ∀ (c : Nat) ts r, pE k 3 ts = some r → At L ts → c + ts.length ≤ 70000 →
    Run mach0 (.c parser_reader_negated_l1b :: .lp parser_reader_negated_l1 :: .endB 0 :: .c parser_reader_negated_k2 :: []) .norm ⟨(.ptr 3 0 :: .undef :: box0 :: .int .i64 c :: .undef :: .undef :: .undef :: .undef :: .undef :: .undef :: .undef :: .undef :: .undef :: .undef :: .undef :: .undef :: .undef :: .undef :: .undef :: []), hr x0 x1 x2 n L ts.length⟩ (kX x0 x1 x2 n L (negR c r)) := by
  intro k
  induction k with
  | zero => intro _ c ts r h; simp [pE] at h
  | succ k ih =>
    intro hE c ts r h hA hc
    have ih := ih (fun m hm => hE m (by omega))
    have hE := hE k (by omega)
    obtain ⟨t, ts, rfl⟩ := ends_ne hA.2.1
    have et := e_takeWord (x0 := x0) (x1 := x1) (x2 := x2) (n := n) kNot hA
    rw [pE_succ, if_pos rfl] at h
    simp only [List.length_cons] at hc
    by_cases hw : isWord kNot (t :: ts) = true
    · have hA2 := hA.word hw
      simp only [List.tail_cons] at hA2
      rw [if_pos hw] at h
      simp only [hw] at et
      simp only [kNot, if_true] at et
      simp only [List.tail_cons] at h
      have w : IntKind.wrap .i64 ((c : Int) + 1) = (c : Int) + 1 := wrap_i64 (by omega)
      have key : ∃ r', pE k 3 ts = some r' ∧ negR c r = negR (c + 1) r' := by
        rcases bindO_some h with ⟨b, q, h1, h2⟩ | ⟨m, e, h1, h2⟩
        · cases h2; exact ⟨_, h1, rfl⟩
        · subst h2; exact ⟨_, h1, rfl⟩
      obtain ⟨r', h1, h2⟩ := key
      have ih := ih (c + 1) ts r' h1 hA2 (by omega)
      rw [h2]
      unfold parser_reader_negated_l1b
      simp [go_sem, et, w]
      simpa using ih
    · have hw : isWord kNot (t :: ts) = false := by simpa using hw
      rw [hw, if_neg (by decide)] at h
      simp only [hw] at et
      simp [kNot] at et
      have eb := hE (t :: ts) _ h hA
      simp only [List.length_cons] at eb
      unfold parser_reader_negated_l1b
      simp [go_sem, et, parser_reader_negated_k2]
      unfold parser_reader_negated_k2b
      cases r with
      | ok a q =>
        have l2 := neg_l2 (hr x0 x1 x2 n L q.length) rfl c a (by omega)
        obtain ⟨op, num, text, args⟩ := a
        simp only [rdRt, exprV] at eb
        simp only [exprC] at l2
        simp [go_sem, eb]
        simpa [kX, hr, rdRt, negR] using l2
      | err m e =>
        simp only [rdRt, errH, pfail] at eb
        simp [go_sem, eb, rdRt, errH, pfail, negR, kX]

theorem negated_f (k : Nat) (hE : ∀ m, m < k → EqE x0 x1 x2 n L n_parser_reader_compared 4 m) : EqE x0 x1 x2 n L n_parser_reader_negated 3 k := by
  intro ts r h hA
  refine acall_fn rfl (af := a_parser_reader_negated) rfl rfl ?_
  have hl := hA.len
  have h70 := hA.2.2
  have el := neg_l1 k hE 0 ts r h hA (by omega)
  have e0 : negR 0 r = r := by cases r <;> rfl
  rw [e0] at el
  simp [List.replicate, go_sem]
  simpa [kX, hr] using el

theorem primary_f (k : Nat) (hE : EqE x0 x1 x2 n L n_parser_reader_either 1 k) : EqE x0 x1 x2 n L n_parser_reader_primary 7 (k + 1) := by
  intro ts r h hA
  refine acall_fn rfl (af := a_parser_reader_primary) rfl rfl ?_
  obtain ⟨t, ts, rfl⟩ := ends_ne hA.2.1
  have ep := e_peek (x0 := x0) (x1 := x1) (x2 := x2) (n := n) hA
  have es := e_skip (x0 := x0) (x1 := x1) (x2 := x2) (n := n) hA
  have en := e_pnumber (x0 := x0) (x1 := x1) (x2 := x2) (n := n) hA
  have em := e_name (x0 := x0) (x1 := x1) (x2 := x2) (n := n) hA
  have eo := e_needSymbol (x0 := x0) (x1 := x1) (x2 := x2) (n := n) [40] hA
  rw [pE_succ, if_neg (by decide), if_neg (by decide), if_pos rfl] at h
  have par : (if isSymT [40] (t :: ts) then bindO (pE k 1 ts) fun a r => (if isSymT [41] r then some (.ok a r.tail) else some (failT r 1)) else some (failT (t :: ts) 1)) = some r → (t.kind ≠ 1 ∧ t.kind ≠ 2 ∧ t.kind ≠ 3) →
      Run mach0 (It.c a_parser_reader_primary.body :: []) .norm ⟨[V.ptr 3 0] ++ List.replicate (49 - [V.ptr 3 0].length) .undef, hr x0 x1 x2 n L (t :: ts).length⟩ (FinQ [.cell 2 (some 4)] (hr x0 x1 x2 n L (t :: ts).length).length (rdRt x0 x1 x2 n L exprV r)) := by
    intro h hk
    have k1 : ¬ (t.kind : Int) = 1 := by omega
    have k2 : ¬ (t.kind : Int) = 2 := by omega
    have k3 : ¬ (t.kind : Int) = 3 := by omega
    simp only [hr, tokV] at ep
    unfold needS at eo
    by_cases hw : isSymT [40] (t :: ts) = true
    · have hA2 := hA.sym hw
      simp only [List.tail_cons] at hA2
      rw [if_pos hw] at h eo
      simp only [hr, rdRt, noneV, List.tail_cons] at eo
      rcases bindO_some h with ⟨a, q, h1, h2⟩ | ⟨m, e, h1, h2⟩
      · have ea := hE ts _ h1 hA2
        have hq := (p_at k).1 _ _ _ _ h1 hA2
        obtain ⟨u, q, rfl⟩ := ends_ne hq.2.1
        have ec := e_needSymbol (x0 := x0) (x1 := x1) (x2 := x2) (n := n) [41] hq
        obtain ⟨op, num, text, args⟩ := a
        simp only [hr, rdRt, exprV] at ea
        unfold needS at ec
        by_cases hw2 : isSymT [41] (u :: q) = true
        · rw [if_pos hw2] at h2 ec
          simp only [Option.some.injEq] at h2
          subst h2
          simp only [hr, rdRt, noneV, List.tail_cons] at ec
          simp [a_parser_reader_primary, List.replicate, go_sem, ep, bf' k1, bf' k2, bf' k3, eo, ea, ec, rdRt, exprV]
        · rw [if_neg hw2] at h2 ec
          simp only [Option.some.injEq] at h2
          subst h2
          simp only [rdRt, failT, errH, pfail] at ec
          simp at ec
          simp [a_parser_reader_primary, List.replicate, go_sem, ep, bf' k1, bf' k2, bf' k3, eo, ea, ec, rdRt, failT, errH, pfail]
      · subst h2
        have ea := hE ts _ h1 hA2
        simp only [hr, rdRt, errH, pfail] at ea
        simp [a_parser_reader_primary, List.replicate, go_sem, ep, bf' k1, bf' k2, bf' k3, eo, ea, rdRt, errH, pfail]
    · rw [if_neg hw] at h eo
      simp only [Option.some.injEq] at h
      subst h
      simp only [rdRt, failT, errH, pfail] at eo
      simp at eo
      simp [a_parser_reader_primary, List.replicate, go_sem, ep, bf' k1, bf' k2, bf' k3, eo, rdRt, failT, errH, pfail]
  cases t with
  | num d =>
    simp only [numberT] at en
    simp only [hr, tokV, Tk.kind, Tk.val, Tk.str] at ep en
    simp only at h
    by_cases hn : numB d = true
    · rw [if_pos hn] at h en
      simp only [Option.some.injEq] at h
      subst h
      simp only [rdRt] at en
      simp [List.replicate, go_sem, ep, en, rdRt, exprV, exprVs]
    · rw [if_neg hn] at h en
      simp only [Option.some.injEq] at h
      subst h
      simp only [rdRt, failT, errH, pfail] at en
      simp at en
      simp [List.replicate, go_sem, ep, en, rdRt, failT, errH, pfail]
  | text s =>
    simp only [hr, tokV, Tk.kind, Tk.val, Tk.str] at ep es
    simp only [Option.some.injEq] at h
    subst h
    simp [List.replicate, go_sem, ep, es, rdRt, exprV, exprVs]
  | word w =>
    simp only [nameT] at em
    simp only [hr, tokV, Tk.kind, Tk.val, Tk.str] at ep es em
    simp only at h
    by_cases ha : isAttr w = true
    · rw [if_pos ha] at h
      simp only [Option.some.injEq] at h
      subst h
      simp [List.replicate, go_sem, ep, es, e_attribute, ha, rdRt, exprV, exprVs]
    · rw [if_neg ha] at h
      have ha : isAttr w = false := by simpa using ha
      by_cases hw : isKw w = true
      · rw [if_pos hw] at h em
        simp only [Option.some.injEq] at h
        subst h
        simp only [rdRt, failT, errH, pfail] at em
        simp at em
        simp [List.replicate, go_sem, ep, em, e_attribute, ha, rdRt, failT, errH, pfail]
      · rw [if_neg hw] at h em
        simp only [Option.some.injEq] at h
        subst h
        simp only [rdRt] at em
        simp [List.replicate, go_sem, ep, em, e_attribute, ha, rdRt, exprV, exprVs]
  | sym s => exact par h (by simp [Tk.kind])
  | fin => exact par h (by simp [Tk.kind])

/-- The parser of expressions does as the plain one. -/
theorem expr_all (k : Nat) : EqE x0 x1 x2 n L n_parser_reader_either 1 k ∧ EqE x0 x1 x2 n L n_parser_reader_both 2 k ∧ EqE x0 x1 x2 n L n_parser_reader_negated 3 k ∧ EqE x0 x1 x2 n L n_parser_reader_compared 4 k ∧ EqE x0 x1 x2 n L n_parser_reader_sum 5 k ∧ EqE x0 x1 x2 n L n_parser_reader_product 6 k ∧ EqE x0 x1 x2 n L n_parser_reader_primary 7 k := by
  induction k using Nat.strongRecOn with
  | _ k ih =>
    cases k with
    | zero => refine ⟨?_, ?_, ?_, ?_, ?_, ?_, ?_⟩ <;> (intro ts r h; simp [pE] at h)
    | succ k =>
      have ih := fun m (hm : m ≤ k) => ih m (by omega)
      refine ⟨either_f k fun m hm => (ih m hm).2.1, both_f k fun m hm => (ih m hm).2.2.1, negated_f (k + 1) fun m hm => (ih m (by omega)).2.2.2.1, compared_f k (ih k (by omega)).2.2.2.2.1, sum_f k fun m hm => (ih m hm).2.2.2.2.2.1, product_f k fun m hm => (ih m hm).2.2.2.2.2.2, primary_f k (ih k (by omega)).1⟩

theorem e_either {ts : List Tk} (hA : At L ts) : acall mach0 n_parser_reader_either [.ptr 3 0] (hr x0 x1 x2 n L ts.length) = some (rdRt x0 x1 x2 n L exprV (exprT ts)) :=
  (expr_all (10 * ts.length + 10)).1 ts _ (exprT_eq ts) hA
end
end Go.Am
