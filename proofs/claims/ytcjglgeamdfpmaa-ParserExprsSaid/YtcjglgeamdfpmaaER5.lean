/- The reference's expressions: comparisons, negations, operands. -/
import Derived.Test.YtcjglgeamdfpmaaER4
set_option linter.unusedSimpArgs false
set_option linter.unnecessarySimpa false
set_option linter.unusedVariables false
set_option maxRecDepth 10000
namespace Go.Am
open Go Go.Pu

section
variable {n : Nat} {L : List (Tk × Nat)}

theorem resH_take {α : Type} (r : PR α) : List.take 1 (resH n L r) = resH n L r := by cases r <;> rfl

theorem compared_fE (hS : ErrR n L n_billingref24_Reader_sum) : ErrR n L n_billingref24_Reader_compared := by
  intro e us he hA
  obtain ⟨a', ea⟩ := hS e us he hA
  have et0 := f_acceptE (n := n) [61] e he hA
  have et1 := f_acceptE (n := n) [60, 62] e he hA
  have et2 := f_acceptE (n := n) [60] e he hA
  have et3 := f_acceptE (n := n) [60, 61] e he hA
  have et4 := f_acceptE (n := n) [62] e he hA
  have et5 := f_acceptE (n := n) [62, 61] e he hA
  refine ⟨a', acall_fn rfl (af := a_billingref24_Reader_compared) rfl rfl ?_⟩
  obtain ⟨op, num, text, args⟩ := a'
  simp only [exprV] at ea ⊢
  simp [List.replicate, go_sem, ea, et0, et1, et2, et3, et4, et5]
theorem compared_fR (k : Nat) (hE : EqR n L n_billingref24_Reader_sum 5 k) : EqR n L n_billingref24_Reader_compared 4 (k + 1) := by
  intro ts r h hA ho
  have hpe := fun m e (hr : r = .err m e) => p_err (k + 1) 4 ts m e (hr ▸ h) hA
  rw [pE_succ, if_neg (by decide), if_pos rfl] at h
  rcases bindO_some h with ⟨a, q, h1, h2⟩ | ⟨m, e, h1, h2⟩
  · obtain ⟨a', ea, ha, _⟩ := hE ts _ h1 hA ho
    obtain rfl := ha a q rfl
    have hq := (p_at k).1 _ _ _ _ h1 hA
    have hoq := okT.p ho h1
    simp only [resH] at ea
    have et0 := f_accept0 (n := n) [61] hq
    rw [isA_sym hoq (by decide)] at et0
    have et1 := f_accept0 (n := n) [60, 62] hq
    rw [isA_sym hoq (by decide)] at et1
    have et2 := f_accept0 (n := n) [60] hq
    rw [isA_sym hoq (by decide)] at et2
    have et3 := f_accept0 (n := n) [60, 61] hq
    rw [isA_sym hoq (by decide)] at et3
    have et4 := f_accept0 (n := n) [62] hq
    rw [isA_sym hoq (by decide)] at et4
    have et5 := f_accept0 (n := n) [62, 61] hq
    rw [isA_sym hoq (by decide)] at et5
    by_cases hw0 : isSymT [61] q = true
    · have hc : cmpOp q = some (7, false) := by simp [cmpOp, hw0]
      have hA2 := hq.sym hw0
      have ho2 := okT.tail hoq
      simp only [hw0, if_true] at et0
      rw [hc] at h2
      simp only at h2
      rcases bindO_some h2 with ⟨b, q', h3, h4⟩ | ⟨m, e, h3, h4⟩
      · obtain ⟨b', eb, hb, _⟩ := hE _ _ h3 hA2 ho2
        obtain rfl := hb b q' rfl
        simp only [Option.some.injEq] at h4
        subst h4
        refine ⟨two 7 a' b', acall_fn rfl (af := a_billingref24_Reader_compared) rfl rfl ?_, (fun c q hh => by cases hh; rfl), hpe⟩
        have e2 := fun h => f_two 7 a' b' h
        obtain ⟨op, num, text, args⟩ := a'
        obtain ⟨op2, num2, text2, args2⟩ := b'
        simp only [resH] at eb ⊢
        simp only [two, exprV, exprVs] at ea eb e2 ⊢
        generalize q.tail = tl at *
        simp [List.replicate, go_sem, ea, et0, eb, e2]
      · subst h4
        obtain ⟨b', eb, _, _⟩ := hE _ _ h3 hA2 ho2
        refine ⟨two 7 a' b', acall_fn rfl (af := a_billingref24_Reader_compared) rfl rfl ?_, (fun c q hh => by cases hh), hpe⟩
        have e2 := fun h => f_two 7 a' b' h
        obtain ⟨op, num, text, args⟩ := a'
        obtain ⟨op2, num2, text2, args2⟩ := b'
        simp only [resH] at eb ⊢
        simp only [two, exprV, exprVs] at ea eb e2 ⊢
        generalize q.tail = tl at *
        simp [List.replicate, go_sem, ea, et0, eb, e2]
    have hw0 : isSymT [61] q = false := by simpa using hw0
    simp [hw0] at et0
    by_cases hw1 : isSymT [60, 62] q = true
    · have hc : cmpOp q = some (8, false) := by simp [cmpOp, hw0, hw1]
      have hA2 := hq.sym hw1
      have ho2 := okT.tail hoq
      simp only [hw1, if_true] at et1
      rw [hc] at h2
      simp only at h2
      rcases bindO_some h2 with ⟨b, q', h3, h4⟩ | ⟨m, e, h3, h4⟩
      · obtain ⟨b', eb, hb, _⟩ := hE _ _ h3 hA2 ho2
        obtain rfl := hb b q' rfl
        simp only [Option.some.injEq] at h4
        subst h4
        refine ⟨two 8 a' b', acall_fn rfl (af := a_billingref24_Reader_compared) rfl rfl ?_, (fun c q hh => by cases hh; rfl), hpe⟩
        have e2 := fun h => f_two 8 a' b' h
        obtain ⟨op, num, text, args⟩ := a'
        obtain ⟨op2, num2, text2, args2⟩ := b'
        simp only [resH] at eb ⊢
        simp only [two, exprV, exprVs] at ea eb e2 ⊢
        generalize q.tail = tl at *
        simp [List.replicate, go_sem, ea, et0, et1, eb, e2]
      · subst h4
        obtain ⟨b', eb, _, _⟩ := hE _ _ h3 hA2 ho2
        refine ⟨two 8 a' b', acall_fn rfl (af := a_billingref24_Reader_compared) rfl rfl ?_, (fun c q hh => by cases hh), hpe⟩
        have e2 := fun h => f_two 8 a' b' h
        obtain ⟨op, num, text, args⟩ := a'
        obtain ⟨op2, num2, text2, args2⟩ := b'
        simp only [resH] at eb ⊢
        simp only [two, exprV, exprVs] at ea eb e2 ⊢
        generalize q.tail = tl at *
        simp [List.replicate, go_sem, ea, et0, et1, eb, e2]
    have hw1 : isSymT [60, 62] q = false := by simpa using hw1
    simp [hw1] at et1
    by_cases hw2 : isSymT [60] q = true
    · have hc : cmpOp q = some (9, false) := by simp [cmpOp, hw0, hw1, hw2]
      have hA2 := hq.sym hw2
      have ho2 := okT.tail hoq
      simp only [hw2, if_true] at et2
      rw [hc] at h2
      simp only at h2
      rcases bindO_some h2 with ⟨b, q', h3, h4⟩ | ⟨m, e, h3, h4⟩
      · obtain ⟨b', eb, hb, _⟩ := hE _ _ h3 hA2 ho2
        obtain rfl := hb b q' rfl
        simp only [Option.some.injEq] at h4
        subst h4
        refine ⟨two 9 a' b', acall_fn rfl (af := a_billingref24_Reader_compared) rfl rfl ?_, (fun c q hh => by cases hh; rfl), hpe⟩
        have e2 := fun h => f_two 9 a' b' h
        obtain ⟨op, num, text, args⟩ := a'
        obtain ⟨op2, num2, text2, args2⟩ := b'
        simp only [resH] at eb ⊢
        simp only [two, exprV, exprVs] at ea eb e2 ⊢
        generalize q.tail = tl at *
        simp [List.replicate, go_sem, ea, et0, et1, et2, eb, e2]
      · subst h4
        obtain ⟨b', eb, _, _⟩ := hE _ _ h3 hA2 ho2
        refine ⟨two 9 a' b', acall_fn rfl (af := a_billingref24_Reader_compared) rfl rfl ?_, (fun c q hh => by cases hh), hpe⟩
        have e2 := fun h => f_two 9 a' b' h
        obtain ⟨op, num, text, args⟩ := a'
        obtain ⟨op2, num2, text2, args2⟩ := b'
        simp only [resH] at eb ⊢
        simp only [two, exprV, exprVs] at ea eb e2 ⊢
        generalize q.tail = tl at *
        simp [List.replicate, go_sem, ea, et0, et1, et2, eb, e2]
    have hw2 : isSymT [60] q = false := by simpa using hw2
    simp [hw2] at et2
    by_cases hw3 : isSymT [60, 61] q = true
    · have hc : cmpOp q = some (10, false) := by simp [cmpOp, hw0, hw1, hw2, hw3]
      have hA2 := hq.sym hw3
      have ho2 := okT.tail hoq
      simp only [hw3, if_true] at et3
      rw [hc] at h2
      simp only at h2
      rcases bindO_some h2 with ⟨b, q', h3, h4⟩ | ⟨m, e, h3, h4⟩
      · obtain ⟨b', eb, hb, _⟩ := hE _ _ h3 hA2 ho2
        obtain rfl := hb b q' rfl
        simp only [Option.some.injEq] at h4
        subst h4
        refine ⟨two 10 a' b', acall_fn rfl (af := a_billingref24_Reader_compared) rfl rfl ?_, (fun c q hh => by cases hh; rfl), hpe⟩
        have e2 := fun h => f_two 10 a' b' h
        obtain ⟨op, num, text, args⟩ := a'
        obtain ⟨op2, num2, text2, args2⟩ := b'
        simp only [resH] at eb ⊢
        simp only [two, exprV, exprVs] at ea eb e2 ⊢
        generalize q.tail = tl at *
        simp [List.replicate, go_sem, ea, et0, et1, et2, et3, eb, e2]
      · subst h4
        obtain ⟨b', eb, _, _⟩ := hE _ _ h3 hA2 ho2
        refine ⟨two 10 a' b', acall_fn rfl (af := a_billingref24_Reader_compared) rfl rfl ?_, (fun c q hh => by cases hh), hpe⟩
        have e2 := fun h => f_two 10 a' b' h
        obtain ⟨op, num, text, args⟩ := a'
        obtain ⟨op2, num2, text2, args2⟩ := b'
        simp only [resH] at eb ⊢
        simp only [two, exprV, exprVs] at ea eb e2 ⊢
        generalize q.tail = tl at *
        simp [List.replicate, go_sem, ea, et0, et1, et2, et3, eb, e2]
    have hw3 : isSymT [60, 61] q = false := by simpa using hw3
    simp [hw3] at et3
    by_cases hw4 : isSymT [62] q = true
    · have hc : cmpOp q = some (9, true) := by simp [cmpOp, hw0, hw1, hw2, hw3, hw4]
      have hA2 := hq.sym hw4
      have ho2 := okT.tail hoq
      simp only [hw4, if_true] at et4
      rw [hc] at h2
      simp only at h2
      rcases bindO_some h2 with ⟨b, q', h3, h4⟩ | ⟨m, e, h3, h4⟩
      · obtain ⟨b', eb, hb, _⟩ := hE _ _ h3 hA2 ho2
        obtain rfl := hb b q' rfl
        simp only [Option.some.injEq] at h4
        subst h4
        refine ⟨two 9 b' a', acall_fn rfl (af := a_billingref24_Reader_compared) rfl rfl ?_, (fun c q hh => by cases hh; rfl), hpe⟩
        have e2 := fun h => f_two 9 b' a' h
        obtain ⟨op, num, text, args⟩ := a'
        obtain ⟨op2, num2, text2, args2⟩ := b'
        simp only [resH] at eb ⊢
        simp only [two, exprV, exprVs] at ea eb e2 ⊢
        generalize q.tail = tl at *
        simp [List.replicate, go_sem, ea, et0, et1, et2, et3, et4, eb, e2]
      · subst h4
        obtain ⟨b', eb, _, _⟩ := hE _ _ h3 hA2 ho2
        refine ⟨two 9 b' a', acall_fn rfl (af := a_billingref24_Reader_compared) rfl rfl ?_, (fun c q hh => by cases hh), hpe⟩
        have e2 := fun h => f_two 9 b' a' h
        obtain ⟨op, num, text, args⟩ := a'
        obtain ⟨op2, num2, text2, args2⟩ := b'
        simp only [resH] at eb ⊢
        simp only [two, exprV, exprVs] at ea eb e2 ⊢
        generalize q.tail = tl at *
        simp [List.replicate, go_sem, ea, et0, et1, et2, et3, et4, eb, e2]
    have hw4 : isSymT [62] q = false := by simpa using hw4
    simp [hw4] at et4
    by_cases hw5 : isSymT [62, 61] q = true
    · have hc : cmpOp q = some (10, true) := by simp [cmpOp, hw0, hw1, hw2, hw3, hw4, hw5]
      have hA2 := hq.sym hw5
      have ho2 := okT.tail hoq
      simp only [hw5, if_true] at et5
      rw [hc] at h2
      simp only at h2
      rcases bindO_some h2 with ⟨b, q', h3, h4⟩ | ⟨m, e, h3, h4⟩
      · obtain ⟨b', eb, hb, _⟩ := hE _ _ h3 hA2 ho2
        obtain rfl := hb b q' rfl
        simp only [Option.some.injEq] at h4
        subst h4
        refine ⟨two 10 b' a', acall_fn rfl (af := a_billingref24_Reader_compared) rfl rfl ?_, (fun c q hh => by cases hh; rfl), hpe⟩
        have e2 := fun h => f_two 10 b' a' h
        obtain ⟨op, num, text, args⟩ := a'
        obtain ⟨op2, num2, text2, args2⟩ := b'
        simp only [resH] at eb ⊢
        simp only [two, exprV, exprVs] at ea eb e2 ⊢
        generalize q.tail = tl at *
        simp [List.replicate, go_sem, ea, et0, et1, et2, et3, et4, et5, eb, e2]
      · subst h4
        obtain ⟨b', eb, _, _⟩ := hE _ _ h3 hA2 ho2
        refine ⟨two 10 b' a', acall_fn rfl (af := a_billingref24_Reader_compared) rfl rfl ?_, (fun c q hh => by cases hh), hpe⟩
        have e2 := fun h => f_two 10 b' a' h
        obtain ⟨op, num, text, args⟩ := a'
        obtain ⟨op2, num2, text2, args2⟩ := b'
        simp only [resH] at eb ⊢
        simp only [two, exprV, exprVs] at ea eb e2 ⊢
        generalize q.tail = tl at *
        simp [List.replicate, go_sem, ea, et0, et1, et2, et3, et4, et5, eb, e2]
    have hw5 : isSymT [62, 61] q = false := by simpa using hw5
    simp [hw5] at et5
    have hc : cmpOp q = none := by simp [cmpOp, hw0, hw1, hw2, hw3, hw4, hw5]
    rw [hc] at h2
    simp only [Option.some.injEq] at h2
    subst h2
    refine ⟨a', acall_fn rfl (af := a_billingref24_Reader_compared) rfl rfl ?_, (fun c q hh => by cases hh; rfl), hpe⟩
    obtain ⟨op, num, text, args⟩ := a'
    simp only [resH, exprV] at ea ⊢
    simp [List.replicate, go_sem, ea, et0, et1, et2, et3, et4, et5]
  · subst h2
    obtain ⟨a', ea, _, ha⟩ := hE ts _ h1 hA ho
    obtain ⟨he, us, hu, hul⟩ := ha m e rfl
    subst hul
    have et0 := f_acceptE (n := n) [61] e he hu
    have et1 := f_acceptE (n := n) [60, 62] e he hu
    have et2 := f_acceptE (n := n) [60] e he hu
    have et3 := f_acceptE (n := n) [60, 61] e he hu
    have et4 := f_acceptE (n := n) [62] e he hu
    have et5 := f_acceptE (n := n) [62, 61] e he hu
    refine ⟨a', acall_fn rfl (af := a_billingref24_Reader_compared) rfl rfl ?_, (fun c q hh => by cases hh), hpe⟩
    obtain ⟨op, num, text, args⟩ := a'
    simp only [resH, exprV] at ea ⊢
    simp [List.replicate, go_sem, ea, et0, et1, et2, et3, et4, et5]

theorem negated_fE (hS : ErrR n L n_billingref24_Reader_compared) : ErrR n L n_billingref24_Reader_negated := by
  intro e us he hA
  obtain ⟨a', ea⟩ := hS e us he hA
  have et := f_acceptE (n := n) [110, 111, 116] e he hA
  refine ⟨a', acall_fn rfl (af := a_billingref24_Reader_negated) rfl rfl ?_⟩
  obtain ⟨op, num, text, args⟩ := a'
  simp only [exprV] at ea ⊢
  simp [List.replicate, go_sem, ea, et]
theorem negated_fR (k : Nat) (hN : EqR n L n_billingref24_Reader_negated 3 k) (hE : EqR n L n_billingref24_Reader_compared 4 k) : EqR n L n_billingref24_Reader_negated 3 (k + 1) := by
  intro ts r h hA ho
  have hpe := fun m e (hr : r = .err m e) => p_err (k + 1) 3 ts m e (hr ▸ h) hA
  have et := f_accept0 (n := n) [110, 111, 116] hA
  rw [isA_word ho (by decide)] at et
  rw [pE_succ, if_pos rfl] at h
  by_cases hw : isWord kNot ts = true
  · have hA2 := hA.word hw
    have ho2 := okT.tail ho
    rw [if_pos hw] at h
    simp only [kNot] at hw
    simp only [hw, if_true] at et
    rcases bindO_some h with ⟨b, q, h1, h2⟩ | ⟨m, e, h1, h2⟩
    · obtain ⟨b', eb, hb, _⟩ := hN _ _ h1 hA2 ho2
      obtain rfl := hb b q rfl
      simp only [Option.some.injEq] at h2
      subst h2
      refine ⟨neg b', acall_fn rfl (af := a_billingref24_Reader_negated) rfl rfl ?_, (fun c q hh => by cases hh; rfl), hpe⟩
      obtain ⟨op, num, text, args⟩ := b'
      simp only [resH] at eb ⊢
      simp only [neg, exprV, exprVs] at eb ⊢
      generalize ts.tail = tl at *
      simp [List.replicate, go_sem, et, eb]
    · subst h2
      obtain ⟨b', eb, _, _⟩ := hN _ _ h1 hA2 ho2
      refine ⟨neg b', acall_fn rfl (af := a_billingref24_Reader_negated) rfl rfl ?_, (fun c q hh => by cases hh), hpe⟩
      obtain ⟨op, num, text, args⟩ := b'
      simp only [resH] at eb ⊢
      simp only [neg, exprV, exprVs] at eb ⊢
      generalize ts.tail = tl at *
      simp [List.replicate, go_sem, et, eb]
  · have hw : isWord kNot ts = false := by simpa using hw
    rw [hw, if_neg (by decide)] at h
    simp only [kNot] at hw
    simp [hw] at et
    obtain ⟨a', ea, ha, _⟩ := hE _ _ h hA ho
    refine ⟨a', acall_fn rfl (af := a_billingref24_Reader_negated) rfl rfl ?_, ha, hpe⟩
    obtain ⟨op, num, text, args⟩ := a'
    simp only [exprV] at ea ⊢
    simp [List.replicate, go_sem, et, ea, resH_take]

def pe0 : PE := .mk 0 0 [] []
theorem primary_fE : ErrR n L n_billingref24_Reader_primary := by
  intro e us he hA
  obtain ⟨t, us, rfl⟩ := ends_ne hA.2.1
  have e1 := f_now (n := n) e hA
  have he' : ¬ (e : Int) = 0 := by omega
  refine ⟨pe0, acall_fn rfl (af := a_billingref24_Reader_primary) rfl rfl ?_⟩
  simp only [hf, tokV] at e1 ⊢
  simp [List.replicate, go_sem, e1, nt' he', pe0, exprV, exprVs]

theorem primary_fR (k : Nat) (hE : EqR n L n_billingref24_Reader_expr 1 k) (hS : ErrR n L n_billingref24_Reader_expr) : EqR n L n_billingref24_Reader_primary 7 (k + 1) := by
  intro ts r h hA ho
  have hpe := fun m e (hr : r = .err m e) => p_err (k + 1) 7 ts m e (hr ▸ h) hA
  obtain ⟨t, ts, rfl⟩ := ends_ne hA.2.1
  have ep := f_now (n := n) 0 hA
  have epl := f_plain0 (n := n) hA
  have e40 := f_expect0 (n := n) [40] hA
  rw [isA_sym ho (by decide)] at e40
  rw [pE_succ, if_neg (by decide), if_neg (by decide), if_pos rfl] at h
  have par : (if isSymT [40] (t :: ts) then bindO (pE k 1 ts) fun a r => (if isSymT [41] r then some (.ok a r.tail) else some (failT r 1)) else some (failT (t :: ts) 1)) = some r → (t.kind ≠ 1 ∧ t.kind ≠ 2 ∧ t.kind ≠ 3) →
      ∃ a, Run mach0 (It.c a_billingref24_Reader_primary.body :: []) .norm ⟨[V.ptr 0 0] ++ List.replicate (53 - [V.ptr 0 0].length) .undef, hf n L (t :: ts).length 0⟩ (FinQ [.cell 2 (some 4)] 1 (.ret (exprV a) (resH n L r))) ∧ (∀ b q, r = .ok b q → a = b) := by
    intro h hk
    have k1 : ¬ (t.kind : Int) = 1 := by omega
    have k2 : ¬ (t.kind : Int) = 2 := by omega
    have k3 : ¬ (t.kind : Int) = 3 := by omega
    have k1n : decide (t.kind = 1) = false := by simp [hk.1]
    rw [k1n] at epl
    simp only [tokV] at ep
    simp at epl
    by_cases hw : isSymT [40] (t :: ts) = true
    · have hA2 := hA.sym hw
      have ho2 := okT.tail ho
      simp only [List.tail_cons] at hA2 ho2
      rw [if_pos hw] at h e40
      simp only [List.tail_cons, List.length_cons] at e40
      rcases bindO_some h with ⟨a, q, h1, h2⟩ | ⟨m, e, h1, h2⟩
      · obtain ⟨a', ea, ha, _⟩ := hE _ _ h1 hA2 ho2
        obtain rfl := ha a q rfl
        have hq := (p_at k).1 _ _ _ _ h1 hA2
        have hoq := okT.p ho2 h1
        have e41 := f_expect0 (n := n) [41] hq
        rw [isA_sym hoq (by decide)] at e41
        refine ⟨a', ?_, ?_⟩
        · obtain ⟨op, num, text, args⟩ := a'
          simp only [resH, exprV] at ea ⊢
          by_cases hw2 : isSymT [41] q = true
          · rw [if_pos hw2] at h2 e41
            simp only [Option.some.injEq] at h2
            subst h2
            simp only
            generalize q.tail = tl at *
            simp [a_billingref24_Reader_primary, List.replicate, go_sem, ep, bf' k1, bf' k2, bf' k3, epl, e40, ea, e41]
          · rw [if_neg hw2] at h2 e41
            simp only [Option.some.injEq] at h2
            subst h2
            simp only [failT]
            simp [a_billingref24_Reader_primary, List.replicate, go_sem, ep, bf' k1, bf' k2, bf' k3, epl, e40, ea, e41]
        · intro b q' hr
          subst hr
          split at h2
          · cases h2; rfl
          · cases h2
      · subst h2
        obtain ⟨a', ea, _, ha⟩ := hE _ _ h1 hA2 ho2
        obtain ⟨he, us, hu, hul⟩ := ha m e rfl
        subst hul
        have e41 := f_expectE (n := n) [41] e he hu
        refine ⟨a', ?_, (fun c q hh => by cases hh)⟩
        obtain ⟨op, num, text, args⟩ := a'
        simp only [resH, exprV] at ea ⊢
        simp [a_billingref24_Reader_primary, List.replicate, go_sem, ep, bf' k1, bf' k2, bf' k3, epl, e40, ea, e41]
    · rw [if_neg hw] at h e40
      simp only [Option.some.injEq] at h
      subst h
      obtain ⟨a', ea⟩ := hS 1 (t :: ts) (by decide) hA
      have e41 := f_expectE (n := n) [41] 1 (by decide) hA
      refine ⟨a', ?_, (fun c q hh => by cases hh)⟩
      obtain ⟨op, num, text, args⟩ := a'
      simp only [failT, resH, exprV] at ea ⊢
      simp at e40 ea e41
      simp [a_billingref24_Reader_primary, List.replicate, go_sem, ep, bf' k1, bf' k2, bf' k3, epl, e40, ea, e41]
  cases t with
  | num d =>
    have en := f_number0 (n := n) hA (ho _ (by simp))
    simp only [numberT] at en
    simp only [tokV, Tk.kind, Tk.val, Tk.str] at ep en
    simp only at h
    by_cases hn : numB d = true
    · rw [if_pos hn] at h en
      simp only [Option.some.injEq] at h
      subst h
      refine ⟨_, acall_fn rfl (af := a_billingref24_Reader_primary) rfl rfl ?_, (fun c q hh => by cases hh; rfl), hpe⟩
      simp at ep en
      simp [List.replicate, go_sem, ep, en, resH, exprV, exprVs]
    · rw [if_neg hn] at h en
      simp only [Option.some.injEq] at h
      subst h
      refine ⟨.mk 1 0 [] [], acall_fn rfl (af := a_billingref24_Reader_primary) rfl rfl ?_, (fun c q hh => by cases hh), hpe⟩
      simp only [failT] at en
      simp at ep en
      simp [List.replicate, go_sem, ep, en, resH, failT, exprV, exprVs]
  | text s =>
    have en := f_next0 (n := n) hA (by simp)
    simp only [tokV, Tk.kind, Tk.val, Tk.str] at ep en
    simp only [Option.some.injEq] at h
    subst h
    refine ⟨_, acall_fn rfl (af := a_billingref24_Reader_primary) rfl rfl ?_, (fun c q hh => by cases hh; rfl), hpe⟩
    simp at ep en
    simp [List.replicate, go_sem, ep, en, resH, exprV, exprVs]
  | word w =>
    have en := f_next0 (n := n) hA (by simp)
    have eP := e_Place true attrs w (by decide)
    have aP := attr_place w
    simp only [tokV, Tk.kind, Tk.val, Tk.str] at ep en epl
    simp only at h
    by_cases ha : isAttr w = true
    · rw [if_pos ha] at h
      simp only [Option.some.injEq] at h
      subst h
      refine ⟨_, acall_fn rfl (af := a_billingref24_Reader_primary) rfl rfl ?_, (fun c q hh => by cases hh; rfl), hpe⟩
      rw [ha] at aP
      have aP' : 0 ≤ wplace attrs w := by simpa using aP
      simp at ep en epl
      cases hkw : isKw w <;> simp [hkw] at epl <;> simp [List.replicate, go_sem, ep, en, epl, e_Attributes, eP, aP', resH, exprV, exprVs]
    · rw [if_neg ha] at h
      have ha : isAttr w = false := by simpa using ha
      rw [ha] at aP
      have aP' : ¬ 0 ≤ wplace attrs w := by simpa using aP
      have aP2 : wplace attrs w < 0 := by omega
      by_cases hw : isKw w = true
      · rw [if_pos hw] at h
        simp only [Option.some.injEq] at h
        subst h
        have hw4 : isSymT [40] (.word w :: ts) = false := rfl
        rw [hw4] at e40
        obtain ⟨a', ea⟩ := hS 1 (.word w :: ts) (by decide) hA
        have e41 := f_expectE (n := n) [41] 1 (by decide) hA
        refine ⟨a', acall_fn rfl (af := a_billingref24_Reader_primary) rfl rfl ?_, (fun c q hh => by cases hh), hpe⟩
        obtain ⟨op, num, text, args⟩ := a'
        simp only [failT, resH, exprV] at ea e40 e41 ⊢
        simp [hw] at ep en epl e40 ea e41
        simp [List.replicate, go_sem, ep, epl, e_Attributes, eP, aP', aP2, e40, ea, e41]
      · rw [if_neg hw] at h
        have hw : isKw w = false := by simpa using hw
        simp only [Option.some.injEq] at h
        subst h
        refine ⟨_, acall_fn rfl (af := a_billingref24_Reader_primary) rfl rfl ?_, (fun c q hh => by cases hh; rfl), hpe⟩
        simp [hw] at ep en epl
        simp [List.replicate, go_sem, ep, en, epl, resH, exprV, exprVs]
  | sym s =>
    obtain ⟨a, h1, h2⟩ := par h (by simp [Tk.kind])
    exact ⟨a, acall_fn rfl (af := a_billingref24_Reader_primary) rfl rfl h1, h2, hpe⟩
  | fin =>
    obtain ⟨a, h1, h2⟩ := par h (by simp [Tk.kind])
    exact ⟨a, acall_fn rfl (af := a_billingref24_Reader_primary) rfl rfl h1, h2, hpe⟩

theorem exprE : ErrR n L n_billingref24_Reader_expr := expr_fE (both_fE (negated_fE (compared_fE (sum_fE (product_fE primary_fE)))))
theorem refExpr_all (k : Nat) : EqR n L n_billingref24_Reader_expr 1 k ∧ EqR n L n_billingref24_Reader_both 2 k ∧ EqR n L n_billingref24_Reader_negated 3 k ∧ EqR n L n_billingref24_Reader_compared 4 k ∧ EqR n L n_billingref24_Reader_sum 5 k ∧ EqR n L n_billingref24_Reader_product 6 k ∧ EqR n L n_billingref24_Reader_primary 7 k := by
  induction k using Nat.strongRecOn with
  | _ k ih =>
    cases k with
    | zero => refine ⟨?_, ?_, ?_, ?_, ?_, ?_, ?_⟩ <;> (intro ts r h; simp [pE] at h)
    | succ k =>
      have ih := fun m (hm : m ≤ k) => ih m (by omega)
      refine ⟨expr_fR k fun m hm => (ih m hm).2.1, both_fR k fun m hm => (ih m hm).2.2.1, negated_fR k (ih k (by omega)).2.2.1 (ih k (by omega)).2.2.2.1, compared_fR k (ih k (by omega)).2.2.2.2.1, sum_fR k fun m hm => (ih m hm).2.2.2.2.2.1, product_fR k fun m hm => (ih m hm).2.2.2.2.2.2, primary_fR k (ih k (by omega)).1 exprE⟩
theorem f_expr {ts : List Tk} (hA : At L ts) (ho : okT ts) : ∃ a, acall mach0 n_billingref24_Reader_expr [.ptr 0 0] (hf n L ts.length 0) = some (.ret (exprV a) (resH n L (exprT ts))) ∧ (∀ b q, exprT ts = .ok b q → a = b) ∧ (∀ m e, exprT ts = .err m e → e ≠ 0 ∧ ∃ us, At L us ∧ us.length = m) :=
  (refExpr_all (10 * ts.length + 10)).1 ts _ (exprT_eq ts) hA ho
end
end Go.Am
