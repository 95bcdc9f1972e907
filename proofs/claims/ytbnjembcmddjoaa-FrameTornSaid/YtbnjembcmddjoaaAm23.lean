/- The code of a function; functions; the table of calls. -/
import Derived.Test.YtbnjembcmddjoaaAm22
set_option linter.unusedVariables false
set_option linter.unusedSimpArgs false
namespace Go.Am
open Go Go.RowKit

def chkC (P : Program) : AC → Code → Bool
  | .pre _ a, c => chkC P a c
  | .skip, c => match c with | .skip => true | _ => false
  | .reg is, c => match c with | .region _ ops d => !d && chkOps P ops ops.toList is | _ => false
  | .dreg is, c => match c with | .region _ ops d => d && chkD P ops is | _ => false
  | .seq x y, c => match c with | .seq c1 c2 => chkC P x c1 && chkC P y c2 | _ => false
  | .cond v x y, c => match c with | .cond o c1 c2 => chkS o v && chkC P x c1 && chkC P y c2 | _ => false
  | .blk id x, c => match c with | .block id' c1 => id' == id && chkC P x c1 | _ => false
  | .loop x, c => match c with | .loop c1 => chkC P x c1 | _ => false
  | .exit id, c => match c with | .exit id' => id' == id | _ => false
  | .ret, c => match c with | .ret => true | _ => false

section
variable {P : Program} {E : Env} {a : Act} {w : World} {F : Nat → Nat} {ρ : List Nat} {s : St} {call : CallF} {dfs : List Deferred} {B : Nat} {rest osT osH : List Nat} {cvs : List Value}

theorem nthB_out : ∀ {bs : List Bool} {d : Nat}, bs.length ≤ d → nthB bs d = false
  | [], _, _ => rfl
  | _ :: bs, 0, h => by simp at h
  | _ :: bs, d + 1, h => nthB_out (bs := bs) (by simpa using h)

theorem nth_killM (m : List Bool) : ∀ (bs : List Bool) (t : List V) (e : Nat), nth (killM m bs t) e = if nthB bs e then .undef else killAt m (nth t e)
  | [], [], e => by simp [killM, nth, nthB, killAt]
  | _ :: _, [], e => by simp [killM, nth, killAt]
  | [], v :: t, e => by
    cases e with
    | zero => simp [killM, nth, nthB]
    | succ e => simp only [killM, nth]; rw [nth_killM m [] t e]; simp [nthB]
  | b :: bs, v :: t, e => by
    cases e with
    | zero => cases b <;> rfl
    | succ e => simp only [killM, nth, nthB]; exact nth_killM m bs t e

theorem killAt_rep {cv : Value} {v : V} {os : List Nat} {m : List Bool} (h : RepV w F ρ cv v os) : RepV w F ρ cv (killAt m v) os := by
  cases v with
  | bref d o =>
    simp only [killAt]
    split
    · have := h.os_nil rfl; subst this; exact .e _ _ _ (.undef _)
    · exact h
  | al d =>
    simp only [killAt]
    split
    · have := h.os_nil rfl; subst this; exact .e _ _ _ (.undef _)
    · exact h
  | _ => exact h

theorem RepL.killM {m : List Bool} : ∀ {bs : List Bool} {cvs : List Value} {t : List V} {os : List Nat}, RepL (RepV w F ρ) cvs t os → ∃ os', RepL (RepV w F ρ) cvs (Am.killM m bs t) os' ∧ ∀ b, os'.count b ≤ os.count b
  | bs, _, _, _, .nil => ⟨[], by cases bs <;> exact .nil, fun b => Nat.le_refl _⟩
  | [], _, _, _, .cons cv v cvs t o1 o2 h1 h2 => by
    obtain ⟨os', q1, q2⟩ := RepL.killM (bs := []) h2
    exact ⟨o1 ++ os', .cons _ _ _ _ _ _ (killAt_rep h1) q1, fun b => by have := q2 b; simp only [List.count_append]; omega⟩
  | b :: bs, _, _, _, .cons cv v cvs t o1 o2 h1 h2 => by
    obtain ⟨os', q1, q2⟩ := RepL.killM (bs := bs) h2
    simp only [Am.killM]
    cases b with
    | true => exact ⟨[] ++ os', .cons _ _ _ _ _ _ (.e _ _ _ (.undef _)) q1, fun b => by have := q2 b; simp only [List.count_append, List.count_nil]; omega⟩
    | false => exact ⟨o1 ++ os', .cons _ _ _ _ _ _ (killAt_rep h1) q1, fun b => by have := q2 b; simp only [List.count_append]; omega⟩

theorem AliasOK.killM {m : List Bool} {t : List V} (h : AliasOK cvs t) : AliasOK cvs (Am.killM m m t) := by
  intro e cv hcv
  have h0 := h e cv hcv
  rw [nth_killM]
  split
  · exact trivial
  · have key : ∀ d, nthB m d = false → ∀ v, nth t d = v → isAl v = false → nth (Am.killM m m t) d = v := fun d hd v hv hal => by
      rw [nth_killM, hd, hv]
      cases v <;> first | rfl | cases hal
    cases hx : nth t e with
    | bref d o =>
      rw [hx] at h0
      simp only [killAt]
      split
      · exact trivial
      · rename_i hd
        have hd : nthB m d = false := by simpa using hd
        obtain ⟨b, hb, hh⟩ := h0
        refine ⟨b, hb, ?_⟩
        rcases hh with ⟨⟨cs, hh⟩, hy⟩ | ⟨⟨sz, xs, hh⟩, hy⟩
        · exact .inl ⟨⟨cs, key d hd _ hh rfl⟩, hy⟩
        · exact .inr ⟨⟨sz, xs, key d hd _ hh rfl⟩, hy⟩
    | al d =>
      rw [hx] at h0
      simp only [killAt]
      split
      · exact trivial
      · rename_i hd
        have hd : nthB m d = false := by simpa using hd
        obtain ⟨ho, hy⟩ := h0
        exact ⟨by rw [key d hd _ rfl (isAl_of_lin (owner_lin ho))]; exact ho, hy⟩
    | _ => exact trivial

theorem Stt.pre {m : List Bool} (h : Stt E a w s) : Stt E a w { s with t := killM m m s.t } := by
  obtain ⟨F, ρ, osT, osH, e0, r0, hsim, n0⟩ := h
  obtain ⟨os', q1, q2⟩ := hsim.tmps.killM (m := m) (bs := m)
  have hmem : ∀ b, b ∈ os' → b ∈ osT := fun b hb => List.count_pos_iff.1 (Nat.lt_of_lt_of_le (List.count_pos_iff.2 hb) (q2 b))
  refine ⟨F, ρ, os', osH, e0, r0, ⟨q1, hsim.heap, hsim.alias.killM, fun b => ?_, fun b hb => hsim.inb b ?_, hsim.fresh, hsim.base⟩, fun b hb => n0 b ?_⟩
  · have h1 := hsim.once b
    have h2 := q2 b
    simp only [List.count_append] at h1 ⊢
    omega
  · simp only [List.mem_append] at hb ⊢
    rcases hb with (hb | hb) | hb
    · simp [hmem b hb]
    · simp [hb]
    · simp [hb]
  · simp only [List.mem_append] at hb ⊢
    rcases hb with hb | hb
    · simp [hmem b hb]
    · simp [hb]

theorem rel_then {e : Ex} {s1 s' : St} {K : Act → World → Prop} {Q : Exit → Act → World → Prop} (hn : e = .norm → ∀ a w, Stt E a w s1 → a.defers = dfs → K a w) (ho : e ≠ .norm → ∀ x a w, Rel E dfs e s1 x a w → Q x a w) :
    ∀ x a w, Rel E dfs e s1 x a w → Exit.then K Q x a w := by
  intro x a w h
  cases e with
  | norm => cases x <;> first | exact hn rfl a w h.1 h.2 | exact h.elim
  | exit id => cases x <;> first | exact ho (fun h => by cases h) _ _ _ h | exact h.elim
  | ret => cases x <;> first | exact ho (fun h => by cases h) _ _ _ h | exact h.elim
  | pan v => cases x <;> first | exact ho (fun h => by cases h) _ _ _ h | exact h.elim

theorem code_ok (hs : SoundCall P call) (n : Nat) : ∀ (ac : AC) (c : Code) (a : Act) (w : World) (s : St) (e : Ex) (s' : St), chkC P ac c = true → Stt E a w s → a.defers = dfs → evC call n ac s = some (e, s') → c.wp P (Rel E dfs e s') a w := by
  intro ac
  induction ac with
  | skip =>
    intro c a w s e s' hc h hd hr
    simp only [chkC] at hc
    split at hc
    · simp only [evC, Option.some.injEq, Prod.mk.injEq] at hr
      obtain ⟨rfl, rfl⟩ := hr
      exact wp_skip ⟨h, hd⟩
    · cases hc
  | reg is =>
    intro c a w s e s' hc h hd hr
    simp only [chkC] at hc
    split at hc
    · rename_i id ops d
      simp only [evC] at hr
      cases d with
      | true => cases hc
      | false => exact wp_region_list (ops_ok hs is ops.toList a w s e s' (by simpa using hc) h hd hr)
    · cases hc
  | dreg is =>
    intro c a w s e s' hc h hd hr
    simp only [chkC] at hc
    split at hc
    · rename_i id ops d
      simp only [evC] at hr
      cases d with
      | false => cases hc
      | true =>
        cases hx : runOps call is s with
        | none => rw [hx] at hr; cases hr
        | some r =>
          obtain ⟨e1, s1⟩ := r
          rw [hx] at hr
          cases e1 with
          | norm =>
            simp only [Option.some.injEq, Prod.mk.injEq] at hr
            obtain ⟨rfl, rfl⟩ := hr
            exact draw_ok hs (by simpa using hc) h hd hx
          | _ => cases hr
    · cases hc
  | seq x y ihx ihy =>
    intro c a w s e s' hc h hd hr
    simp only [chkC] at hc
    split at hc
    · rename_i c1 c2
      simp only [Bool.and_eq_true] at hc
      simp only [evC] at hr
      cases hx : evC call n x s with
      | none => rw [hx] at hr; cases hr
      | some r =>
        obtain ⟨e1, s1⟩ := r
        rw [hx] at hr
        refine wp_seq (wp_mono (ihx c1 a w s e1 s1 hc.1 h hd hx) (rel_then (s' := s') (fun he a w hst hdd => ?_) (fun he x a w hrel => ?_)))
        · subst he
          exact ihy c2 a w s1 e s' hc.2 hst hdd hr
        · have : (e1, s1) = (e, s') := by
            cases e1 with
            | norm => exact (he rfl).elim
            | _ => simpa using hr
          simp only [Prod.mk.injEq] at this
          obtain ⟨rfl, rfl⟩ := this
          exact hrel
    · cases hc
  | cond v x y ihx ihy =>
    intro c a w s e s' hc h hd hr
    simp only [chkC] at hc
    split at hc
    · rename_i o c1 c2
      simp only [Bool.and_eq_true] at hc
      simp only [evC] at hr
      split at hr
      · rename_i t hv
        have ht : a.eval o = .bool t := by
          obtain ⟨F, ρ, osT, osH, e0, r0, hsim, n0⟩ := h
          obtain ⟨os, hrep, _⟩ := hsim.ev hc.1.1
          rw [hv] at hrep
          have := hrep.data rfl
          generalize a.eval o = q at this
          cases this
          rfl
        refine wp_cond ht ?_
        cases t with
        | true => exact ihx c1 a w s e s' hc.1.2 h hd (by simpa using hr)
        | false => exact ihy c2 a w s e s' hc.2 h hd (by simpa using hr)
      · cases hr
    · cases hc
  | blk id x ih =>
    intro c a w s e s' hc h hd hr
    simp only [chkC] at hc
    split at hc
    · rename_i id' c1
      simp only [Bool.and_eq_true, beq_iff_eq] at hc
      obtain ⟨rfl, hc⟩ := hc
      simp only [evC] at hr
      cases hx : evC call n x s with
      | none => rw [hx] at hr; cases hr
      | some r =>
        obtain ⟨e1, s1⟩ := r
        rw [hx] at hr
        refine wp_block (wp_mono (ih c1 a w s e1 s1 hc h hd hx) (fun q a w hrel => ?_))
        cases e1 with
        | norm =>
          simp only [Option.some.injEq, Prod.mk.injEq] at hr
          obtain ⟨rfl, rfl⟩ := hr
          cases q <;> first | exact hrel | exact hrel.elim
        | exit id2 =>
          simp only at hr
          cases q with
          | exit id3 =>
            obtain ⟨h1, h2, h3⟩ := hrel
            subst h1
            simp only [Exit.inBlock]
            split at hr
            · rename_i hid
              simp only [Option.some.injEq, Prod.mk.injEq] at hr
              obtain ⟨rfl, rfl⟩ := hr
              rw [if_pos hid]
              exact ⟨h2, h3⟩
            · rename_i hid
              simp only [Option.some.injEq, Prod.mk.injEq] at hr
              obtain ⟨rfl, rfl⟩ := hr
              rw [if_neg hid]
              exact ⟨rfl, h2, h3⟩
          | _ => exact hrel.elim
        | ret =>
          simp only [Option.some.injEq, Prod.mk.injEq] at hr
          obtain ⟨rfl, rfl⟩ := hr
          cases q <;> first | exact hrel | exact hrel.elim
        | pan v =>
          simp only [Option.some.injEq, Prod.mk.injEq] at hr
          obtain ⟨rfl, rfl⟩ := hr
          cases q <;> first | exact hrel | exact hrel.elim
    · cases hc
  | loop x ih =>
    intro c a w s e s' hc h hd hr
    simp only [chkC] at hc
    split at hc
    · rename_i c1
      simp only [evC] at hr
      have key : ∀ (m : Nat) (a : Act) (w : World) (s : St), Stt E a w s → a.defers = dfs → iterA (evC call n x) m s = some (e, s') → Code.rounds P c1 (Rel E dfs e s') m a w := by
        intro m
        induction m with
        | zero => intro a w s _ _ hr; cases hr
        | succ m ihm =>
          intro a w s h hd hr
          simp only [iterA] at hr
          cases hx : evC call n x s with
          | none => rw [hx] at hr; cases hr
          | some r =>
            obtain ⟨e1, s1⟩ := r
            rw [hx] at hr
            rw [rounds_succ]
            refine wp_mono (ih c1 a w s e1 s1 hc h hd hx) (rel_then (s' := s') (fun he a w hst hdd => ?_) (fun he q a w hrel => ?_))
            · subst he
              exact ihm a w s1 hst hdd hr
            · have : (e1, s1) = (e, s') := by
                cases e1 with
                | norm => exact (he rfl).elim
                | _ => simpa using hr
              simp only [Prod.mk.injEq] at this
              obtain ⟨rfl, rfl⟩ := this
              exact hrel
      exact wp_loop_rounds n (key n a w s h hd hr)
    · cases hc
  | exit id =>
    intro c a w s e s' hc h hd hr
    simp only [chkC] at hc
    split at hc
    · rename_i id'
      obtain rfl := beq_iff_eq.1 hc
      simp only [evC, Option.some.injEq, Prod.mk.injEq] at hr
      obtain ⟨rfl, rfl⟩ := hr
      exact wp_exit ⟨rfl, h, hd⟩
    · cases hc
  | ret =>
    intro c a w s e s' hc h hd hr
    simp only [chkC] at hc
    split at hc
    · simp only [evC, Option.some.injEq, Prod.mk.injEq] at hr
      obtain ⟨rfl, rfl⟩ := hr
      exact wp_ret ⟨h, hd⟩
    · cases hc
  | pre m x ih =>
    intro c a w s e s' hc h hd hr
    simp only [evC] at hr
    exact ih c a w _ e s' (by simpa [chkC] using hc) h.pre hd hr
end
end Go.Am
