/- The abstract machine. -/
import Derived.Test.YtcjglgeamdfpmaaXAmC
import Derived.ChangeSame
import Derived.ChangeReads
import Derived.ChangeArms
import Derived.DataShut
import Derived.Below
import Derived.OpenShut
import Derived.Test.YtcjglgeamdfpmaaXAmA
import Derived.Recover
set_option linter.unusedVariables false
set_option linter.unusedSimpArgs false
namespace Go.Am
open Go Go.RowKit
def chkC (P : Program) : AC → Code → Bool
 | .pre _ a, c => chkC P a c
 | .skip, c => match c with | .skip => true | _ => false
 | .reg is, c => match c with | .region _ ops d => !d && chkOps P ops ops.toList is | _ => false
 | .dreg is, c => match c with | .region _ ops d => d && chkD P ops is | _ => false
 | .preg is, c => match c with | .region _ ops d => d && chkP P ops is | _ => false
 | .shr _ a, c => chkC P a c
 | .seq x y, c => match c with | .seq c1 c2 => chkC P x c1 && chkC P y c2 | _ => false
 | .cond v x y, c => match c with | .cond o c1 c2 => chkS o v && chkC P x c1 && chkC P y c2 | _ => false
 | .blk id x, c => match c with | .block id' c1 => id' == id && chkC P x c1 | _ => false
 | .loop x, c => match c with | .loop c1 => chkC P x c1 | _ => false
 | .exit id, c => match c with | .exit id' => id' == id | _ => false
 | .ret, c => match c with | .ret => true | _ => false
section
variable {P : Program} {E : Env} {a : Act} {w : World} {F : Nat → Nat} {ρ : List Nat} {s : St} {call : CallF} {dfs : List Deferred} {B : Nat} {rest osT osH : List Nat} {cvs : List Value}
theorem nth_killM (m : List Bool) : ∀ (bs : List Bool) (t : List V) (e : Nat), nth (killM m bs t) e = if nthB bs e then .undef else killAt m (nth t e)
 | [], [], e => by simp [killM, nth, nthB, killAt]
 | _ :: _, [], e => by simp [killM, nth, killAt]
 | [], v :: t, e => by
  cases e with
  | zero => simp [killM, nth, nthB]
  | succ e => simp only [killM, nth]; rw [nth_killM m [] t e]; simp [nthB]
 | b :: bs, v :: t, e => by
  cases e with
  | zero => cases b <;> rfl
  | succ e => simp only [killM, nth, nthB]; exact nth_killM m bs t e
theorem killAt_rep {cv : Value} {v : V} {os : List Nat} {m : List Bool} (h : RepV w F ρ cv v os) : RepV w F ρ cv (killAt m v) os := by
 cases v with
 | bref d o =>
  simp only [killAt]
  split
  ·have := h.os_nil rfl; subst this; exact .e _ _ _ (.undef _)
  ·exact h
 | al d =>
  simp only [killAt]
  split
  ·have := h.os_nil rfl; subst this; exact .e _ _ _ (.undef _)
  ·exact h
 | _ => exact h
theorem RepL.killM {m : List Bool} : ∀ {bs : List Bool} {cvs : List Value} {t : List V} {os : List Nat}, RepL (RepV w F ρ) cvs t os → ∃ os', RepL (RepV w F ρ) cvs (Am.killM m bs t) os' ∧ ∀ b, os'.count b ≤ os.count b
 | bs, _, _, _, .nil => ⟨[], by cases bs <;> exact .nil, fun b => Nat.le_refl _⟩
 | [], _, _, _, .cons cv v cvs t o1 o2 h1 h2 => by
  obtain ⟨os', q1, q2⟩ := RepL.killM (bs := []) h2
  exact ⟨o1 ++ os', .cons _ _ _ _ _ _ (killAt_rep h1) q1, fun b => by have := q2 b; simp only [List.count_append]; omega⟩
 | b :: bs, _, _, _, .cons cv v cvs t o1 o2 h1 h2 => by
  obtain ⟨os', q1, q2⟩ := RepL.killM (bs := bs) h2
  simp only [Am.killM]
  cases b with
  | true => exact ⟨[] ++ os', .cons _ _ _ _ _ _ (.e _ _ _ (.undef _)) q1, fun b => by have := q2 b; simp only [List.count_append, List.count_nil]; omega⟩
  | false => exact ⟨o1 ++ os', .cons _ _ _ _ _ _ (killAt_rep h1) q1, fun b => by have := q2 b; simp only [List.count_append]; omega⟩
theorem AliasOK.killM {m : List Bool} {t : List V} (h : AliasOK cvs t) : AliasOK cvs (Am.killM m m t) := by
 intro e cv hcv
 have h0 := h e cv hcv
 rw [nth_killM]
 split
 ·exact trivial
 ·have key : ∀ d, nthB m d = false → ∀ v, nth t d = v → isAl v = false → nth (Am.killM m m t) d = v := fun d hd v hv hal => by
   rw [nth_killM, hd, hv]
   cases v <;> first | rfl | cases hal
  cases hx : nth t e with
  | bref d o =>
   rw [hx] at h0
   simp only [killAt]
   split
   ·exact trivial
   ·rename_i hd
    have hd : nthB m d = false := by simpa using hd
    obtain ⟨b, hb, hh⟩ := h0
    refine ⟨b, hb, ?_⟩
    rcases hh with ⟨⟨cs, hh⟩, hy⟩ | ⟨⟨sz, xs, hh⟩, hy⟩
    ·exact .inl ⟨⟨cs, key d hd _ hh rfl⟩, hy⟩
    ·exact .inr ⟨⟨sz, xs, key d hd _ hh rfl⟩, hy⟩
  | al d =>
   rw [hx] at h0
   simp only [killAt]
   split
   ·exact trivial
   ·rename_i hd
    have hd : nthB m d = false := by simpa using hd
    obtain ⟨ho, hy⟩ := h0
    exact ⟨by rw [key d hd _ rfl (isAl_of_lin (owner_lin ho))]; exact ho, hy⟩
  | _ => exact trivial
theorem Stt.pre {m : List Bool} (h : Stt E a w s) : Stt E a w { s with t := killM m m s.t } := by
 obtain ⟨F, ρ, osT, osH, e0, r0, hsim, n0⟩ := h
 obtain ⟨os', q1, q2⟩ := hsim.tmps.killM (m := m) (bs := m)
 have hmem : ∀ b, b ∈ os' → b ∈ osT := fun b hb => List.count_pos_iff.1 (Nat.lt_of_lt_of_le (List.count_pos_iff.2 hb) (q2 b))
 refine ⟨F, ρ, os', osH, e0, r0, ⟨q1, hsim.heap, hsim.alias.killM, fun b => ?_, fun b hb => hsim.inb b ?_, hsim.fresh, hsim.base⟩, fun b hb => n0 b ?_⟩
 ·have h1 := hsim.once b
  have h2 := q2 b
  simp only [List.count_append] at h1 ⊢
  omega
 ·simp only [List.mem_append] at hb ⊢
  rcases hb with (hb | hb) | hb
  ·simp [hmem b hb]
  ·simp [hb]
  ·simp [hb]
 ·simp only [List.mem_append] at hb ⊢
  rcases hb with hb | hb
  ·simp [hmem b hb]
  ·simp [hb]
theorem rel_then {e : Ex} {s1 s' : St} {K : Act → World → Prop} {Q : Exit → Act → World → Prop} (hn : e = .norm → ∀ a w, Stt E a w s1 → a.defers = dfs → K a w) (ho : e ≠ .norm → ∀ x a w, Rel E dfs e s1 x a w → Q x a w) :
    ∀ x a w, Rel E dfs e s1 x a w → Exit.then K Q x a w := by
  intro x a w h
  cases e with
  | norm => cases x <;> first | exact hn rfl a w h.1 h.2 | exact h.elim
  | exit id => cases x <;> first | exact ho (fun h => by cases h) _ _ _ h | exact h.elim
  | ret => cases x <;> first | exact ho (fun h => by cases h) _ _ _ h | exact h.elim
  | pan v => cases x <;> first | exact ho (fun h => by cases h) _ _ _ h | exact h.elim
theorem code_ok (hs : SoundCall P call) (n : Nat) : ∀ (ac : AC) (c : Code) (a : Act) (w : World) (s : St) (e : Ex) (s' : St), chkC P ac c = true → Stt E a w s → a.defers = dfs → evC call n ac s = some (e, s') → c.wp P (Rel E dfs e s') a w := by
 intro ac
 induction ac with
 | skip =>
  intro c a w s e s' hc h hd hr
  simp only [chkC] at hc
  split at hc
  ·simp only [evC, Option.some.injEq, Prod.mk.injEq] at hr
   obtain ⟨rfl, rfl⟩ := hr
   exact wp_skip ⟨h, hd⟩
  ·cases hc
 | reg is =>
  intro c a w s e s' hc h hd hr
  simp only [chkC] at hc
  split at hc
  ·rename_i id ops d
   simp only [evC] at hr
   cases d with
   | true => cases hc
   | false => exact wp_region_list (ops_ok hs is ops.toList a w s e s' (by simpa using hc) h hd hr)
  ·cases hc
 | dreg is =>
  intro c a w s e s' hc h hd hr
  simp only [chkC] at hc
  split at hc
  ·rename_i id ops d
   simp only [evC] at hr
   cases d with
   | false => cases hc
   | true =>
    cases hx : runOps call is s with
    | none => rw [hx] at hr; cases hr
    | some r =>
     obtain ⟨e1, s1⟩ := r
     rw [hx] at hr
     cases e1 with
     | norm =>
      simp only [Option.some.injEq, Prod.mk.injEq] at hr
      obtain ⟨rfl, rfl⟩ := hr
      exact draw_ok hs (by simpa using hc) h hd hx
     | _ => cases hr
  ·cases hc
 | preg is =>
  intro c a w s e s' hc h hd hr
  simp only [chkC] at hc
  split at hc
  ·rename_i id ops d
   simp only [evC] at hr
   cases d with
   | false => cases hc
   | true =>
    cases hx : runOps call is s with
    | none => rw [hx] at hr; cases hr
    | some r =>
     obtain ⟨e1, s1⟩ := r
     rw [hx] at hr
     cases e1 with
     | norm =>
      simp only [Option.some.injEq, Prod.mk.injEq] at hr
      obtain ⟨rfl, rfl⟩ := hr
      have hc' : chkP P ops is = true := by simpa using hc
      exact draw_ok hs (by simp only [chkP, Bool.and_eq_true] at hc'; exact hc'.1) h hd hx
     | pan v =>
      simp only [Option.some.injEq, Prod.mk.injEq] at hr
      obtain ⟨rfl, rfl⟩ := hr
      exact draw_pan hs (by simpa using hc) h hd hx
     | _ => cases hr
  ·cases hc
 | shr d x ih =>
  intro c a w s e s' hc h hd hr
  simp only [evC] at hr
  refine ih c a w _ e s' (by simpa [chkC] using hc) ?_ hd hr
  obtain ⟨F, ρ, osT, osH, e0, r0, hsim, n0⟩ := h
  exact PsOK.stt e0 r0 n0 (ps_cm hsim d)
 | seq x y ihx ihy =>
  intro c a w s e s' hc h hd hr
  simp only [chkC] at hc
  split at hc
  ·rename_i c1 c2
   simp only [Bool.and_eq_true] at hc
   simp only [evC] at hr
   cases hx : evC call n x s with
   | none => rw [hx] at hr; cases hr
   | some r =>
    obtain ⟨e1, s1⟩ := r
    rw [hx] at hr
    refine wp_seq (wp_mono (ihx c1 a w s e1 s1 hc.1 h hd hx) (rel_then (s' := s') (fun he a w hst hdd => ?_) (fun he x a w hrel => ?_)))
    ·subst he
     exact ihy c2 a w s1 e s' hc.2 hst hdd hr
    ·have : (e1, s1) = (e, s') := by
      cases e1 with
      | norm => exact (he rfl).elim
      | _ => simpa using hr
     simp only [Prod.mk.injEq] at this
     obtain ⟨rfl, rfl⟩ := this
     exact hrel
  ·cases hc
 | cond v x y ihx ihy =>
  intro c a w s e s' hc h hd hr
  simp only [chkC] at hc
  split at hc
  ·rename_i o c1 c2
   simp only [Bool.and_eq_true] at hc
   simp only [evC] at hr
   split at hr
   ·rename_i t hv
    have ht : a.eval o = .bool t := by
     obtain ⟨F, ρ, osT, osH, e0, r0, hsim, n0⟩ := h
     obtain ⟨os, hrep, _⟩ := hsim.ev hc.1.1
     rw [hv] at hrep
     have := hrep.data rfl
     generalize a.eval o = q at this
     cases this
     rfl
    refine wp_cond ht ?_
    cases t with
    | true => exact ihx c1 a w s e s' hc.1.2 h hd (by simpa using hr)
    | false => exact ihy c2 a w s e s' hc.2 h hd (by simpa using hr)
   ·cases hr
  ·cases hc
 | blk id x ih =>
  intro c a w s e s' hc h hd hr
  simp only [chkC] at hc
  split at hc
  ·rename_i id' c1
   simp only [Bool.and_eq_true, beq_iff_eq] at hc
   obtain ⟨rfl, hc⟩ := hc
   simp only [evC] at hr
   cases hx : evC call n x s with
   | none => rw [hx] at hr; cases hr
   | some r =>
    obtain ⟨e1, s1⟩ := r
    rw [hx] at hr
    refine wp_block (wp_mono (ih c1 a w s e1 s1 hc h hd hx) (fun q a w hrel => ?_))
    cases e1 with
    | norm =>
     simp only [Option.some.injEq, Prod.mk.injEq] at hr
     obtain ⟨rfl, rfl⟩ := hr
     cases q <;> first | exact hrel | exact hrel.elim
    | exit id2 =>
     simp only at hr
     cases q with
     | exit id3 =>
      obtain ⟨h1, h2, h3⟩ := hrel
      subst h1
      simp only [Exit.inBlock]
      split at hr
      ·rename_i hid
       simp only [Option.some.injEq, Prod.mk.injEq] at hr
       obtain ⟨rfl, rfl⟩ := hr
       rw [if_pos hid]
       exact ⟨h2, h3⟩
      ·rename_i hid
       simp only [Option.some.injEq, Prod.mk.injEq] at hr
       obtain ⟨rfl, rfl⟩ := hr
       rw [if_neg hid]
       exact ⟨rfl, h2, h3⟩
     | _ => exact hrel.elim
    | ret =>
     simp only [Option.some.injEq, Prod.mk.injEq] at hr
     obtain ⟨rfl, rfl⟩ := hr
     cases q <;> first | exact hrel | exact hrel.elim
    | pan v =>
     simp only [Option.some.injEq, Prod.mk.injEq] at hr
     obtain ⟨rfl, rfl⟩ := hr
     cases q <;> first | exact hrel | exact hrel.elim
  ·cases hc
 | loop x ih =>
  intro c a w s e s' hc h hd hr
  simp only [chkC] at hc
  split at hc
  ·rename_i c1
   simp only [evC] at hr
   have key : ∀ (m : Nat) (a : Act) (w : World) (s : St), Stt E a w s → a.defers = dfs → iterA (evC call n x) m s = some (e, s') → Code.rounds P c1 (Rel E dfs e s') m a w := by
    intro m
    induction m with
    | zero => intro a w s _ _ hr; cases hr
    | succ m ihm =>
     intro a w s h hd hr
     simp only [iterA] at hr
     cases hx : evC call n x s with
     | none => rw [hx] at hr; cases hr
     | some r =>
      obtain ⟨e1, s1⟩ := r
      rw [hx] at hr
      rw [rounds_succ]
      refine wp_mono (ih c1 a w s e1 s1 hc h hd hx) (rel_then (s' := s') (fun he a w hst hdd => ?_) (fun he q a w hrel => ?_))
      ·subst he
       exact ihm a w s1 hst hdd hr
      ·have : (e1, s1) = (e, s') := by
        cases e1 with
        | norm => exact (he rfl).elim
        | _ => simpa using hr
       simp only [Prod.mk.injEq] at this
       obtain ⟨rfl, rfl⟩ := this
       exact hrel
   exact wp_loop_rounds n (key n a w s h hd hr)
  ·cases hc
 | exit id =>
  intro c a w s e s' hc h hd hr
  simp only [chkC] at hc
  split at hc
  ·rename_i id'
   obtain rfl := beq_iff_eq.1 hc
   simp only [evC, Option.some.injEq, Prod.mk.injEq] at hr
   obtain ⟨rfl, rfl⟩ := hr
   exact wp_exit ⟨rfl, h, hd⟩
  ·cases hc
 | ret =>
  intro c a w s e s' hc h hd hr
  simp only [chkC] at hc
  split at hc
  ·simp only [evC, Option.some.injEq, Prod.mk.injEq] at hr
   obtain ⟨rfl, rfl⟩ := hr
   exact wp_ret ⟨h, hd⟩
  ·cases hc
 | pre m x ih =>
  intro c a w s e s' hc h hd hr
  simp only [evC] at hr
  exact ih c a w _ e s' (by simpa [chkC] using hc) h.pre hd hr
end
end Go.Am
namespace Go.Am
open Go Go.RowKit
def chkRes1 (P : Program) (r : ResultVar) (q : ARes) : Bool := match q with
 | .tmp t => match r with | .tmp t' => t' == t | _ => false
 | .cell a n => match r with | .cell a' ty => a' == a && (match n with | none => oneT P ty | some m => aggT P ty && szT P ty == some m) | _ => false
def chkRes (P : Program) : List ResultVar → List ARes → Bool
 | [], [] => true
 | r :: rs, q :: qs => chkRes1 P r q && chkRes P rs qs
 | _, _ => false
def resTmps : List ARes → List Nat
 | [] => []
 | .tmp t :: l => t :: resTmps l
 | _ :: l => resTmps l
def chkF (P : Program) (f : FuncId) (af : AF) : Bool := match P.funcs[f]? with
 | some fn => fn.name != "runtime.NumGoroutine" && fn.ntmps == af.ntmps && chkRes P fn.results.toList af.res && nodupB (resTmps af.res) && (match fn.body with
  | some c => chkC P af.body c
  | none => false)
 | none => false
def tyOK (P : Program) (ty : TypeId) : Option Nat → Prop
 | none => oneT P ty = true
 | some m => aggT P ty = true ∧ szT P ty = some m
def res1 (tmps : Array Value) : ResultVar → Sem Value
 | .tmp t => pure (tmps.getD t undef)
 | .cell a t => do loadVar t (← asAddr (tmps.getD a undef))
section
variable {P : Program} {E : Env} {tmps : Array Value} {w : World} {F : Nat → Nat} {ρ : List Nat} {s : St} {call : CallF} {dfs : List Deferred} {B : Nat} {rest osT osH : List Nat}
theorem results_run {fn : Func} {cvs : List Value} (h : (List.mapM (res1 tmps) fn.results.toList).run P w = .ok cvs w) : (results fn tmps).run P w = .ok (match cvs with | [cv] => cv | _ => .tuple cvs.toArray) w := by
 have e1 : results fn tmps = (do let vs ← fn.results.mapM (res1 tmps); pure (if h : vs.size = 1 then vs[0] else .tuple vs)) := by
  unfold results
  congr 1
 have e2 : fn.results.mapM (res1 tmps) = Functor.map List.toArray (List.mapM (res1 tmps) fn.results.toList) := by
  conv => lhs; rw [show fn.results = fn.results.toList.toArray by simp]
  exact List.mapM_toArray
 rw [e1, e2]
 simp only [Sem.run_bind, Sem.run_map, h]
 cases cvs with
 | nil => simp
 | cons c cvs =>
  cases cvs with
  | nil => simp
  | cons d cvs => simp
theorem tmps_getD {t : Nat} {cv : Value} (h : tmps.toList[t]? = some cv) : tmps.getD t undef = cv := by
 rw [Array.getD_eq_getD_getElem?]
 rw [Array.getElem?_toList] at h
 rw [h]
 rfl
theorem place_t {r : Nat → V} {a : Nat} {b : Option Nat} {p : Pl} (h : place r (.t a) b = some p) : (∃ cs, r a = .box cs ∧ b = some a ∧ p = .slot a 0) ∨ (∃ d o, r a = .bref d o ∧ b = some d ∧ p = .slot d o) ∨ (∃ id o, r a = .ptr id o ∧ b = none ∧ p = .obj id o) ∨ (∃ cs, r a = .rptr cs ∧ b = none ∧ p = .ro cs) := by
 simp only [place, Am.ev] at h
 split at h
 ·rename_i cs he
  cases b with
  | none => cases h
  | some d =>
   simp only at h
   split at h
   ·rename_i hid
    simp only [Option.some.injEq] at h
    subst hid
    exact .inl ⟨cs, he, rfl, h.symm⟩
   ·cases h
 ·rename_i d o he
  split at h
  ·split at h
   ·rename_i d' hdd
    simp only [Option.some.injEq] at h
    subst hdd
    exact .inr (.inl ⟨d, o, he, rfl, h.symm⟩)
   ·cases h
  ·cases h
 ·rename_i id o he
  split at h
  ·simp only [Option.some.injEq] at h; exact .inr (.inr (.inl ⟨id, o, he, rfl, h.symm⟩))
  ·cases h
 ·rename_i cs he
  split at h
  ·simp only [Option.some.injEq] at h; exact .inr (.inr (.inr ⟨cs, he, rfl, h.symm⟩))
  ·cases h
 ·cases h
theorem cells_val {ty : TypeId} {n : Option Nat} {blk off : Nat} {cs : List V} {v : V} (hty : tyOK P ty n)
    (hc : ∀ j, j < cs.length → ∃ cv, w.cell? ⟨blk, j, none⟩ = some cv ∧ ((nth cs j).data = true → RepD w F cv (nth cs j) ∧ (nth cs j).one = true))
    (hv : (n = none ∧ off < cs.length ∧ v = nth cs off ∧ v.data = true) ∨ ∃ m, n = some m ∧ off + m ≤ cs.length ∧ ((cs.drop off).take m).all V.one = true ∧ v = .agg ((cs.drop off).take m)) :
    ∃ cv, (loadVar ty ⟨blk, off, none⟩).run P w = .ok cv w ∧ RepD w F cv v := by
  rcases hv with ⟨rfl, h1, rfl, h2⟩ | ⟨m, rfl, h1, h2, rfl⟩
  · obtain ⟨cv, c1, c2⟩ := hc off h1
    exact ⟨cv, run_loadVar_one hty c1, (c2 h2).1⟩
  · obtain ⟨cv, q1, q2⟩ := load_agg (P := P) (w := w) (F := F) (b := blk) (off := off) (ds := (cs.drop off).take m) hty.1 hty.2 (by simp; omega) (fun j hj => by
      have hone := all_nth h2 (j := j) (by simp; omega)
      rw [nth_take _ _ _ hj, nth_drop] at hone ⊢
      obtain ⟨cv, c1, c2⟩ := hc (off + j) (by omega)
      exact ⟨cv, c1, c2 (V.one_data hone)⟩)
    exact ⟨cv, q1, q2⟩
theorem cell_res (hsim : Sim B tmps.toList w F ρ s rest osT osH) {ty : TypeId} {a : Nat} {n : Option Nat} {v : V} (hty : tyOK P ty n)
    (h : resV s (.cell a n) = some v) : ∃ cv, (res1 tmps (.cell a ty)).run P w = .ok cv w ∧ RepD w F cv v := by
  have fin : ∀ blk off, tmps.toList[a]? = some (.pointer (some ⟨blk, off, none⟩)) → (∃ cv, (loadVar ty ⟨blk, off, none⟩).run P w = .ok cv w ∧ RepD w F cv v) → ∃ cv, (res1 tmps (.cell a ty)).run P w = .ok cv w ∧ RepD w F cv v := by
    intro blk off ht ⟨cv, q1, q2⟩
    refine ⟨cv, ?_, q2⟩
    simp [res1, tmps_getD ht, asAddr, q1]
  simp only [resV] at h
  split at h
  · rename_i us v' h' hres
    split at h
    · rename_i hd
      simp only [Option.some.injEq] at h
      subst h
      simp only [opRes] at hres
      have slotv : ∀ (i : Nat), nth s.t a ≠ .undef → ∃ cv od, tmps.toList[a]? = some cv ∧ RepV w F ρ cv (nth s.t a) od := fun _ hn => by
        obtain ⟨cv, od, g1, g2, _⟩ := hsim.tmps.get (nth_lt hn)
        exact ⟨cv, od, g1, g2⟩
      split at hres
      · rename_i d o hp
        rcases place_t hp with ⟨cs, he, hb, hpl⟩ | ⟨d', o', he, hb, hpl⟩ | ⟨id, o', he, hb, hpl⟩ | ⟨cs, he, hb, hpl⟩
        · simp only [Pl.slot.injEq] at hpl
          obtain ⟨rfl, rfl⟩ := hpl
          obtain ⟨cv, od, g1, g2⟩ := slotv 0 (by rw [he]; exact fun h => by cases h)
          rw [he] at g2
          cases g2 with
          | e _ _ _ g2 => cases g2 with | d _ _ g2 => cases g2
          | box b _ os g2 =>
            refine fin b 0 g1 (cells_val hty (fun j hj => g2.cell hj) ?_)
            simp only [he, memOf] at hres
            split at hres
            · split at hres
              · rename_i hl
                simp only [if_true, Option.some.injEq, Rs.val.injEq] at hres
                exact .inl ⟨rfl, hl, hres.2.1.symm, hd⟩
              · cases hres
            · rename_i m
              split at hres
              · rename_i hl
                split at hres
                · rename_i hall
                  simp only [Option.some.injEq, Rs.val.injEq] at hres
                  exact .inr ⟨m, rfl, hl, hall, hres.2.1.symm⟩
                · cases hres
              · cases hres
        · rw [he] at hb; cases hb
        · cases hpl
        · cases hpl
      · rename_i id o hp
        rcases place_t hp with ⟨cs, he, hb, hpl⟩ | ⟨d', o', he, hb, hpl⟩ | ⟨id', o', he, hb, hpl⟩ | ⟨cs, he, hb, hpl⟩
        · cases hpl
        · cases hpl
        · simp only [Pl.obj.injEq] at hpl
          obtain ⟨rfl, rfl⟩ := hpl
          obtain ⟨cv, od, g1, g2⟩ := slotv 0 (by rw [he]; exact fun h => by cases h)
          rw [he] at g2
          cases g2 with
          | e _ _ _ g2 => cases g2 with | d _ _ g2 => cases g2
          | ptr _ _ b g2 =>
            have hid : id < s.h.length := by
              rw [← hsim.heap.length]
              exact (List.getElem?_eq_some_iff.1 g2).1
            obtain ⟨b', o1, ob, o2, k1, k2, k3, _⟩ := hsim.heap.at hid
            rw [g2] at k1
            simp only [Option.some.injEq] at k1
            subst k1
            refine fin b o g1 (cells_val hty (fun j hj => k3.cell hj) ?_)
            split at hres
            · split at hres
              · rename_i hl
                simp only [if_true, Option.some.injEq, Rs.val.injEq] at hres
                exact .inl ⟨rfl, hl, hres.2.1.symm, hd⟩
              · cases hres
            · rename_i m
              split at hres
              · rename_i hl
                split at hres
                · rename_i hall
                  simp only [Option.some.injEq, Rs.val.injEq] at hres
                  exact .inr ⟨m, rfl, hl, hall, hres.2.1.symm⟩
                · cases hres
              · cases hres
        · cases hpl
      · rename_i cs hp
        rcases place_t hp with ⟨cs', he, hb, hpl⟩ | ⟨d', o', he, hb, hpl⟩ | ⟨id, o', he, hb, hpl⟩ | ⟨cs', he, hb, hpl⟩
        · cases hpl
        · cases hpl
        · cases hpl
        · simp only [Pl.ro.injEq] at hpl
          subst hpl
          obtain ⟨cv, od, g1, g2⟩ := slotv 0 (by rw [he]; exact fun h => by cases h)
          rw [he] at g2
          cases g2 with
          | e _ _ _ g2 => cases g2 with | d _ _ g2 => cases g2
          | rptr b off _ cvf p1 p2 p3 =>
            refine fin b off g1 ?_
            split at hres
            · split at hres
              · rename_i c cs
                split at hres
                · simp only [Option.some.injEq, Rs.val.injEq] at hres
                  have hc := p2 0 (by simp)
                  have hr := (p3 0 (by simp)).1
                  rw [Nat.add_zero] at hc
                  rw [← hres.2.1]
                  exact ⟨_, run_loadVar_one hty hc, hr⟩
                · cases hres
              · cases hres
            · rename_i m
              split at hres
              · rename_i hl
                simp only [Option.some.injEq, Rs.val.injEq] at hres
                rw [← hres.2.1]
                exact load_agg (P := P) (w := w) (F := F) (b := b) (off := off) (ds := cs.take m) hty.1 hty.2 (by simp; omega) (fun j hj => by
                  rw [nth_take _ _ _ hj]
                  exact ⟨cvf j, p2 j (by omega), p3 j (by omega)⟩)
              · cases hres
      · cases hres
    · cases h
  · cases h
theorem res_ok (hcell : ∀ ty a n v, tyOK P ty n → resV s (.cell a n) = some v → ∃ cv, (res1 tmps (.cell a ty)).run P w = .ok cv w ∧ RepD w F cv v) :
    ∀ {qs : List ARes} {rs : List ResultVar} {vs : List V} {t : List V} {os : List Nat}, RepL (RepV w F ρ) tmps.toList t os → (∀ i ∈ resTmps qs, nth t i = nth s.t i) → chkRes P rs qs = true → nodupB (resTmps qs) = true → resL s qs = some vs →
      ∃ cvs osV, (List.mapM (res1 tmps) rs).run P w = .ok cvs w ∧ RepL (RepE w F) cvs vs osV ∧ (∀ b, osV.count b ≤ os.count b) ∧ ∀ v ∈ vs, isAl v = false
  | [], [], vs, t, os, h, _, _, _, hr => by
    simp only [resL, Option.some.injEq] at hr
    subst hr
    exact ⟨[], [], by simp, .nil, fun b => by simp, fun v hv => by cases hv⟩
  | q :: qs, r :: rs, vs, t, os, h, hsame, hc, hn, hr => by
    simp only [chkRes, Bool.and_eq_true] at hc
    simp only [resL] at hr
    split at hr
    · rename_i v vs' hv hvs
      simp only [Option.some.injEq] at hr
      subst hr
      cases q with
      | tmp i =>
        simp only [resTmps, nodupB, Bool.and_eq_true, Bool.not_eq_true', List.contains_eq_mem] at hn
        have hni : i ∉ resTmps qs := by simpa using hn.1
        have hr1 : r = .tmp i := by
          have := hc.1
          simp only [chkRes1] at this
          split at this
          · rw [beq_iff_eq.1 this]
          · cases this
        subst hr1
        have hti : nth t i = nth s.t i := hsame i (by simp [resTmps])
        have hvt : v = nth s.t i ∧ (v.data = true ∨ ∃ sz xs, v = .sl true sz xs) := by
          simp only [resV] at hv
          split at hv
          · rename_i sz xs he
            simp only [Option.some.injEq] at hv
            exact ⟨by rw [he, hv], .inr ⟨sz, xs, hv.symm⟩⟩
          · split at hv
            · rename_i hd
              simp only [Option.some.injEq] at hv
              exact ⟨hv.symm, .inl (hv ▸ hd)⟩
            · cases hv
        have hi : i < t.length := nth_lt (fun hh => by
          rw [hti, ← hvt.1] at hh
          rcases hvt.2 with h2 | ⟨sz, xs, h2⟩
          · rw [hh] at h2; cases h2
          · rw [hh] at h2; cases h2)
        obtain ⟨cv, o1, od, o2, g1, g2, g3, g4⟩ := h.at hi
        have hE : RepE w F cv v od := by
          rw [hti, ← hvt.1] at g3
          cases g3 with
          | e _ _ _ g3 => exact g3
          | _ => rcases hvt.2 with h2 | ⟨sz, xs, h2⟩ <;> cases h2
        have hrest := g4 (RepV w F ρ) cv .undef [] (fun _ _ _ r _ => r) (.e _ _ _ (.undef _))
        rw [list_set_self g1] at hrest
        obtain ⟨cvs, osV, k1, k2, k3, k4⟩ := res_ok hcell hrest (fun j hj => by
          rw [nth_upd_ne (by rintro rfl; exact hni hj)]
          exact hsame j (by simp [resTmps, hj])) hc.2 hn.2 hvs
        refine ⟨cv :: cvs, od ++ osV, ?_, .cons _ _ _ _ _ _ hE k2, fun b => ?_, fun u hu => ?_⟩
        · rw [List.mapM_cons]
          simp [res1, tmps_getD g1, k1]
        · have := k3 b
          rw [g2]
          simp only [List.count_append, List.count_nil] at this ⊢
          omega
        · cases hu with
          | head =>
            rcases hvt.2 with h2 | ⟨sz, xs, h2⟩
            · exact data_isAl h2
            · rw [h2]; rfl
          | tail _ hu => exact k4 u hu
      | cell a n =>
        have hr1 : ∃ ty, r = .cell a ty ∧ tyOK P ty n := by
          have := hc.1
          simp only [chkRes1] at this
          split at this
          · rename_i a' ty
            simp only [Bool.and_eq_true, beq_iff_eq] at this
            obtain ⟨rfl, h2⟩ := this
            refine ⟨ty, rfl, ?_⟩
            cases n with
            | none => exact h2
            | some m => simpa [tyOK] using h2
          · cases this
        obtain ⟨ty, rfl, hty⟩ := hr1
        obtain ⟨cv, k0, kD⟩ := hcell ty a n v hty hv
        obtain ⟨cvs, osV, k1, k2, k3, k4⟩ := res_ok hcell h (fun j hj => hsame j (by simpa [resTmps] using hj)) hc.2 (by simpa [resTmps] using hn) hvs
        refine ⟨cv :: cvs, [] ++ osV, ?_, .cons _ _ _ _ _ _ (.d _ _ kD) k2, fun b => by simpa using k3 b, fun u hu => ?_⟩
        · rw [List.mapM_cons]
          simp [k0, k1]
        · cases hu with
          | head => exact data_isAl kD.data
          | tail _ hu => exact k4 u hu
    · cases hr
  | [], _ :: _, _, _, _, _, _, hc, _, _ => by cases hc
  | _ :: _, [], _, _, _, _, _, hc, _, _ => by cases hc
end
end Go.Am
namespace Go.Am
open Go Go.RowKit
section
variable {P : Program} {E : Env} {w : World} {F : Nat → Nat} {ρ : List Nat} {s : St} {call : CallF} {B : Nat} {rest osT osH : List Nat}
theorem RepL.appendUndef {R : Value → V → List Nat → Prop} (hu : R undef .undef []) {cvs : List Value} {vs : List V} {os : List Nat} (h : RepL R cvs vs os) (k : Nat) : RepL R (cvs ++ List.replicate k undef) (vs ++ List.replicate k .undef) os := by
 induction h with
 | nil =>
  induction k with
  | zero => exact .nil
  | succ k ih => simpa [List.replicate_succ] using RepL.cons _ _ _ _ [] [] hu ih
 | cons cv v cvs vs os os' h1 _ ih => exact .cons _ _ _ _ _ _ h1 ih
theorem isAl_frame {vs : List V} (h : ∀ v ∈ vs, isAl v = false) (k e : Nat) : isAl (nth (vs ++ List.replicate k .undef) e) = false := by
 by_cases he : e < (vs ++ List.replicate k V.undef).length
 ·rw [nth_eq_getElem he]
  have := List.getElem_mem he
  simp only [List.mem_append, List.mem_replicate] at this
  rcases this with h1 | ⟨_, h1⟩
  ·exact h _ h1
  ·rw [h1]; rfl
 ·rw [nth_out (by omega)]; rfl
theorem RepH.take {ρ : List Nat} {hp : Heap} {os : List Nat} (h : RepH w F ρ hp os) (n : Nat) : ∃ os', RepH w F (ρ.take n) (hp.take n) os' ∧ ∀ b, os'.count b ≤ os.count b := by
 induction h generalizing n with
 | nil => exact ⟨[], by simpa using RepH.nil, fun b => Nat.le_refl _⟩
 | cons b cs ρ hp os os' h1 _ ih =>
  cases n with
  | zero => exact ⟨[], by simpa using RepH.nil, fun b => by simp⟩
  | succ n =>
   obtain ⟨o1, q1, q2⟩ := ih n
   refine ⟨b :: os ++ o1, by simpa using RepH.cons _ _ _ _ _ _ h1 q1, fun c => ?_⟩
   have := q2 c
   simp only [List.count_append] at this ⊢
   omega
theorem take_prefix {ρ ρ' : List Nat} (h : ∀ (id b : Nat), ρ[id]? = some b → ρ'[id]? = some b) : ρ'.take ρ.length = ρ := by
 apply List.ext_getElem?
 intro i
 by_cases hi : i < ρ.length
 ·rw [List.getElem?_take_of_lt hi, List.getElem?_eq_getElem hi]
  exact h i _ (List.getElem?_eq_getElem hi)
 ·rw [List.getElem?_eq_none (by simp; omega), List.getElem?_eq_none (by omega)]
theorem heap_back {w0 : World} {F0 : Nat → Nat} {ρ0 ρ : List Nat} {h0 hp : Heap} {os : List Nat} (hl : ρ0.length = h0.length) (hρ : ∀ (id b : Nat), ρ0[id]? = some b → ρ[id]? = some b) (h : RepH w F ρ hp os) :
    ∃ os', RepH w F ρ0 (hp.take h0.length) os' ∧ ∀ b, os'.count b ≤ os.count b := by
  obtain ⟨os', q1, q2⟩ := h.take h0.length
  refine ⟨os', ?_, q2⟩
  rwa [← hl, take_prefix hρ, hl] at q1
theorem count_mem {l m : List Nat} (h : ∀ b, l.count b ≤ m.count b) {b : Nat} (hb : b ∈ l) : b ∈ m := List.count_pos_iff.1 (Nat.lt_of_lt_of_le (List.count_pos_iff.2 hb) (h b))
theorem finish_ok {fn : Func} {af : AF} {h0 : Heap} {r : Rt} {e : Ex} {s' : St} {x : Exit} {a : Act} (hl : E.ρ.length = h0.length) (hres : chkRes P fn.results.toList af.res = true) (hnd : nodupB (resTmps af.res) = true)
    (hfin : finish af h0.length (some (e, s')) = some r) (hrel : Rel E [] e s' x a w) : bodyPost P fn (fun e w' => CallEnd E.B E.w E.F E.ρ E.rest E.os r e w') x a w := by
  have ok : Stt E a w s' → ∀ vs, resL s' af.res = some vs → (r = .ret (match vs with | [v] => v | _ => .tup vs) (s'.h.take h0.length)) →
      ∃ v, (results fn a.tmps).run P w = .ok v w ∧ CallEnd E.B E.w E.F E.ρ E.rest E.os r (.returned v) w := by
    rintro ⟨F, ρ, osT, osH, e0, r0, hsim, n0⟩ vs hvs rfl
    obtain ⟨cvs, osV, k1, k2, k3, k4⟩ := res_ok (P := P) (tmps := a.tmps) (fun ty a n v hty hv => cell_res hsim hty hv) hsim.tmps (fun _ _ => rfl) hres hnd hvs
    obtain ⟨osH', m1, m2⟩ := heap_back (w0 := w) (F0 := F) hl r0 hsim.heap
    refine ⟨_, results_run k1, F, osV, osH', e0, ?_, ?_, m1, fun b => ?_, fun b hb => ?_⟩
    · have hlen := k2.length
      cases vs with
      | nil =>
        cases cvs with
        | nil => exact .tup _ _ _ k2
        | cons => simp at hlen
      | cons v vs =>
        cases cvs with
        | nil => simp at hlen
        | cons cv cvs =>
          cases vs with
          | nil =>
            cases cvs with
            | nil =>
              cases k2 with
              | cons _ _ _ _ o1 o2 p1 p2 =>
                cases p2
                simp only [List.append_nil]
                exact .e _ _ _ p1
            | cons => simp at hlen
          | cons v2 vs =>
            cases cvs with
            | nil => simp at hlen
            | cons cv2 cvs => exact .tup _ _ _ k2
    · cases vs with
      | nil => rfl
      | cons v vs =>
        cases vs with
        | nil => exact k4 v (by simp)
        | cons v2 vs => rfl
    · have h1 := hsim.once b
      have h2 := k3 b
      have h3 := m2 b
      simp only [List.count_append] at h1 ⊢
      omega
    · have hm : b ∈ osT ++ osH := by
        simp only [List.mem_append] at hb ⊢
        rcases hb with hb | hb
        · exact .inl (count_mem k3 hb)
        · exact .inr (count_mem m2 hb)
      obtain ⟨b1, b2, b3⟩ := hsim.inb b (by simp only [List.mem_append] at hm ⊢; rcases hm with hm | hm <;> simp [hm])
      exact ⟨n0 b hm, b2, b3⟩
  have okv : Stt E a w s' → (match resL s' af.res with | some [v] => some (Rt.ret v (s'.h.take h0.length)) | some vs => some (.ret (.tup vs) (s'.h.take h0.length)) | none => none) = some r →
      ∃ v, (results fn a.tmps).run P w = .ok v w ∧ CallEnd E.B E.w E.F E.ρ E.rest E.os r (.returned v) w := by
    intro hst hr
    cases hv : resL s' af.res with
    | none => rw [hv] at hr; cases hr
    | some vs =>
      rw [hv] at hr
      refine ok hst vs hv ?_
      cases vs with
      | nil => simp only [Option.some.injEq] at hr; exact hr.symm
      | cons v vs =>
        cases vs with
        | nil => simp only [Option.some.injEq] at hr; exact hr.symm
        | cons v2 vs => simp only [Option.some.injEq] at hr; exact hr.symm
  cases e with
  | norm =>
    cases x with
    | normal =>
      obtain ⟨v, h1, h2⟩ := okv hrel.1 hfin
      exact ⟨hrel.2, v, h1, h2⟩
    | _ => exact hrel.elim
  | ret =>
    cases x with
    | ret =>
      obtain ⟨v, h1, h2⟩ := okv hrel.1 hfin
      exact ⟨hrel.2, v, h1, h2⟩
    | _ => exact hrel.elim
  | exit id => cases hfin
  | pan v =>
    cases x with
    | panic chain =>
      obtain ⟨⟨cv, hchain, F, ρ, osH, e0, r0, p1, p2, p3, p4, _⟩, hd⟩ := hrel
      simp only [finish] at hfin
      split at hfin
      · simp only [Option.some.injEq] at hfin
        subst hfin
        obtain ⟨osH', m1, m2⟩ := heap_back (w0 := w) (F0 := F) hl r0 p2
        refine ⟨hd, F, osH', cv, e0, hchain, p1, m1, fun b => ?_, fun b hb => p4 b (count_mem m2 hb)⟩
        have h1 := p3 b
        have h2 := m2 b
        simp only [List.count_append] at h1 ⊢
        omega
      · cases hfin
    | _ => exact hrel.elim
theorem callN_sound (M : Mach) (hext : SoundCall P M.ext) (hft : ∀ f af, M.ft f = some af → chkF P f af = true) : ∀ n, SoundCall P (callN M n) := by
 intro n
 induction n with
 | zero => exact hext
 | succ n ih =>
  intro f vs h r hr
  simp only [callN] at hr
  cases he : M.ext f vs h with
  | some q =>
   rw [he] at hr
   simp only [Option.some.injEq] at hr
   subst hr
   exact hext f vs h q he
  | none =>
   rw [he] at hr
   simp only at hr
   cases hf : M.ft f with
   | none => rw [hf] at hr; cases hr
   | some af =>
    rw [hf] at hr
    simp only at hr
    have hc := hft f af hf
    unfold chkF at hc
    split at hc
    ·rename_i fn hfn
     simp only [Bool.and_eq_true, beq_iff_eq, bne_iff_ne, ne_eq] at hc
     obtain ⟨⟨⟨⟨hname, hnt⟩, hres⟩, hnd⟩, hbody⟩ := hc
     split at hbody
     ·rename_i c hb
      refine ⟨by simp [enterable, hfn, hname, hb], fun B w F ρ rest osA osH cargs q1 q2 q3 q4 q5 q6 q7 => ?_⟩
      cases hev : evC (callN M n) n af.body ⟨frame af vs, h⟩ with
      | none => rw [hev] at hr; cases hr
      | some es =>
       obtain ⟨e, s'⟩ := es
       rw [hev] at hr
       refine calls_of_wp hfn hb ?_
       have hlen := q1.length
       let E : Env := ⟨B, w, F, ρ, rest, osA ++ osH⟩
       have hst : Stt E { tmps := cargs.toArray ++ Array.replicate (fn.ntmps - cargs.toArray.size) undef, defers := [] } w ⟨frame af vs, h⟩ := by
        refine ⟨F, ρ, osA, osH, Ext.refl q6, fun _ _ x => x, ⟨?_, q3, ?_, q4, q5, q6, q7⟩, fun b hb => .inl hb⟩
        ·have := RepL.appendUndef (R := RepV w F ρ) (.e _ _ _ (.undef _)) q1 (fn.ntmps - cargs.length)
         simp only [frame, ← hlen, ← hnt]
         simpa using this
        ·intro e cv hcv
         exact aliasV_of (isAl_frame q2 _ e)
       exact wp_mono (code_ok ih n af.body c _ w _ e s' hbody hst rfl hev) (fun x a' w' hrel => finish_ok (E := E) q3.length hres hnd hr hrel)
     ·cases hbody
    ·cases hc
theorem acall_sound (M : Mach) (hext : SoundCall P M.ext) (hft : ∀ f af, M.ft f = some af → chkF P f af = true) : SoundCall P (acall M) := by
 intro f vs h r hr
 obtain ⟨n, hn⟩ := (acall_iff M).1 hr
 exact callN_sound M hext hft n f vs h r hn
theorem soundCall_none : SoundCall P (fun _ _ _ => none) := fun f vs h r hr => by cases hr
end
end Go.Am
namespace Go.Am
open Go Go.RowKit
theorem add_bo (a : Addr) (k : Nat) : (a.add k).block = a.block ∧ (a.add k).off = a.off + k := by
 unfold Addr.add
 split
 ·rename_i h; rw [h]; exact ⟨rfl, rfl⟩
 ·exact ⟨rfl, rfl⟩
def cumul (P : Program) : Nat → List Field → Option Nat
 | k, [] => some k
 | k, f :: fs => if f.offset == k then cumul P (k + P.cellsOf f.type) fs else none
def plainIn (P : Program) (S : List TypeId) (t : TypeId) : Bool := match P.underlying t with
 | some .bool => true
 | some (.int _) => true
 | some .string => true
 | some (.slice e) => S.contains e && decide (0 < P.cellsOf e)
 | some (.struct fs) => cumul P 0 fs.toList == some (P.cellsOf t) && fs.toList.all fun x => S.contains x.type
 | some (.array n e) => S.contains e && decide (0 < P.cellsOf e) && n * P.cellsOf e == P.cellsOf t
 | _ => false
def plainS (P : Program) (S : List TypeId) : Bool := S.all (plainIn P S)
theorem plainS_at {P : Program} {S : List TypeId} (h : plainS P S = true) {t : TypeId} (ht : S.contains t = true) : plainIn P S t = true :=
 List.all_eq_true.1 h t (by simpa using ht)
section
variable {H : Type} {enc : TypeId × Value → H} {P : Program} {w w' : World} {base : Nat} {sp : Nat → Bool} {held : Bool}
theorem trod_sp {S : List TypeId} (hS : plainS P S = true) : ∀ (n : Nat) (t : TypeId) (cs : List Value) (x : DataW H × List MemPlace), S.contains t = true → DataW.trod enc P w base (fun _ => true) held n t cs = some x →
  (∀ p ∈ x.2, w.sameAt w' p ∧ sp p.block = true) → DataW.trod enc P w' base sp held n t cs = some x := by
 intro n
 induction n with
 | zero => intro t cs x hp h; simp [DataW.trod] at h
 | succ n ih =>
  intro t cs x ht h hs
  have hp := plainS_at hS ht
  simp only [plainIn] at hp
  split at hp
  ·rename_i hu
   obtain ⟨b, rfl, rfl⟩ := DataW.trod_bool hu h
   unfold DataW.trod; rw [hu]
  ·rename_i k hu
   obtain ⟨m, rfl, rfl, hwf⟩ := DataW.trod_int hu h
   unfold DataW.trod; rw [hu]; simp [hwf]
  ·rename_i hu
   obtain ⟨b, rfl, rfl, hl⟩ := DataW.trod_string hu h
   unfold DataW.trod; rw [hu]; simp [hl]
  ·rename_i e hu
   simp only [Bool.and_eq_true, decide_eq_true_eq] at hp
   rcases DataW.trod_slice hu h with ⟨rfl, rfl⟩ | ⟨a, len, cap, elems, rest, n', hn, rfl, rfl, hb, hl, hm, hlen, hel, hrs, _⟩
   ·unfold DataW.trod; rw [hu]; simp
   ·obtain rfl : n' = n := by omega
    obtain ⟨hrl, hr⟩ := hrs rfl
    have el : ∀ (i : Nat) (y : DataW H × List MemPlace), i < elems.length + rest.length → y ∈ elems ++ rest → (w.cells? base (a.add (i * P.cellsOf e)) (P.cellsOf e)).bind (DataW.trod enc P w base (fun _ => true) held n' e) = some y →
      (w'.cells? base (a.add (i * P.cellsOf e)) (P.cellsOf e)).bind (DataW.trod enc P w' base sp held n' e) = some y := by
     intro i y hi hy hb
     simp only [Option.bind_eq_some_iff] at hb ⊢
     obtain ⟨cs, h1, h2⟩ := hb
     refine ⟨cs, World.cells?_carry h1 (fun p hp' => (hs p ?_).1), ih e cs y hp.1 h2 (fun p hp' => hs p ?_)⟩
     ·simp only [List.mem_append]
      left
      simp only [MemPlace.row, List.mem_map, List.mem_range] at hp' ⊢
      obtain ⟨j, hj, rfl⟩ := hp'
      have hlt := mul_add_lt hi hj
      refine ⟨i * P.cellsOf e + j, hlt, ?_⟩
      rw [(add_bo a _).1, (add_bo a _).2, Nat.add_assoc]
     ·simp only [List.mem_append, List.mem_flatMap]
      right
      exact ⟨y, by simpa using hy, hp'⟩
    have e1 : (List.range len).mapM (fun i => (w'.cells? base (a.add (i * P.cellsOf e)) (P.cellsOf e)).bind (DataW.trod enc P w' base sp held n' e)) = some elems := by
     refine mapM_some_of_get _ _ (by simp [hlen]) fun i x hx => ?_
     have hi : i < len := by simpa using (List.getElem?_eq_some_iff.1 hx).1
     have : x = i := by simp [hi] at hx; exact hx.symm
     subst this
     rw [List.getElem?_eq_getElem (by omega)]
     exact el _ _ (by omega) (by simp) (by rw [hel _ hi, List.getElem?_eq_getElem (by omega)])
    have e2 : (List.range (cap - len)).mapM (fun j => (w'.cells? base (a.add ((len + j) * P.cellsOf e)) (P.cellsOf e)).bind (DataW.trod enc P w' base sp held n' e)) = some rest := by
     refine mapM_some_of_get _ _ (by simp [hrl]) fun i x hx => ?_
     have hi : i < cap - len := by simpa using (List.getElem?_eq_some_iff.1 hx).1
     have : x = i := by simp [hi] at hx; exact hx.symm
     subst this
     rw [List.getElem?_eq_getElem (by omega)]
     exact el _ _ (by omega) (by simp) (by rw [hr _ hi, List.getElem?_eq_getElem (by omega)])
    have e3 : (if sp a.block then (List.range (cap - len)).mapM (fun j => (w'.cells? base (a.add ((len + j) * P.cellsOf e)) (P.cellsOf e)).bind (DataW.trod enc P w' base sp held n' e)) else some []) = some rest := by
     by_cases hcl : cap - len = 0
     ·have hrn : rest = [] := List.length_eq_zero_iff.1 (by omega)
      rw [e2, hrn]
      split <;> rfl
     ·have hpos : 0 < (elems.length + rest.length) * P.cellsOf e := Nat.mul_pos (by omega) hp.2
      have hspa : sp a.block = true := (hs (.cell a.block (a.off + 0)) (by
       simp only [List.mem_append]
       left
       simp only [MemPlace.row, List.mem_map, List.mem_range]
       exact ⟨0, hpos, rfl⟩)).2
      rw [if_pos hspa, e2]
    unfold DataW.trod
    rw [hu]
    simp only
    rw [if_pos ⟨hb, hl, hm⟩, e1]
    simp only [Option.bind_some]
    rw [e3]
    rfl
  ·rename_i fs hu
   simp only [Bool.and_eq_true] at hp
   obtain ⟨xs, n', hn, rfl, hl, hlen, hf⟩ := DataW.trod_struct hu h
   obtain rfl : n' = n := by omega
   refine Go.ChangeShapes.trod_struct_mk hu hl (mapM_some_of_get _ _ (by simp [hlen]) fun i fl hfl => ?_)
   have hi : i < fs.size := by simpa using (List.getElem?_eq_some_iff.1 hfl).1
   have hfl' : fs[i]? = some fl := by simpa using hfl
   have hx := hf i fl hfl'
   rw [List.getElem?_eq_getElem (by omega)] at hx ⊢
   refine ih fl.type _ _ (List.all_eq_true.1 hp.2 fl (List.mem_of_getElem? hfl)) hx (fun p hp' => hs p ?_)
   simp only [List.mem_flatMap]
   exact ⟨_, List.getElem_mem (by omega), hp'⟩
  ·rename_i m e hu
   simp only [Bool.and_eq_true, decide_eq_true_eq] at hp
   obtain ⟨xs, n', hn, rfl, hl, hlen, hf⟩ := DataW.trod_array hu h
   obtain rfl : n' = n := by omega
   have e1 : (List.range m).mapM (fun i => DataW.trod enc P w' base sp held n' e ((cs.drop (i * P.cellsOf e)).take (P.cellsOf e))) = some xs := by
    refine mapM_some_of_get _ _ (by simp [hlen]) fun i x hx => ?_
    have hi : i < m := by simpa using (List.getElem?_eq_some_iff.1 hx).1
    have : x = i := by simp [hi] at hx; exact hx.symm
    subst this
    have hy := hf _ hi
    rw [List.getElem?_eq_getElem (by omega)] at hy ⊢
    refine ih e _ _ hp.1.1 hy (fun p hp' => hs p ?_)
    simp only [List.mem_flatMap]
    exact ⟨_, List.getElem_mem (by omega), hp'⟩
   unfold DataW.trod
   rw [hu]
   split <;> simp_all
  ·cases hp
theorem trodAll_sp {S : List TypeId} (hS : plainS P S = true) : ∀ {ts : List TypeId} {vs : List Value} {ds : List (DataW H)} {ps : List MemPlace}, ts.all S.contains = true → DataW.TrodAll enc P w base (fun _ => true) held ts vs ds ps →
  (∀ p ∈ ps, w.sameAt w' p ∧ sp p.block = true) → DataW.TrodAll enc P w' base sp held ts vs ds ps
 | [], [], [], ps, _, h, _ => h
 | t :: ts, v :: vs, d :: ds, ps, hp, ⟨p, q, ⟨n, h1⟩, h2, e⟩, hs => by
  subst e
  simp only [List.all_cons, Bool.and_eq_true] at hp
  exact ⟨p, q, ⟨n, trod_sp hS n t _ _ hp.1 h1 fun x hx => hs x (by simp [hx])⟩, trodAll_sp hS hp.2 h2 fun x hx => hs x (by simp [hx]), rfl⟩
theorem post_law {fn : Func} {sp : ChangeSpec} {apart fresh handsOn : Bool} {W W' : World} {args : Array Value} {ds gs : List (DataW H)} {before : List MemPlace} {S : List TypeId} {tb : TypeId} (hS : plainS P S = true)
    (hW : DataW.Whole enc P fn.params.toList sp.vars apart W args.toList ds gs before) (hpl : fn.params.toList.all S.contains = true) (hb : Below W.heap.size W W') (hvars : sp.vars = [])
    (hres : (sp.fn H (ds ++ gs)).results = [.lit (.bool true)]) (hargs : (sp.fn H (ds ++ gs)).args = ds) (hv : (sp.fn H (ds ++ gs)).vars = []) (hrt : fn.resultTypes = #[tb]) (htb : P.underlying tb = some .bool) :
    sp.post enc P fn apart fresh handsOn false W args (.bool true) W' := by
  have hlt := hW.lt
  have hW' := hW
  obtain ⟨p, q, hA, hV, rfl, _, _⟩ := hW
  have hq : q = [] := by
    rw [hvars] at hV
    cases gs with
    | nil => exact hV
    | cons => exact hV.elim
  subst hq
  refine ⟨ds, gs, p ++ [], [], p, [], hW', ?_, ?_, ?_, hb.frame _, fun h => by cases h⟩
  · rw [hres, hrt]
    exact ⟨[], [], ⟨1, by simp [DataW.trod, htb, Value.cells]⟩, rfl, rfl⟩
  · rw [hargs]
    refine trodAll_sp hS hpl hA fun x hx => ⟨hb.same (hlt x (by simp [hx])), ?_⟩
    have := hlt x (by simp [hx])
    simpa using this
  · rw [hvars, hv]
    rfl
end
end Go.Am
namespace Go.Am
open Go Go.RowKit
def F0 (w : World) (b : Nat) : Nat := match w.heap[b]? with
 | some (.cells cur _ _) => cur.size
 | _ => 0
theorem F0_lt {w : World} {b o : Nat} {sp : Option Nat} {v : Value} (h : w.cell? ⟨b, o, none⟩ = some v) : o < F0 w b := by
 simp only [World.cell?] at h
 unfold F0
 split at h
 ·rename_i c e fr hb
  rw [hb]
  simp only [Option.isSome_none, Bool.false_eq_true, if_false] at h
  exact (Array.getElem?_eq_some_iff.1 h).1
 ·cases h
theorem F0_fresh (w : World) : ∀ b, w.heap.size ≤ b → F0 w b = 0 := fun b hb => by
 unfold F0
 rw [Array.getElem?_eq_none hb]
def mkEl (P : Program) (e : TypeId) (cs : List V) : V := if aggT P e then .agg cs else nth cs 0
def TyFs (R : TypeId → List V → Prop) : List Field → List V → Prop
 | [], cs => cs = []
 | f :: fs, cs => ∃ x y, cs = x ++ y ∧ R f.type x ∧ TyFs R fs y
def TyAs (R : List V → Prop) : Nat → List V → Prop
 | 0, cs => cs = []
 | n + 1, cs => ∃ x y, cs = x ++ y ∧ R x ∧ TyAs R n y
def TyC (P : Program) : Nat → TypeId → List V → Prop
 | 0, _, _ => False
 | f + 1, t, cs => match P.underlying t with
  | some (.array n e) => TyAs (TyC P f e) n cs
  | some .bool => ∃ b, cs = [.bool b]
  | some (.int k) => ∃ n, cs = [.int k n] ∧ (Lit.int k n).wf = true
  | some .string => ∃ l, cs = [.str l] ∧ l.length ≤ reachBytes
  | some (.slice e) => ∃ xs, cs = [.sl false (P.cellsOf e) xs] ∧ (1 ≤ P.bytesOf e → xs.length ≤ reachBytes) ∧ ∀ x ∈ xs, x = mkEl P e x.cells ∧ TyC P f e x.cells
  | some (.struct fs) => TyFs (TyC P f) fs.toList cs
  | _ => False
section
variable {H : Type} {enc : TypeId × Value → H} {P : Program} {w : World} {base : Nat} {held : Bool}
def RepCs (w : World) (cs : List Value) (vs : List V) : Prop := vs.length = cs.length ∧ ∀ j v, cs[j]? = some v → RepD w (F0 w) v (nth vs j) ∧ (nth vs j).one = true
theorem RepCs.one {v : Value} {u : V} (h : RepD w (F0 w) v u) (h1 : u.one = true) : RepCs w [v] [u] := by
 refine ⟨rfl, fun j x hj => ?_⟩
 cases j with
 | zero => simp only [List.getElem?_cons_zero, Option.some.injEq] at hj; subst hj; exact ⟨h, h1⟩
 | succ j => simp at hj
theorem open_fields {R : TypeId → List V → Prop} (cs : List Value) : ∀ (fs : List Field) (k m : Nat), cumul P k fs = some m → m ≤ cs.length →
  (∀ fl ∈ fs, ∃ vs, RepCs w ((cs.drop fl.offset).take (P.cellsOf fl.type)) vs ∧ R fl.type vs) → ∃ vs, RepCs w ((cs.drop k).take (m - k)) vs ∧ TyFs R fs vs ∧ k ≤ m
 | [], k, m, hk, hm, _ => by
  simp only [cumul, Option.some.injEq] at hk
  subst hk
  exact ⟨[], ⟨by simp, fun j v hj => by simp at hj⟩, rfl, Nat.le_refl _⟩
 | fl :: fs, k, m, hk, hm, h => by
  simp only [cumul] at hk
  split at hk
  ·rename_i ho
   have ho : fl.offset = k := by simpa using ho
   obtain ⟨v1, ⟨l1, r1⟩, t1⟩ := h fl (by simp)
   obtain ⟨v2, ⟨l2, r2⟩, t2, hle⟩ := open_fields cs fs _ m hk hm (fun x hx => h x (by simp [hx]))
   rw [ho] at l1 r1
   have hl1 : v1.length = P.cellsOf fl.type := by rw [l1]; simp; omega
   have hl2 : v2.length = m - (k + P.cellsOf fl.type) := by rw [l2]; simp; omega
   refine ⟨v1 ++ v2, ⟨by simp [hl1, hl2]; omega, fun j v hj => ?_⟩, ⟨v1, v2, rfl, t1, t2⟩, by omega⟩
   by_cases hjl : j < v1.length
   ·rw [nth_append_left hjl]
    refine r1 j v ?_
    rw [← hj]
    have : j < m - k := by omega
    rw [List.getElem?_take_of_lt (by omega), List.getElem?_take_of_lt this]
   ·obtain ⟨i, rfl⟩ := Nat.exists_eq_add_of_le (Nat.le_of_not_lt hjl)
    have hjm : v1.length + i < m - k := by
     have := (List.getElem?_eq_some_iff.1 hj).1
     simp at this
     omega
    rw [nth_append_right (by omega)]
    refine r2 i v ?_
    rw [← hj, List.getElem?_take_of_lt (by omega), List.getElem?_take_of_lt hjm, List.getElem?_drop, List.getElem?_drop, hl1, Nat.add_assoc]
  ·cases hk
theorem open_pieces {R : List V → Prop} (cs : List Value) (c : Nat) : ∀ (n k : Nat), (k + n) * c ≤ cs.length →
  (∀ i, k ≤ i → i < k + n → ∃ vs, RepCs w ((cs.drop (i * c)).take c) vs ∧ R vs) → ∃ vs, RepCs w ((cs.drop (k * c)).take (n * c)) vs ∧ TyAs R n vs
 | 0, k, _, _ => ⟨[], ⟨by simp, fun j v hj => by simp at hj⟩, rfl⟩
 | n + 1, k, hm, h => by
  obtain ⟨v1, ⟨l1, r1⟩, t1⟩ := h k (by omega) (by omega)
  obtain ⟨v2, ⟨l2, r2⟩, t2⟩ := open_pieces cs c n (k + 1) (by rw [show k + 1 + n = k + (n + 1) by omega]; exact hm) (fun i h1 h2 => h i (by omega) (by omega))
  have e0 : (k + (n + 1)) * c = k * c + (n + 1) * c := Nat.add_mul _ _ _
  have e1 : (n + 1) * c = n * c + c := Nat.succ_mul _ _
  have e2 : (k + 1) * c = k * c + c := Nat.succ_mul _ _
  have hl1 : v1.length = c := by rw [l1]; simp; omega
  have hl2 : v2.length = n * c := by rw [l2]; simp; omega
  refine ⟨v1 ++ v2, ⟨by simp [hl1, hl2]; omega, fun j v hj => ?_⟩, ⟨v1, v2, rfl, t1, t2⟩⟩
  by_cases hjl : j < v1.length
  ·rw [nth_append_left hjl]
   refine r1 j v ?_
   rw [← hj]
   rw [List.getElem?_take_of_lt (by omega), List.getElem?_take_of_lt (by omega)]
  ·obtain ⟨i, rfl⟩ := Nat.exists_eq_add_of_le (Nat.le_of_not_lt hjl)
   have hjm : v1.length + i < (n + 1) * c := by
    have := (List.getElem?_eq_some_iff.1 hj).1
    simp at this
    omega
   rw [nth_append_right (by omega)]
   refine r2 i v ?_
   rw [← hj, List.getElem?_take_of_lt (by omega), List.getElem?_take_of_lt hjm, List.getElem?_drop, List.getElem?_drop, hl1, e2, Nat.add_assoc]
theorem cell_spot {a : Addr} {v : Value} (h : w.cell? a = some v) : a = ⟨a.block, a.off, none⟩ := by
 cases a with
 | mk b o sp =>
  simp only [World.cell?] at h
  split at h
  ·split at h
   ·cases h
   ·rename_i hs
    cases sp with
    | none => rfl
    | some _ => simp at hs
  ·cases h
theorem mapM_choose {α : Type} {p : Nat → α → Prop} : ∀ (n : Nat), (∀ i, i < n → ∃ x, p i x) → ∃ l : List α, l.length = n ∧ ∀ i x, l[i]? = some x → p i x
 | 0, _ => ⟨[], rfl, fun i x h => by simp at h⟩
 | n + 1, h => by
  obtain ⟨l, h1, h2⟩ := mapM_choose n (fun i hi => h i (by omega))
  obtain ⟨x, hx⟩ := h n (by omega)
  refine ⟨l ++ [x], by simp [h1], fun i y hy => ?_⟩
  by_cases hi : i < l.length
  ·rw [List.getElem?_append_left hi] at hy
   exact h2 i y hy
  ·rw [List.getElem?_append_right (by omega)] at hy
   have : i - l.length = 0 := by
    have := (List.getElem?_eq_some_iff.1 hy).1
    simp at this
    omega
   rw [this] at hy
   simp only [List.getElem?_cons_zero, Option.some.injEq] at hy
   subst hy
   have : i = n := by omega
   subst this
   exact hx
theorem mkEl_cells {e : TypeId} {vs : List V} {cs : List Value} (h : RepCs w cs vs) (hl : aggT P e = false → vs.length = 1) : (mkEl P e vs).cells = vs ∧ (mkEl P e vs).data = true := by
 unfold mkEl
 split
 ·exact ⟨rfl, rfl⟩
 ·rename_i ha
  have h1 := hl (by simpa using ha)
  match vs, h1 with
  | [v], _ =>
   obtain ⟨hlen, hr⟩ := h
   have hone : v.one = true := by
    match cs, hlen with
    | [c], _ => exact (hr 0 c rfl).2
   exact ⟨V.one_cells hone, V.one_data hone⟩
theorem plain_one {f : Nat} {t : TypeId} {vs : List V} (ha : aggT P t = false) (h : TyC P f t vs) : vs.length = 1 := by
 cases f with
 | zero => exact h.elim
 | succ f =>
  simp only [TyC] at h
  unfold aggT at ha
  split at h
  ·rename_i hu; rw [hu] at ha; cases ha
  ·obtain ⟨b, rfl⟩ := h; rfl
  ·obtain ⟨b, rfl, _⟩ := h; rfl
  ·obtain ⟨b, rfl, _⟩ := h; rfl
  ·obtain ⟨b, rfl, _⟩ := h; rfl
  ·rename_i fs hu; rw [hu] at ha; cases ha
  ·exact h.elim
theorem weightsAll_mem {e : TypeId} {d : DataW H} {y : Nat} : ∀ {ds : List (DataW H)}, d ∈ ds → y ∈ d.weights P e → y ∈ DataW.weightsAll P e ds
 | [], h, _ => by cases h
 | x :: ds, h, hy => by
  simp only [DataW.weightsAll, List.mem_append]
  cases h with
  | head => exact .inl hy
  | tail _ h => exact .inr (weightsAll_mem h hy)
theorem weightsEach_mem {t : TypeId} {d : DataW H} {y : Nat} : ∀ {i : Nat} {ts : List TypeId} {ds : List (DataW H)}, ts[i]? = some t → ds[i]? = some d → y ∈ d.weights P t → y ∈ DataW.weightsEach P ts ds
 | i, [], ds, h, _, _ => by simp at h
 | i, _ :: _, [], _, h, _ => by simp at h
 | 0, t' :: ts, d' :: ds, h, h', hy => by
  simp only [List.getElem?_cons_zero, Option.some.injEq] at h h'
  subst h; subst h'
  simp only [DataW.weightsEach, List.mem_append]
  exact .inl hy
 | i + 1, t' :: ts, d' :: ds, h, h', hy => by
  simp only [DataW.weightsEach, List.mem_append]
  exact .inr (weightsEach_mem (i := i) (by simpa using h) (by simpa using h') hy)
theorem open_cells {S : List TypeId} (hS : plainS P S = true) : ∀ (n : Nat) (t : TypeId) (cs : List Value) (x : DataW H × List MemPlace), S.contains t = true → DataW.trod enc P w base (fun _ => true) held n t cs = some x → (∀ y ∈ x.1.weights P t, y ≤ reachBytes) → ∃ vs, RepCs w cs vs ∧ TyC P n t vs := by
 intro n
 induction n with
 | zero => intro t cs x hp h; simp [DataW.trod] at h
 | succ n ih =>
  intro t cs x ht h hwt
  have hp := plainS_at hS ht
  simp only [plainIn] at hp
  split at hp
  ·rename_i hu
   obtain ⟨b, rfl, rfl⟩ := DataW.trod_bool hu h
   exact ⟨[.bool b], RepCs.one (.bool b) rfl, by simp [TyC, hu]⟩
  ·rename_i k hu
   obtain ⟨m, rfl, rfl, hwf⟩ := DataW.trod_int hu h
   exact ⟨[.int k m], RepCs.one (.int k m) rfl, by simp [TyC, hu, hwf]⟩
  ·rename_i hu
   obtain ⟨b, rfl, rfl, hl⟩ := DataW.trod_string hu h
   exact ⟨[.str b.data.toList], RepCs.one (.str b _ rfl) rfl, by simp only [TyC, hu]; exact ⟨_, rfl, by have := hwt b.data.toList.length (by simp [DataW.weights]); exact this⟩⟩
  ·rename_i e hu
   simp only [Bool.and_eq_true, decide_eq_true_eq] at hp
   rcases DataW.trod_slice hu h with ⟨rfl, rfl⟩ | ⟨a, len, cap, elems, rest, n', hn, rfl, rfl, hb, hl, hm, hlen, hel, hrs, _⟩
   ·exact ⟨[.sl false (P.cellsOf e) []], RepCs.one (.slnil none _) rfl, by simp only [TyC, hu]; exact ⟨[], rfl, fun _ => by simp, fun x hx => by cases hx⟩⟩
   ·obtain rfl : n' = n := by omega
    obtain ⟨hrl, hr⟩ := hrs rfl
    simp only [DataW.weights, hu] at hwt
    by_cases hc0 : cap = 0
    ·have hl0 : len = 0 := by omega
     subst hc0; subst hl0
     exact ⟨[.sl false (P.cellsOf e) []], RepCs.one (.slnil (some a) _) rfl, by simp only [TyC, hu]; exact ⟨[], rfl, fun _ => by simp, fun x hx => by cases hx⟩⟩
    · -- every place up to cap holds a cell
     have hcell : ∀ i, i < cap → ∃ ecs y, w.cells? base (a.add (i * P.cellsOf e)) (P.cellsOf e) = some ecs ∧ DataW.trod enc P w base (fun _ => true) held n' e ecs = some y ∧ (∀ z ∈ y.1.weights P e, z ≤ reachBytes) := by
      intro i hi
      by_cases hil : i < len
      ·have := hel i hil
       rw [List.getElem?_eq_getElem (by omega), Option.bind_eq_some_iff] at this
       obtain ⟨ecs, h1, h2⟩ := this
       refine ⟨ecs, _, h1, h2, fun z hz => hwt z ?_⟩
       simp only [List.mem_cons, List.mem_append]
       exact .inr (.inl (weightsAll_mem (List.mem_map.2 ⟨_, List.getElem_mem (by omega), rfl⟩) hz))
      ·have := hr (i - len) (by omega)
       rw [List.getElem?_eq_getElem (by omega), Option.bind_eq_some_iff] at this
       obtain ⟨ecs, h1, h2⟩ := this
       rw [show len + (i - len) = i by omega] at h1
       refine ⟨ecs, _, h1, h2, fun z hz => hwt z ?_⟩
       simp only [List.mem_cons, List.mem_append]
       exact .inr (.inr (weightsAll_mem (List.mem_map.2 ⟨_, List.getElem_mem (by omega), rfl⟩) hz))
     have hspot : a = ⟨a.block, a.off, none⟩ := by
      obtain ⟨ecs, y, h1, _, _⟩ := hcell 0 (by omega)
      obtain ⟨_, h2, h3⟩ := World.cells?_some h1
      have h4 := h3 0 hp.2
      rw [List.getElem?_eq_getElem (by omega)] at h4
      have h0 : (a.add (0 * P.cellsOf e)).add 0 = a := by simp [Addr.add]
      rw [h0] at h4
      exact cell_spot h4
     have hel2 : ∀ i, i < len → ∃ u : List V, ∃ ecs, w.cells? base (a.add (i * P.cellsOf e)) (P.cellsOf e) = some ecs ∧ RepCs w ecs u ∧ TyC P n' e u := by
      intro i hi
      obtain ⟨ecs, y, h1, h2, h2w⟩ := hcell i (by omega)
      obtain ⟨u, h3, h4⟩ := ih e ecs y hp.1 h2 h2w
      exact ⟨u, ecs, h1, h3, h4⟩
     obtain ⟨us, ul, hus⟩ := mapM_choose len hel2
     have hat : ∀ i (hi : i < len), ∃ ecs, w.cells? base (a.add (i * P.cellsOf e)) (P.cellsOf e) = some ecs ∧ RepCs w ecs us[i] ∧ TyC P n' e us[i] := fun i hi => hus i _ (List.getElem?_eq_getElem (by omega))
     have hmk : ∀ i (hi : i < len), (mkEl P e us[i]).cells = us[i] ∧ (mkEl P e us[i]).data = true := fun i hi => by
      obtain ⟨ecs, _, h2, h3⟩ := hat i hi
      exact mkEl_cells h2 (fun ha => plain_one ha h3)
     have hlu : ∀ i (hi : i < len), us[i].length = P.cellsOf e := fun i hi => by
      obtain ⟨ecs, h1, h2, _⟩ := hat i hi
      rw [h2.1]
      exact (World.cells?_some h1).2.1
     have hnth : ∀ i (hi : i < len), nth (us.map (mkEl P e)) i = mkEl P e us[i] := fun i hi => by
      rw [nth_eq_getElem (by simp; omega)]
      simp
     have hwc : ∀ i j (hi : i < len), j < P.cellsOf e → ∃ cv, w.cell? ⟨a.block, a.off + i * P.cellsOf e + j, none⟩ = some cv ∧ RepD w (F0 w) cv (nth us[i] j) ∧ (nth us[i] j).one = true := by
      intro i j hi hj
      obtain ⟨ecs, h1, h2, _⟩ := hat i hi
      obtain ⟨_, h3, h4⟩ := World.cells?_some h1
      have h5 := h4 j hj
      rw [List.getElem?_eq_getElem (by omega), hspot, addr_add, addr_add] at h5
      exact ⟨_, h5, h2.2 j _ (List.getElem?_eq_getElem (by omega))⟩
     have hend : a.off + len * P.cellsOf e ≤ F0 w a.block := by
      by_cases hl0 : len = 0
      ·subst hl0
       obtain ⟨ecs, y, h1, _, _⟩ := hcell 0 (by omega)
       obtain ⟨_, h3, h4⟩ := World.cells?_some h1
       have h5 := h4 0 hp.2
       rw [List.getElem?_eq_getElem (by omega), hspot, addr_add, addr_add] at h5
       have := F0_lt (sp := none) h5
       omega
      ·obtain ⟨cv, h1, _⟩ := hwc (len - 1) (P.cellsOf e - 1) (by omega) (by omega)
       have := F0_lt (sp := none) h1
       have e1 : len * P.cellsOf e = (len - 1) * P.cellsOf e + P.cellsOf e := by
        conv => lhs; rw [show len = (len - 1) + 1 by omega]
        rw [Nat.succ_mul]
       omega
     refine ⟨[.sl false (P.cellsOf e) (us.map (mkEl P e))], RepCs.one ?_ rfl, ?_⟩
     ·rw [hspot]
      refine .sl a.block a.off len cap (P.cellsOf e) _ (fun i j => (w.cell? ⟨a.block, a.off + i * P.cellsOf e + j, none⟩).getD undef) (by omega) (by simp [ul]) hl (by simpa [ul] using hend) (fun i hi => ?_) (fun i j hi hj => ?_) (fun i j hi hj => ?_) (fun i j hi hj => ?_)
      ·simp only [List.length_map, ul] at hi
       rw [hnth i hi, (hmk i hi).1]
       exact ⟨hlu i hi, (hmk i hi).2⟩
      ·simp only [List.length_map, ul] at hi
       obtain ⟨cv, h1, _⟩ := hwc i j hi hj
       simp [h1]
      ·simp only [List.length_map, ul] at hi
       obtain ⟨cv, _, _, h3⟩ := hwc i j hi hj
       rw [hnth i hi, (hmk i hi).1]
       exact h3
      ·simp only [List.length_map, ul] at hi
       obtain ⟨cv, h1, h2, _⟩ := hwc i j hi hj
       rw [hnth i hi, (hmk i hi).1]
       simp only [h1, Option.getD_some]
       exact h2
     ·simp only [TyC, hu]
      refine ⟨_, rfl, fun hb1 => ?_, fun x hx => ?_⟩
      ·have h5 := hwt _ (List.mem_cons_self ..)
       simp only [List.length_map] at h5
       have h6 : (elems.length + rest.length) * 1 ≤ (elems.length + rest.length) * P.bytesOf e := Nat.mul_le_mul_left _ hb1
       simp only [List.length_map, ul]
       omega
      simp only [List.mem_map] at hx
      obtain ⟨u, hu', rfl⟩ := hx
      obtain ⟨i, hi, rfl⟩ := List.getElem_of_mem hu'
      rw [ul] at hi
      rw [(hmk i hi).1]
      obtain ⟨_, _, _, h3⟩ := hat i hi
      exact ⟨rfl, h3⟩
  ·rename_i fs hu
   simp only [Bool.and_eq_true, beq_iff_eq] at hp
   obtain ⟨xs, n', hn, rfl, hl, hlen, hf⟩ := DataW.trod_struct hu h
   obtain rfl : n' = n := by omega
   obtain ⟨vs, h1, h2, _⟩ := open_fields (w := w) (R := TyC P n') cs fs.toList 0 (P.cellsOf t) hp.1 (by omega) (fun fl hfl => by
    obtain ⟨i, hi, hfi⟩ := List.getElem_of_mem hfl
    have hfi' : fs[i]? = some fl := by
     rw [← hfi]
     simp at hi ⊢
    have hx := hf i fl hfi'
    have hi' : i < xs.length := by simp at hi; omega
    rw [List.getElem?_eq_getElem hi'] at hx
    refine ih fl.type _ _ (List.all_eq_true.1 hp.2 fl hfl) hx (fun z hz => hwt z ?_)
    simp only [DataW.weights, hu]
    exact weightsEach_mem (i := i) (t := fl.type) (by simp [hfi']) (by rw [List.getElem?_map, List.getElem?_eq_getElem hi']; rfl) hz)
   refine ⟨vs, ?_, by simp only [TyC, hu]; exact h2⟩
   rw [List.drop_zero, Nat.sub_zero, ← hl, List.take_length] at h1
   exact h1
  ·rename_i m e hu
   simp only [Bool.and_eq_true, decide_eq_true_eq, beq_iff_eq] at hp
   obtain ⟨xs, n', hn, rfl, hl, hlen, hf⟩ := DataW.trod_array hu h
   obtain rfl : n' = n := by omega
   obtain ⟨vs, h1, h2⟩ := open_pieces (w := w) (R := TyC P n' e) cs (P.cellsOf e) m 0 (by rw [Nat.zero_add, hp.2]; omega) (fun i _ hi => by
    have hx := hf i (by omega)
    have hi' : i < xs.length := by omega
    rw [List.getElem?_eq_getElem hi'] at hx
    refine ih e _ _ hp.1.1 hx (fun z hz => hwt z ?_)
    simp only [DataW.weights, hu]
    exact weightsAll_mem (List.mem_map.2 ⟨_, List.getElem_mem hi', rfl⟩) hz)
   refine ⟨vs, ?_, by simp only [TyC, hu]; exact h2⟩
   rw [Nat.zero_mul, List.drop_zero, hp.2, ← hl, List.take_length] at h1
   exact h1
  ·cases hp
theorem open_arg {S : List TypeId} (hS : plainS P S = true) {t : TypeId} {v : Value} {d : DataW H} {ps : List MemPlace} {r : Reach} {b0 : Nat} (hp : S.contains t = true) (hval : Value.okWide P w r b0 t v) (h : DataW.Trod enc P w base (fun _ => true) held t v d ps) (hwt : ∀ y ∈ d.weights P t, y ≤ reachBytes) :
    ∃ u, RepD w (F0 w) v u ∧ u = mkEl P t u.cells ∧ ∃ f, TyC P f t u.cells := by
  obtain ⟨n, hn⟩ := h
  obtain ⟨vs, hr, ht⟩ := open_cells hS n t _ _ hp hn hwt
  by_cases ha : aggT P t = true
  · have hag : ∃ cs, v = .agg cs := by
      unfold aggT at ha
      unfold Value.okWide at hval
      split at ha
      · rename_i hu; rw [hu] at hval; obtain ⟨cs, h1, _⟩ := hval; exact ⟨cs, h1⟩
      · rename_i hu; rw [hu] at hval; obtain ⟨cs, h1, _⟩ := hval; exact ⟨cs, h1⟩
      · cases ha
    obtain ⟨cs, rfl⟩ := hag
    have hlen : vs.length = cs.size := by simpa [Value.cells] using hr.1
    refine ⟨.agg vs, .agg cs vs hlen.symm (fun j hj => ?_) (fun j hj => ?_), by simp [mkEl, ha, V.cells], n, ht⟩
    · exact (hr.2 j cs[j] (by simp [Value.cells, show j < cs.size by omega])).2
    · exact (hr.2 j cs[j] (by simp [Value.cells, hj])).1
  · have ha' : aggT P t = false := by simpa using ha
    have h1 := plain_one ha' ht
    match vs, h1 with
    | [u], _ =>
      have hc : v.cells = #[v] := by
        cases v with
        | agg cs =>
          exfalso
          unfold Value.okWide at hval
          unfold aggT at ha'
          split at hval
          · rename_i hu; rw [hu] at ha'; cases ha'
          · rename_i hu; rw [hu] at ha'; cases ha'
          · unfold Cell.okWide at hval
            split at hval <;> first | (rename_i hh; cases hh; done) | (unfold Cell.ok at hval; split at hval <;> first | exact hval | (rename_i hh; cases hh))
        | _ => rfl
      have hu := hr.2 0 v (by rw [hc]; rfl)
      simp only [nth] at hu
      have hone := V.one_cells hu.2
      exact ⟨u, hu.1, by rw [hone]; simp [mkEl, ha', nth], n, by rw [hone]; exact ht⟩
inductive TyArgs (P : Program) : List TypeId → List V → Prop
 | nil : TyArgs P [] []
 | cons (t : TypeId) (u : V) (ts : List TypeId) (us : List V) : u.data = true → u = mkEl P t u.cells → (∃ f, TyC P f t u.cells) → TyArgs P ts us → TyArgs P (t :: ts) (u :: us)
theorem open_args {S : List TypeId} (hS : plainS P S = true) {r : Reach} {b0 : Nat} : ∀ {ts : List TypeId} {vs : List Value} {ds : List (DataW H)} {ps : List MemPlace}, ts.all S.contains = true → (∀ (j : Nat) t v, ts[j]? = some t → vs[j]? = some v → Value.okWide P w r b0 t v) →
  DataW.TrodAll enc P w base (fun _ => true) held ts vs ds ps → (∀ y ∈ DataW.weightsEach P ts ds, y ≤ reachBytes) → ∃ us, RepL (RepV w (F0 w) []) vs us [] ∧ TyArgs P ts us
 | [], [], [], ps, _, _, _, _ => ⟨[], .nil, .nil⟩
 | t :: ts, v :: vs, d :: ds, ps, hp, hval, ⟨p, q, h1, h2, _⟩, hwt => by
  simp only [List.all_cons, Bool.and_eq_true] at hp
  simp only [DataW.weightsEach, List.mem_append] at hwt
  obtain ⟨u, a1, a2, a3⟩ := open_arg hS hp.1 (hval 0 t v rfl rfl) h1 (fun y hy => hwt y (.inl hy))
  obtain ⟨us, b1, b2⟩ := open_args hS hp.2 (fun j t v h h' => hval (j + 1) t v h h') h2 (fun y hy => hwt y (.inr hy))
  exact ⟨u :: us, .cons _ _ _ _ [] [] (.e _ _ _ (.d _ _ a1)) b1, .cons _ _ _ _ a1.data a2 a3 b2⟩
end
end Go.Am
namespace Go.Am
open Go Go.RowKit
section
variable {H : Type} {enc : TypeId × Value → H} {P : Program} {call : CallF}
theorem TyArgs.isAl {ts : List TypeId} {us : List V} (h : TyArgs P ts us) : ∀ u ∈ us, isAl u = false := by
 induction h with
 | nil => intro u hu; cases hu
 | cons t u ts us h1 _ _ _ ih =>
  intro x hx
  cases hx with
  | head => exact data_isAl h1
  | tail _ hx => exact ih x hx
theorem weightsEach_app {y : Nat} : ∀ {ts tv : List TypeId} {ds gs : List (DataW H)}, y ∈ DataW.weightsEach P ts ds → y ∈ DataW.weightsEach P (ts ++ tv) (ds ++ gs)
 | [], _, ds, _, h => by cases ds <;> cases h
 | _ :: _, _, [], _, h => by cases h
 | t :: ts, tv, d :: ds, gs, h => by
  simp only [List.cons_append, DataW.weightsEach, List.mem_append] at h ⊢
  rcases h with h | h
  ·exact .inl h
  ·exact .inr (weightsEach_app h)
theorem returnsInHanded_sized {a : Assume} {C : Checked} {os : Os} {f : FuncId} {fn : Func} {s : ChangeSpec} {conds : List PathCond} {apart fresh handsOn again : Bool}
    (own : ownKnob C.prog.godebug = none) (started : os.Started) (noInit : C.prog.inits.idxOf? f = none) (hfn : C.prog.funcs[f]? = some fn)
    (witness : ∃ (w : World) (tape : Tape) (i : Input), w.os = os ∧ (w.forCall tape i).Shaped C.prog ∧ i.vars = [] ∧ Input.okWide C.prog (w.forCall tape i) .any w.heap.size f i ∧
      s.pre6 enc C.prog fn conds apart (w.forCall tape i).memory i.args ∧ a.holds C.prog (lone (Frame.enter C.prog f i.args .normal) [] (w.forCall tape i)))
    (contract : ∀ (W : World) (base : Nat) (args : Array Value) (ds gs : List (DataW H)) (before : List MemPlace),
      (∀ (j : Nat) t v, fn.params[j]? = some t → args[j]? = some v → Value.okWide C.prog W .any base t v) →
      DataW.Whole enc C.prog fn.params.toList s.vars apart W args.toList ds gs before →
      conds.all (PathCond.test C.prog ⟨fn.params.toList, ds, s.plain.varTypes C.prog, gs⟩) = true →
      (DataW.weightsEach C.prog (fn.params.toList ++ (OpenSpec.ofChange s).bare.plain.varTypes C.prog) (ds ++ gs)).all (· ≤ reachBytes) = true →
      Calls C.prog f args W fun e W' => ∃ v, e = .returned v ∧ s.post enc C.prog fn apart fresh handsOn again W args v W') :
    ReturnsInHanded a C os f .any (s.pre6 enc C.prog fn conds apart) (s.post enc C.prog fn apart fresh handsOn again) := by
  refine returnsInHanded_of_calls own started noInit witness ?_
  intro w tape i _ _ _ hok hpre hholds
  obtain ⟨_, _, _, fn', hfn', _, _, _, _, hval⟩ := hok
  have e : fn' = fn := Option.some.inj (hfn'.symm.trans hfn)
  subst e
  obtain ⟨⟨ds, gs, before, hw, hc⟩, hz⟩ := hpre
  have hw' := DataW.Whole.of_heap (w' := w.forCall tape i) (by rfl) hw
  refine (contract (w.forCall tape i) w.heap.size i.args ds gs before hval hw' hc (hz.weights hw)).mono fun e W' ⟨v, he, hp⟩ => ?_
  subst he
  exact ChangeSpec.post_blind hp
theorem law_calls (hs : SoundCall P call) {fid : FuncId} {fn : Func} {sp : ChangeSpec} {apart fresh handsOn : Bool} {S : List TypeId} {tb : TypeId} (hS : plainS P S = true) (hlaw : ∀ us, TyArgs P fn.params.toList us → ∃ h', call fid us [] = some (.ret (.bool true) h'))
    (hpl : fn.params.toList.all S.contains = true) (hvars : sp.vars = []) (hspec : ∀ ds : List (DataW H), ds.length = fn.params.size → (sp.fn H (ds ++ [])).results = [.lit (.bool true)] ∧ (sp.fn H (ds ++ [])).args = ds ∧ (sp.fn H (ds ++ [])).vars = [])
    (hrt : fn.resultTypes = #[tb]) (htb : P.underlying tb = some .bool) {W : World} {r : Reach} {b0 : Nat} {args : Array Value} {ds gs : List (DataW H)} {before : List MemPlace}
    (hval : ∀ (j : Nat) t v, fn.params[j]? = some t → args[j]? = some v → Value.okWide P W r b0 t v) (hW : DataW.Whole enc P fn.params.toList sp.vars apart W args.toList ds gs before) {tv : List TypeId} (hwt : (DataW.weightsEach P (fn.params.toList ++ tv) (ds ++ gs)).all (· ≤ reachBytes) = true) :
    Calls P fid args W fun e W' => ∃ v, e = .returned v ∧ sp.post enc P fn apart fresh handsOn false W args v W' := by
  have hW' := hW
  obtain ⟨p, q, hA, hV, _, _, _⟩ := hW
  obtain ⟨us, hrep, hty⟩ := open_args hS hpl (fun j t v ht hv => hval j t v (by simpa using ht) (by simpa using hv)) hA (fun y hy => of_decide_eq_true (List.all_eq_true.1 hwt y (weightsEach_app hy)))
  obtain ⟨h', hcall⟩ := hlaw us hty
  obtain ⟨_, hc⟩ := hs fid us [] _ hcall
  have hgs : gs = [] := by
    rw [hvars] at hV
    cases gs with
    | nil => rfl
    | cons => exact hV.elim
  subst hgs
  have hlen : ds.length = fn.params.size := by
    have : ∀ {ts : List TypeId} {vs : List Value} {ds : List (DataW H)} {ps : List MemPlace}, DataW.TrodAll enc P W 0 (fun _ => true) true ts vs ds ps → ds.length = ts.length := by
      intro ts
      induction ts with
      | nil => intro vs ds ps h; cases vs <;> cases ds <;> first | rfl | exact h.elim
      | cons t ts ih =>
        intro vs ds ps h
        cases vs with
        | nil => exact h.elim
        | cons v vs =>
          cases ds with
          | nil => exact h.elim
          | cons d ds => obtain ⟨_, _, _, h2, _⟩ := h; simp [ih h2]
    simpa using this hA
  obtain ⟨s1, s2, s3⟩ := hspec ds hlen
  have := hc W.heap.size W (F0 W) [] [] [] [] args.toList hrep hty.isAl .nil (fun b => by simp) (fun b hb => by simp at hb) (F0_fresh W) (Nat.le_refl _)
  have e1 : args.toList.toArray = args := by simp
  rw [e1] at this
  refine this.mono fun e W' hend => ?_
  cases e with
  | returned cv =>
    obtain ⟨F', osV, osH', hE, hv, _⟩ := hend
    have hd := hv.data rfl
    cases hd
    exact ⟨_, rfl, post_law hS hW' hpl hE.below hvars s1 s2 s3 hrt htb⟩
  | panicked chain => exact hend.elim
  | outgrown => exact hend.elim
end
end Go.Am
namespace Go.Am
def finR (res : List ARes) (n0 : Nat) : Ex → St → Option Rt
 | .norm, s | .ret, s => match resL s res with
  | some [v] => some (.ret v (s.h.take n0))
  | some vs => some (.ret (.tup vs) (s.h.take n0))
  | none => none
 | .pan v, s => if v.data then some (.pan v (s.h.take n0)) else none
 | _, _ => none
def FinQ (res : List ARes) (n0 : Nat) (r : Rt) (e : Ex) (s : St) : Prop := finR res n0 e s = some r
section
variable {M : Mach} {f : FuncId} {args : List V} {h : Heap} {r : Rt} {nt : Nat} {body : AC} {res : List ARes}
theorem finish_finR (e : Ex) (s : St) : finish ⟨nt, body, res⟩ h.length (some (e, s)) = finR res h.length e s := by
 cases e <;> rfl
theorem acall_fn {af : AF} (he : M.ext f args h = none) (hf : M.ft f = some af) (haf : af = ⟨nt, body, res⟩)
    (H : Run M [.c body] .norm ⟨args ++ List.replicate (nt - args.length) .undef, h⟩ (FinQ res h.length r)) : acall M f args h = some r := by
  subst haf
  refine acall_of_run he hf ?_
  refine Run.mono (fun e s hq => ?_) H
  rw [finish_finR]
  exact hq
theorem finQ_ret1 {a : ARes} {n0 : Nat} {s : St} {v : V} {h' : Heap} : FinQ [a] n0 (.ret v h') .ret s ↔ resV s a = some v ∧ s.h.take n0 = h' := by
 unfold FinQ finR
 have e : resL s [a] = (resV s a).map (fun v => [v]) := by
  simp only [resL]
  cases resV s a <;> rfl
 simp only [e]
 cases resV s a <;> simp
theorem finQ_ret2 {a b : ARes} {l : List ARes} {n0 : Nat} {s : St} {vs : List V} {h' : Heap} : FinQ (a :: b :: l) n0 (.ret (.tup vs) h') .ret s ↔ resL s (a :: b :: l) = some vs ∧ s.h.take n0 = h' := by
 unfold FinQ finR
 simp only
 cases hx : resL s (a :: b :: l) with
 | none => simp
 | some ws =>
  have : ∃ x y zs, ws = x :: y :: zs := by
   simp only [resL] at hx
   split at hx
   ·rename_i v vs' _ h2
    split at h2
    ·simp only [Option.some.injEq] at h2 hx
     subst h2; subst hx
     exact ⟨_, _, _, rfl⟩
    ·cases h2
   ·cases hx
  obtain ⟨x, y, zs, rfl⟩ := this
  simp
theorem finQ_ret0 {n0 : Nat} {s : St} {vs : List V} {h' : Heap} : FinQ [] n0 (.ret (.tup vs) h') .ret s ↔ vs = [] ∧ s.h.take n0 = h' := by
 unfold FinQ finR resL
 simp [eq_comm]
theorem finQ_norm {n0 : Nat} {s : St} : FinQ res n0 r .norm s ↔ FinQ res n0 r .ret s := Iff.rfl
theorem finQ_pan {n0 : Nat} {s : St} {v : V} : FinQ res n0 r (.pan v) s ↔ v.data = true ∧ r = .pan v (s.h.take n0) := by
 unfold FinQ finR
 by_cases hv : v.data = true
 ·simp only [hv, if_true, Option.some.injEq, true_and]; exact eq_comm
 ·simp only [if_neg hv, hv]; simp
theorem resL_nil {s : St} : resL s [] = some [] := rfl
theorem resL_cons {s : St} {a : ARes} {l : List ARes} : resL s (a :: l) = match resV s a, resL s l with | some v, some vs => some (v :: vs) | _, _ => none := rfl
end
theorem B_length (s : List UInt8) : (B s).length = s.length := by simp [B]
theorem B_append (s t : List UInt8) : B s ++ B t = B (s ++ t) := by simp [B]
theorem B_all (s : List UInt8) : (B s).all isU8 = true := by simp [B, isU8]
theorem byteOf_u8 (b : UInt8) : byteOf (.int .u8 b.toNat) = b := by
 show UInt8.ofNat (Int.toNat (b.toNat : Int)) = b
 rw [Int.toNat_natCast]
 exact UInt8.ofNat_toNat
theorem B_map (s : List UInt8) : (B s).map byteOf = s := by
 induction s with
 | nil => rfl
 | cons b s ih =>
  show byteOf _ :: (B s).map byteOf = _
  rw [ih, byteOf_u8]
theorem B_take (s : List UInt8) (n : Nat) : (B s).take n = B (s.take n) := by simp [B, List.map_take]
theorem B_drop (s : List UInt8) (n : Nat) : (B s).drop n = B (s.drop n) := by simp [B, List.map_drop]
theorem upd_B (s : List UInt8) (i : Nat) (b : UInt8) : upd (B s) i (.int .u8 b.toNat) = B (s.set i b) := by
 induction s generalizing i with
 | nil => rfl
 | cons x s ih => cases i with
  | zero => rfl
  | succ i => show _ :: upd (B s) i _ = _; rw [ih]; rfl
attribute [go_sem] finQ_ret1 finQ_ret2 finQ_ret0 finQ_norm finQ_pan resL_nil resL_cons resV List.take_length B_length B_all B_map B_take B_drop B_append
end Go.Am
namespace Go.Am
open Go Go.RowKit
section
variable {P : Program} {f : Nat} {t e : TypeId} {cs : List V} {k : IntKind}
theorem tyc_bool (hu : P.underlying t = some .bool) (h : TyC P f t cs) : ∃ b, cs = [.bool b] := by
 cases f with
 | zero => exact h.elim
 | succ f => simp only [TyC, hu] at h; exact h
theorem tyc_int (hu : P.underlying t = some (.int k)) (h : TyC P f t cs) : ∃ n, cs = [.int k n] ∧ (Lit.int k n).wf = true := by
 cases f with
 | zero => exact h.elim
 | succ f => simp only [TyC, hu] at h; exact h
theorem tyc_string (hu : P.underlying t = some .string) (h : TyC P f t cs) : ∃ l, cs = [.str l] ∧ l.length ≤ reachBytes := by
 cases f with
 | zero => exact h.elim
 | succ f => simp only [TyC, hu] at h; exact h
theorem tyc_slice (hu : P.underlying t = some (.slice e)) (h : TyC P f t cs) : ∃ g xs, cs = [.sl false (P.cellsOf e) xs] ∧ (1 ≤ P.bytesOf e → xs.length ≤ reachBytes) ∧ g < f ∧ ∀ x ∈ xs, x = mkEl P e x.cells ∧ TyC P g e x.cells := by
 cases f with
 | zero => exact h.elim
 | succ f => simp only [TyC, hu] at h; obtain ⟨xs, h1, h2, h3⟩ := h; exact ⟨f, xs, h1, h2, by omega, h3⟩
theorem tyc_struct {fs : Array Field} (hu : P.underlying t = some (.struct fs)) (h : TyC P f t cs) : ∃ g, g < f ∧ TyFs (TyC P g) fs.toList cs := by
 cases f with
 | zero => exact h.elim
 | succ f => simp only [TyC, hu] at h; exact ⟨f, by omega, h⟩
theorem mkEl_one (ha : aggT P t = false) (v : V) : mkEl P t [v] = v := by simp [mkEl, ha, nth]
theorem mkEl_agg (ha : aggT P t = true) (cs : List V) : mkEl P t cs = .agg cs := by simp [mkEl, ha]
theorem TyFs.cons {R : TypeId → List V → Prop} {fl : Field} {fs : List Field} {cs : List V} (h : TyFs R (fl :: fs) cs) : ∃ x y, cs = x ++ y ∧ R fl.type x ∧ TyFs R fs y := h
theorem TyFs.nil {R : TypeId → List V → Prop} {cs : List V} (h : TyFs R [] cs) : cs = [] := h
theorem TyAs.cons {R : List V → Prop} {n : Nat} {cs : List V} (h : TyAs R (n + 1) cs) : ∃ x y, cs = x ++ y ∧ R x ∧ TyAs R n y := h
theorem TyAs.nil {R : List V → Prop} {cs : List V} (h : TyAs R 0 cs) : cs = [] := h
def fTypes (P : Program) (t : TypeId) : Option (List TypeId) := match P.underlying t with
 | some (.struct fs) => some (fs.toList.map (·.type))
 | _ => none
def TyTs (R : TypeId → List V → Prop) : List TypeId → List V → Prop
 | [], cs => cs = []
 | t :: ts, cs => ∃ x y, cs = x ++ y ∧ R t x ∧ TyTs R ts y
theorem TyTs.of {R : TypeId → List V → Prop} : ∀ {fs : List Field} {cs : List V}, TyFs R fs cs → TyTs R (fs.map (·.type)) cs
 | [], _, h => h
 | _ :: _, _, ⟨x, y, h1, h2, h3⟩ => ⟨x, y, h1, h2, TyTs.of h3⟩
theorem tyc_fields {ts : List TypeId} (hu : fTypes P t = some ts) (h : TyC P f t cs) : ∃ g, g < f ∧ TyTs (TyC P g) ts cs := by
 unfold fTypes at hu
 split at hu
 ·rename_i fs hs
  simp only [Option.some.injEq] at hu
  subst hu
  obtain ⟨g, h1, h2⟩ := tyc_struct hs h
  exact ⟨g, h1, TyTs.of h2⟩
 ·cases hu
theorem TyTs.cons {R : TypeId → List V → Prop} {t : TypeId} {ts : List TypeId} {cs : List V} (h : TyTs R (t :: ts) cs) : ∃ x y, cs = x ++ y ∧ R t x ∧ TyTs R ts y := h
theorem TyTs.nil {R : TypeId → List V → Prop} {cs : List V} (h : TyTs R [] cs) : cs = [] := h
theorem choose_map {α : Type} {g : α → V} {p : α → Prop} : ∀ {xs : List V}, (∀ x ∈ xs, ∃ a, x = g a ∧ p a) → ∃ l : List α, xs = l.map g ∧ ∀ a ∈ l, p a
 | [], _ => ⟨[], rfl, fun a h => by cases h⟩
 | x :: xs, h => by
  obtain ⟨a, rfl, ha⟩ := h x (by simp)
  obtain ⟨l, rfl, hl⟩ := choose_map (xs := xs) (fun y hy => h y (by simp [hy]))
  exact ⟨a :: l, rfl, fun b hb => by
   rcases List.mem_cons.1 hb with rfl | hb
   ·exact ha
   ·exact hl b hb⟩
theorem TyArgs.one {P : Program} {t : TypeId} {us : List V} (h : TyArgs P [t] us) : ∃ u, us = [u] ∧ (u = mkEl P t u.cells ∧ ∃ f, TyC P f t u.cells) := by
 cases h with
 | cons _ u _ us h1 h2 h3 h4 => cases h4; exact ⟨u, rfl, h2, h3⟩
theorem TyArgs.two {P : Program} {t1 t2 : TypeId} {us : List V} (h : TyArgs P [t1, t2] us) : ∃ u v, us = [u, v] ∧ (u = mkEl P t1 u.cells ∧ ∃ f, TyC P f t1 u.cells) ∧ (v = mkEl P t2 v.cells ∧ ∃ f, TyC P f t2 v.cells) := by
 cases h with
 | cons _ u _ us h1 h2 h3 h4 =>
  obtain ⟨v, rfl, h5⟩ := h4.one
  exact ⟨u, v, rfl, ⟨h2, h3⟩, h5⟩
end
end Go.Am
namespace Go.Am
end Go.Am
namespace Go.Am
def runIts (c : CallF) (n : Nat) : List It → Ex → St → Option (Ex × St)
 | [], e, s => some (e, s)
 | .c a :: k, .norm, s => match evC c n a s with
  | some (e, s') => runIts c n k e s'
  | none => none
 | .lp a :: k, .norm, s => match evC c n (.loop a) s with
  | some (e, s') => runIts c n k e s'
  | none => none
 | .endB _ :: k, .norm, s => runIts c n k .norm s
 | .endB id :: k, .exit id', s => if id' = id then runIts c n k .norm s else runIts c n k (.exit id') s
 | .endB _ :: k, .ret, s => runIts c n k .ret s
 | .endB _ :: k, .pan v, s => runIts c n k (.pan v) s
 | .c _ :: k, e, s => runIts c n k e s
 | .lp _ :: k, e, s => runIts c n k e s
def runFin (c : CallF) (n : Nat) (k : List It) (e : Ex) (s : St) (res : List ARes) (n0 : Nat) : Option Rt :=
 match runIts c n k e s with
 | some (e, s) => finR res n0 e s
 | none => none
end Go.Am
namespace Go.Am
open Go Go.RowKit
def AFD.af (D : AFD) : AF := ⟨D.ntmps, .skip, D.res⟩
def onlyPtr : V → V
 | .ptr i o => .ptr i o
 | _ => .undef
def gframe (D : AFD) (caps : List V) (v : V) : List V := upd (upd (caps ++ List.replicate (D.gn - caps.length) .undef) D.rd v) D.r2 v
def FinD (D : AFD) (n0 : Nat) (r : Rt) (s : St) : Prop := finish D.af n0 (some (.ret, s)) = some r
def CloseD (M : Mach) (D : AFD) (n0 : Nat) (caps : List V) (r : Rt) (v : V) (t : List V) (h : Heap) : Prop :=
 Run M [.c D.gbody] .norm ⟨gframe D caps v, h⟩ fun e s => (e = .norm ∨ e = .ret) ∧ FinD D n0 r ⟨t, s.h⟩
def PostD (M : Mach) (D : AFD) (n0 : Nat) (caps : List V) (r : Rt) : Ex → St → Prop
 | .norm, s | .ret, s => CloseD M D n0 caps r .nilIfc s.t s.h
 | .pan v, s => CloseD M D n0 caps r v (s.t.map onlyPtr) s.h
 | _, _ => False
def PreD (M : Mach) (D : AFD) (n0 : Nat) (r : Rt) : Ex → St → Prop
 | .ret, s => FinD D n0 r s
 | .norm, s => ∃ caps t', capsOf (nth s.t) D.caps = some caps ∧ put s.t (some D.d) (.fn D.g caps) = some t' ∧ nth t' D.d = .fn D.g caps ∧ Run M [.c D.post] .norm ⟨t', s.h⟩ (PostD M D n0 caps r)
 | _, _ => False
def RunsD (M : Mach) (D : AFD) (vs : List V) (h : Heap) (r : Rt) : Prop :=
 Run M (D.pres.map It.c) .norm ⟨vs ++ List.replicate (D.ntmps - vs.length) .undef, h⟩ (PreD M D h.length r)
def chkRec (o : Oper) (rd : Nat) : Bool := o.dst == some rd && o.guard.isNone && (match o.op with | .call c => (match c.callee with | .builtin b => (match b with | .recover => true | _ => false) | _ => false) | _ => false)
def chkAsg (o : Oper) (rd r2 : Nat) : Bool := o.dst == some r2 && o.guard.isNone && (match o.op with | .assign x => (match x with | .tmp t => t == rd | _ => false) | _ => false)
def chkDef (o : Oper) (d : Nat) : Bool := o.dst.isNone && o.guard.isNone && (match o.op with | .defer c => (match c.callee with | .value x => (match x with | .tmp t => t == d && c.args.toList.isEmpty | _ => false) | _ => false) | _ => false)
def chkTail (P : Program) (D : AFD) (c : Code) : Bool := match c with
 | .seq c1 c2 => (match c1 with
  | .region _ ops dr => !dr && (match ops.toList with | [o1, o2] => chkI P ops o1 ⟨some D.d, .mkf D.g D.caps, none⟩ && chkDef o2 D.d | _ => false)
  | _ => false) && chkC P D.post c2
 | _ => false
def chkPres (P : Program) (D : AFD) : List AC → Code → Bool
 | [], c => chkTail P D c
 | x :: xs, c => match c with | .seq c1 c2 => chkC P x c1 && chkPres P D xs c2 | _ => false
def chkGB (P : Program) (D : AFD) (c : Code) : Bool := match c with
 | .seq c1 c2 => (match c1 with
  | .region _ ops dr => !dr && (match ops.toList with | [o1, o2] => chkRec o1 D.rd && chkAsg o2 D.rd D.r2 | _ => false)
  | _ => false) && chkC P D.gbody c2
 | _ => false
def chkGF (P : Program) (D : AFD) : Bool := (match P.funcs[D.g]? with
 | some fn => fn.ntmps == D.gn && fn.results.toList.isEmpty && (match fn.body with | some c => chkGB P D c | none => false)
 | none => false) && enterable P D.g && decide (D.caps.length ≤ D.rd ∧ D.rd < D.gn ∧ D.caps.length ≤ D.r2 ∧ D.r2 < D.gn ∧ D.rd ≠ D.r2)
def chkFD (P : Program) (f : FuncId) (D : AFD) : Bool := (match P.funcs[f]? with
 | some fn => fn.name != "runtime.NumGoroutine" && fn.ntmps == D.ntmps && chkRes P fn.results.toList D.res && nodupB (resTmps D.res) && (match fn.body with | some c => chkPres P D D.pres c | none => false)
 | none => false) && chkGF P D
section
variable {P : Program} {M : Mach} {D : AFD} {E : Env} {a : Act} {w : World} {s : St}
theorem run_cs_ret {e : Ex} (he : e ≠ .norm) {Q : Ex → St → Prop} : ∀ (xs : List AC), Run M (xs.map It.c) e s Q → Q e s
 | [], h => h
 | x :: xs, h => by
  refine run_cs_ret he xs ?_
  cases e with
  | norm => exact (he rfl).elim
  | exit id => exact h
  | ret => exact h
  | pan v => exact h
inductive Recov : FrameMode → Value → FrameMode → Prop
 | idle : Recov .returning .nilIface .returning
 | pan (cv : Value) : Recov (.panicking [{ v := cv, recovered := false }]) cv (.panicking [{ v := cv, recovered := true }])
theorem Recov.ne {u u' : FrameMode} {cv : Value} (h : Recov u cv u') : u ≠ .run := by cases h <;> exact fun h => by cases h
theorem exec_rec {o : Oper} {rd : Nat} (h : chkRec o rd = true) : o.dst = some rd ∧ o.guard = none ∧ ∀ (a : Act) (w : World), (execOp a.eval o).run P w = .ok .recover w := by
 simp only [chkRec, Bool.and_eq_true, beq_iff_eq, Option.isNone_iff_eq_none] at h
 obtain ⟨⟨h1, h2⟩, h3⟩ := h
 refine ⟨h1, h2, fun a w => ?_⟩
 split at h3
 ·rename_i c hc
  split at h3
  ·rename_i b hb
   split at h3
   ·unfold execOp
    simp only [hc]
    unfold resolve
    simp only [hb]
    rfl
   ·cases h3
  ·cases h3
 ·cases h3
theorem exec_asg {o : Oper} {rd r2 : Nat} (h : chkAsg o rd r2 = true) : o.dst = some r2 ∧ o.guard = none ∧ ∀ (a : Act) (w : World), (execOp a.eval o).run P w = .ok (.value (a.eval (.tmp rd))) w := by
 simp only [chkAsg, Bool.and_eq_true, beq_iff_eq, Option.isNone_iff_eq_none] at h
 obtain ⟨⟨h1, h2⟩, h3⟩ := h
 refine ⟨h1, h2, fun a w => ?_⟩
 split at h3
 ·rename_i x hx
  split at h3
  ·rename_i t
   obtain rfl := beq_iff_eq.1 h3
   unfold execOp
   simp only [hx]
   rfl
  ·cases h3
 ·cases h3
theorem exec_def {o : Oper} {d : Nat} (h : chkDef o d = true) : o.dst = none ∧ o.guard = none ∧ ∀ (a : Act) (w : World) (g : FuncId) (cvs : Array Value), a.eval (.tmp d) = .func (.func g) #[] cvs → (execOp a.eval o).run P w = .ok (.defer ⟨.fn (.func g) cvs, #[]⟩) w := by
 simp only [chkDef, Bool.and_eq_true, Option.isNone_iff_eq_none] at h
 obtain ⟨⟨h1, h2⟩, h3⟩ := h
 refine ⟨h1, h2, fun a w g cvs hcv => ?_⟩
 split at h3
 ·rename_i c hc
  split at h3
  ·rename_i x hx
   split at h3
   ·rename_i t
    simp only [Bool.and_eq_true, beq_iff_eq, List.isEmpty_iff] at h3
    obtain ⟨rfl, h4⟩ := h3
    have h5 : c.args = #[] := by simpa using h4
    unfold execOp
    simp only [hc]
    unfold resolve
    simp only [hx, h5, hcv]
    simp [Deferred.ofValue]
   ·cases h3
  ·cases h3
 ·cases h3
theorem wanted_g {ops : Array Oper} {o : Oper} (h : o.guard = none) (t : Array Value) : Region.wanted o (yielded ops t) = true := by simp [Region.wanted, h]
theorem closure_ok (hs : ∀ n, SoundCall P (callN M n)) (hD : chkGF P D = true) {u u' : FrameMode} {cv : Value} (hu : Recov u cv u') {args : Array Value} {t : List V} {h : Heap} {Q : Ex → St → Prop}
    (ha : args.size = D.caps.length)
    (hst : Stt E { tmps := ((args ++ Array.replicate (D.gn - args.size) undef).setIfInBounds D.rd cv).setIfInBounds D.r2 cv, defers := [] } w ⟨t, h⟩)
    (hrun : Run M [.c D.gbody] .norm ⟨t, h⟩ Q) (hQ : ∀ e s, Q e s → e = .norm ∨ e = .ret) {R : Ending → FrameMode → World → Prop}
    (hR : ∀ e s a' w', Q e s → Stt E a' w' s → R (.returned (.tuple #[])) u' w') : CallsD P D.g args u w R := by
  unfold chkGF at hD
  simp only [Bool.and_eq_true, decide_eq_true_eq] at hD
  obtain ⟨⟨hD, hent⟩, hrd1, hrd, hr21, hr2, hne⟩ := hD
  split at hD
  · rename_i fn hfn
    simp only [Bool.and_eq_true, beq_iff_eq, List.isEmpty_iff] at hD
    obtain ⟨⟨hnt, hres⟩, hbody⟩ := hD
    split at hbody
    · rename_i c hb
      unfold chkGB at hbody
      split at hbody
      · rename_i c1 c2
        simp only [Bool.and_eq_true] at hbody
        obtain ⟨hreg, hc2⟩ := hbody
        split at hreg
        · rename_i id ops dr
          simp only [Bool.and_eq_true, Bool.not_eq_true'] at hreg
          obtain ⟨hdr, hreg⟩ := hreg
          subst hdr
          split at hreg
          · rename_i o1 o2 hops
            simp only [Bool.and_eq_true] at hreg
            obtain ⟨a1, a2, a3⟩ := exec_rec (P := P) hreg.1
            obtain ⟨b1, b2, b3⟩ := exec_asg (P := P) hreg.2
            have hops' : ops = #[o1, o2] := by simpa using congrArg List.toArray hops
            subst hops'
            refine callsD_of_wpS hfn hb fun c₀ cs hcm => ?_
            apply wpS_seq
            apply wpS_region
            obtain ⟨e3, s3, ⟨n, hn⟩, hq⟩ := hrun
            have hq : Q e3 s3 := by
              cases e3 with
              | norm => exact hq
              | exit id => exact hq
              | ret => exact hq
              | pan v => exact hq
            have hres0 : ∀ (a' : Act) (w' : World), (results fn a'.tmps).run P w' = .ok (.tuple #[]) w' := fun a' w' => by
              have := results_run (P := P) (fn := fn) (tmps := a'.tmps) (w := w') (cvs := []) (by rw [hres]; simp)
              simpa using this
            -- after what is recovered
            have key : c2.wpS P (bodyPostS P fn c₀ cs R) { tmps := ((args ++ Array.replicate (D.gn - args.size) undef).setIfInBounds D.rd cv).setIfInBounds D.r2 cv, defers := [] } ({ c₀ with mode := u' } :: cs) w := by
              refine wpS_of_wp (wp_mono (code_ok (hs n) n D.gbody c2 _ w ⟨t, h⟩ e3 s3 hc2 hst rfl hn) (fun x a' w' hrel => ?_))
              rcases hQ e3 s3 hq with rfl | rfl
              · cases x with
                | normal => exact ⟨hrel.2, u', rfl, _, hres0 _ _, hR _ _ _ _ hq hrel.1⟩
                | _ => exact hrel.elim
              · cases x with
                | ret => exact ⟨hrel.2, u', rfl, _, hres0 _ _, hR _ _ _ _ hq hrel.1⟩
                | _ => exact hrel.elim
            have hput1 : ∀ (a : Act) (v : Value), a.put o1.dst v = { a with tmps := a.tmps.setIfInBounds D.rd v } := fun a v => by rw [a1]; rfl
            have hput2 : ∀ (a : Act) (v : Value), a.put o2.dst v = { a with tmps := a.tmps.setIfInBounds D.r2 v } := fun a v => by rw [b1]; rfl
            have hev : ∀ (tm : Array Value), tm.size = D.gn → Act.eval { tmps := tm.setIfInBounds D.rd cv, defers := [] } (.tmp D.rd) = cv := fun tm htm => by
              simp [Act.eval, Array.getD_eq_getD_getElem?, htm, hrd]
            have hsz : (args ++ Array.replicate (fn.ntmps - args.size) undef).size = D.gn := by simp; omega
            have hr0 : List.range (#[o1, o2] : Array Oper).size = [0, 1] := rfl
            rw [hr0]
            have g0 : (#[o1, o2] : Array Oper)[0]? = some o1 := rfl
            have g1 : (#[o1, o2] : Array Oper)[1]? = some o2 := rfl
            have step2 : ∀ cs', cs' = { c₀ with mode := u' } :: cs → wpOpsS P #[o1, o2] (Exit.thenS (c2.wpS P (bodyPostS P fn c₀ cs R)) (bodyPostS P fn c₀ cs R)) [1] { tmps := (args ++ Array.replicate (fn.ntmps - args.size) undef).setIfInBounds D.rd cv, defers := [] } cs' w := by
              intro cs' hcs'
              simp only [wpOpsS, g1, wanted_g b2, if_true, b3, Oper.upon]
              rw [hput2, hev _ hsz, hnt, hcs']
              exact key
            unfold wpOpsS
            simp only [g0, wanted_g a2, if_true, a3]
            cases hu with
            | idle =>
              have hcs : recoverD (c₀ :: cs) = none := by simp [recoverD, hcm]
              simp only [hcs]
              rw [hput1]
              refine step2 _ ?_
              cases c₀
              simp only at hcm
              rw [hcm]
            | pan cv =>
              have hcs : recoverD (c₀ :: cs) = some (cv, { c₀ with mode := .panicking [{ v := cv, recovered := true }] } :: cs) := by simp [recoverD, hcm]
              simp only [hcs]
              rw [hput1]
              exact step2 _ rfl
          · cases hreg
        · cases hreg
      · cases hbody
    · cases hbody
  · cases hD
end
end Go.Am
namespace Go.Am
open Go Go.RowKit
section
variable {P : Program} {M : Mach} {D : AFD} {E : Env} {a : Act} {w : World} {s : St} {F : Nat → Nat} {ρ : List Nat}
theorem RepL.of_nth {R : Value → V → List Nat → Prop} : ∀ {cvs : List Value} {vs : List V}, cvs.length = vs.length → (∀ j, j < vs.length → ∃ cv, cvs[j]? = some cv ∧ R cv (nth vs j) []) → RepL R cvs vs []
 | [], [], _, _ => .nil
 | cv :: cvs, v :: vs, hl, h => by
  obtain ⟨cv', h1, h2⟩ := h 0 (by simp)
  simp only [List.getElem?_cons_zero, Option.some.injEq] at h1
  subst h1
  exact .cons _ _ _ _ [] [] h2 (RepL.of_nth (by simpa using hl) fun j hj => by
   obtain ⟨c, k1, k2⟩ := h (j + 1) (by simpa using hj)
   exact ⟨c, by simpa using k1, k2⟩)
 | [], _ :: _, hl, _ => by simp at hl
 | _ :: _, [], hl, _ => by simp at hl
def CapsOK (args : Array Value) (caps : List V) (ρ : List Nat) : Prop := args.size = caps.length ∧ ∀ j, j < caps.length → ∃ id o b, nth caps j = .ptr id o ∧ ρ[id]? = some b ∧ args[j]? = some (.pointer (some ⟨b, o, none⟩))
theorem CapsOK.mono {args : Array Value} {caps : List V} {ρ ρ' : List Nat} (h : CapsOK args caps ρ) (hρ : ∀ (id b : Nat), ρ[id]? = some b → ρ'[id]? = some b) : CapsOK args caps ρ' :=
 ⟨h.1, fun j hj => by obtain ⟨id, o, b, h1, h2, h3⟩ := h.2 j hj; exact ⟨id, o, b, h1, hρ _ _ h2, h3⟩⟩
theorem nth_append_undef (l : List V) (k j : Nat) : nth (l ++ List.replicate k .undef) j = nth l j := by
 induction l generalizing j with
 | nil =>
  simp only [List.nil_append]
  induction k generalizing j with
  | zero => rfl
  | succ k ih => cases j with
   | zero => rfl
   | succ j => simp only [List.replicate_succ, nth]; rw [ih]; rfl
 | cons x l ih => cases j with
  | zero => rfl
  | succ j => exact ih j
def gtmps (D : AFD) (args : Array Value) (cv : Value) : Array Value := ((args ++ Array.replicate (D.gn - args.size) undef).setIfInBounds D.rd cv).setIfInBounds D.r2 cv
theorem gframe_length {caps : List V} {v : V} (h : caps.length ≤ D.gn) : (gframe D caps v).length = D.gn := by
 unfold gframe
 rw [upd_length, upd_length]
 simp; omega
theorem rep_gframe {args : Array Value} {caps : List V} {cv : Value} {v : V} (hc : CapsOK args caps ρ) (hv : RepD w F cv v) (h1 : caps.length ≤ D.rd) (h2 : D.rd < D.gn) (h3 : caps.length ≤ D.r2) (h4 : D.r2 < D.gn) :
    RepL (RepV w F ρ) (gtmps D args cv).toList (gframe D caps v) [] := by
  have hl := gframe_length (D := D) (caps := caps) (v := v) (by omega)
  refine RepL.of_nth (by rw [hl]; simp [gtmps, hc.1]; omega) fun j hj => ?_
  rw [hl] at hj
  have hsz : (args ++ Array.replicate (D.gn - args.size) undef).size = D.gn := by simp [hc.1]; omega
  by_cases hj2 : j = D.r2
  · subst hj2
    refine ⟨cv, ?_, ?_⟩
    · simp only [gtmps, Array.getElem?_toList]
      rw [Array.getElem?_setIfInBounds, if_pos rfl, if_pos (by rw [Array.size_setIfInBounds]; omega)]
    unfold gframe
    rw [nth_upd_self (by rw [upd_length]; simp; omega)]
    exact .e _ _ _ (.d _ _ hv)
  · by_cases hj1 : j = D.rd
    · subst hj1
      refine ⟨cv, ?_, ?_⟩
      · simp only [gtmps, Array.getElem?_toList]
        rw [Array.getElem?_setIfInBounds, if_neg (fun h => hj2 h.symm), Array.getElem?_setIfInBounds, if_pos rfl, if_pos (by omega)]
      · unfold gframe
        rw [nth_upd_ne (fun h => hj2 h.symm), nth_upd_self (by simp; omega)]
        exact .e _ _ _ (.d _ _ hv)
    · have e1 : (gtmps D args cv).toList[j]? = (args ++ Array.replicate (D.gn - args.size) undef)[j]? := by
        simp only [gtmps, Array.getElem?_toList]
        rw [Array.getElem?_setIfInBounds, if_neg (fun h => hj2 h.symm), Array.getElem?_setIfInBounds, if_neg (fun h => hj1 h.symm)]
      have e2 : nth (gframe D caps v) j = nth caps j := by
        unfold gframe
        rw [nth_upd_ne (fun h => hj2 h.symm), nth_upd_ne (fun h => hj1 h.symm), nth_append_undef]
      rw [e1, e2]
      by_cases hjc : j < caps.length
      · obtain ⟨id, o, b, k1, k2, k3⟩ := hc.2 j hjc
        have hja : j < args.size := by rw [hc.1]; exact hjc
        refine ⟨_, by rw [Array.getElem?_append_left hja]; exact k3, ?_⟩
        rw [k1]
        exact .ptr id o b k2
      · have hja : args.size ≤ j := by rw [hc.1]; omega
        refine ⟨undef, ?_, ?_⟩
        · rw [Array.getElem?_append_right hja, Array.getElem?_replicate, if_pos (by rw [hc.1]; omega)]
        · rw [nth_out (by omega)]
          exact .e _ _ _ (.undef _)
theorem isAl_gframe {caps : List V} {v : V} (hc : ∀ j, j < caps.length → isAl (nth caps j) = false) (hv : isAl v = false) (h2 : D.rd < D.gn) (h4 : D.r2 < D.gn) (hl : caps.length ≤ D.gn) (e : Nat) : isAl (nth (gframe D caps v) e) = false := by
 unfold gframe
 have hlen : (caps ++ List.replicate (D.gn - caps.length) V.undef).length = D.gn := by simp; omega
 by_cases he2 : D.r2 = e
 ·subst he2; rw [nth_upd_self (by rw [upd_length, hlen]; exact h4)]; exact hv
 ·rw [nth_upd_ne he2]
  by_cases he1 : D.rd = e
  ·subst he1; rw [nth_upd_self (by rw [hlen]; exact h2)]; exact hv
  ·rw [nth_upd_ne he1, nth_append_undef]
   by_cases hj : e < caps.length
   ·exact hc e hj
   ·rw [nth_out (by omega)]; rfl
theorem aliasOK_of {cvs : List Value} {t : List V} (h : ∀ e, isAl (nth t e) = false) : AliasOK cvs t := fun e cv _ => aliasV_of (h e)
theorem caps_al {args : Array Value} {caps : List V} (hc : CapsOK args caps ρ) : ∀ j, j < caps.length → isAl (nth caps j) = false := fun j hj => by
 obtain ⟨id, o, b, h1, _⟩ := hc.2 j hj
 rw [h1]; rfl
theorem nth_onlyPtr (t : List V) (j : Nat) : nth (t.map onlyPtr) j = onlyPtr (nth t j) := by
 induction t generalizing j with
 | nil => rfl
 | cons x t ih => cases j with
  | zero => rfl
  | succ j => exact ih j
theorem onlyPtr_al (v : V) : isAl (onlyPtr v) = false := by cases v <;> rfl
theorem rep_ptrs {cvs : List Value} {t : List V} (h : PtrsOK cvs t ρ) : RepL (RepV w F ρ) cvs (t.map onlyPtr) [] := by
 refine RepL.of_nth (by simpa using h.1) fun j hj => ?_
 simp only [List.length_map] at hj
 rw [nth_onlyPtr]
 cases hx : nth t j with
 | ptr id off =>
  obtain ⟨b, h1, h2⟩ := h.2 j id off hx
  exact ⟨_, h2, .ptr id off b h1⟩
 | _ => exact ⟨cvs[j]'(by rw [h.1]; exact hj), List.getElem?_eq_getElem (by rw [h.1]; exact hj), .e _ _ _ (.undef _)⟩
theorem entry_norm (h : Stt E a w s) (hg : chkGF P D = true) {args : Array Value} {caps : List V} (hc : CapsOK args caps E.ρ) (hcl : caps.length = D.caps.length) :
    ∃ E2 : Env, Stt E2 { tmps := gtmps D args .nilIface, defers := [] } w ⟨gframe D caps .nilIfc, s.h⟩ ∧
      ∀ a3 w3 s3, Stt E2 a3 w3 s3 → Stt E a w3 ⟨s.t, s3.h⟩ := by
  unfold chkGF at hg
  simp only [Bool.and_eq_true, decide_eq_true_eq] at hg
  obtain ⟨_, hrd1, hrd, hr21, hr2, _⟩ := hg
  obtain ⟨F, ρ, osT, osH, e0, r0, hsim, n0⟩ := h
  have hc := hc.mono r0
  refine ⟨⟨E.B, w, F, ρ, osT ++ E.rest, osH⟩, ⟨F, ρ, [], osH, Ext.refl hsim.fresh, fun _ _ x => x, ⟨?_, hsim.heap, ?_, ?_, ?_, hsim.fresh, hsim.base⟩, fun b hb => .inl (by simpa using hb)⟩, ?_⟩
  · exact rep_gframe hc .nilIfc (by omega) hrd (by omega) hr2
  · exact aliasOK_of (isAl_gframe (caps_al hc) rfl hrd hr2 (by omega))
  · intro b
    have := hsim.once b
    simp only [List.nil_append, List.count_append] at this ⊢
    omega
  · intro b hb
    exact hsim.inb b (by simp only [List.nil_append, List.mem_append] at hb ⊢; rcases hb with hb | hb | hb <;> simp [hb])
  · rintro a3 w3 s3 ⟨F3, ρ3, osT3, osH3, e3, r3, hsim3, n3⟩
    obtain ⟨g1, g2⟩ := Stt.next (E := E) e0 r0 n0 (e3.weaken (T' := fun b => b ∈ osT ++ osH) fun b _ hb => List.mem_append_right _ hb)
    have hdis : ∀ b ∈ osT, ¬ b ∈ osH := fun b hb hb2 => by
      have h1 := hsim.once b
      have h2 := List.count_pos_iff.2 hb
      have h3 := List.count_pos_iff.2 hb2
      simp only [List.count_append] at h1
      omega
    refine ⟨F3, ρ3, osT, osH3, g1, fun id b hh => r3 _ _ (r0 _ _ hh), ⟨?_, hsim3.heap, hsim.alias, ?_, ?_, hsim3.fresh, hsim3.base⟩, ?_⟩
    · exact hsim.tmps.ext e3 r3 (fun b hb => (hsim.inb b (by simp [hb])).2.1) hdis
    · intro b
      have := hsim3.once b
      simp only [List.count_append] at this ⊢
      omega
    · intro b hb
      exact hsim3.inb b (by simp only [List.mem_append] at hb ⊢; rcases hb with (hb | hb) | hb <;> simp [hb])
    · intro b hb
      simp only [List.mem_append] at hb
      rcases hb with hb | hb
      · exact n0 b (by simp [hb])
      · rcases n3 b (by simp [hb]) with h4 | h4
        · exact n0 b (by simp [h4])
        · exact .inr (Nat.le_trans e0.size h4)
theorem entry_pan {v : V} {cv : Value} (h : PanS E a s v cv w) (hg : chkGF P D = true) {args : Array Value} {caps : List V} (hc : CapsOK args caps E.ρ) (hcl : caps.length = D.caps.length)
    (hE : (∀ b ∈ E.rest, E.B ≤ b ∧ b < E.w.heap.size ∧ E.F b = 0) ∧ (∀ b ∈ E.os, E.B ≤ b) ∧ E.B ≤ E.w.heap.size ∧ ∀ b ∈ E.rest, b ∉ E.os) :
    ∃ E2 : Env, Stt E2 { tmps := gtmps D args cv, defers := [] } w ⟨gframe D caps v, s.h⟩ ∧
      ∀ a3 w3 s3, Stt E2 a3 w3 s3 → Stt E a w3 ⟨s.t.map onlyPtr, s3.h⟩ := by
  unfold chkGF at hg
  simp only [Bool.and_eq_true, decide_eq_true_eq] at hg
  obtain ⟨_, hrd1, hrd, hr21, hr2, _⟩ := hg
  obtain ⟨F', ρ', osH', e1, r1, p1, p2, p3, p4, p5⟩ := h
  have hc := hc.mono r1
  obtain ⟨hE1, hE2, hE3, hE4⟩ := hE
  refine ⟨⟨E.B, E.w, E.F, ρ', E.rest, E.os⟩, ⟨F', ρ', [], osH', e1, fun _ _ x => x, ⟨?_, p2, ?_, ?_, ?_, e1.fresh, Nat.le_trans hE3 e1.size⟩, fun b hb => (p4 b (by simpa using hb)).1⟩, ?_⟩
  · exact rep_gframe hc p1 (by omega) hrd (by omega) hr2
  · exact aliasOK_of (isAl_gframe (caps_al hc) (data_isAl p1.data) hrd hr2 (by omega))
  · intro b; simpa using p3 b
  · intro b hb
    simp only [List.nil_append, List.mem_append] at hb
    rcases hb with hb | hb
    · obtain ⟨q1, q2, q3⟩ := p4 b hb
      refine ⟨?_, q2, q3⟩
      rcases q1 with q1 | q1
      · exact hE2 b q1
      · exact Nat.le_trans hE3 q1
    · obtain ⟨q1, q2, q3⟩ := hE1 b hb
      have := e1.keep b (hE4 b hb) q2
      exact ⟨q1, Nat.lt_of_lt_of_le q2 e1.size, this.2.trans q3⟩
  · rintro a3 w3 s3 ⟨F3, ρ3, osT3, osH3, e3, r3, hsim3, n3⟩
    refine ⟨F3, ρ3, [], osH3, e3, fun id b hh => r3 _ _ (r1 _ _ hh), ⟨rep_ptrs ⟨p5.1, fun i id off hi => ?_⟩, hsim3.heap, aliasOK_of (fun e => by rw [nth_onlyPtr]; exact onlyPtr_al _), ?_, ?_, hsim3.fresh, hsim3.base⟩, ?_⟩
    · obtain ⟨b, k1, k2⟩ := p5.2 i id off hi
      exact ⟨b, r3 _ _ k1, k2⟩
    · intro b
      have := hsim3.once b
      simp only [List.nil_append, List.count_append] at this ⊢
      omega
    · intro b hb
      exact hsim3.inb b (by simp only [List.nil_append, List.mem_append] at hb ⊢; rcases hb with hb | hb <;> simp [hb])
    · intro b hb
      exact n3 b (by simp only [List.nil_append, List.mem_append] at hb ⊢; simp [hb])
end
end Go.Am
namespace Go.Am
open Go Go.RowKit
section
variable {P : Program} {M : Mach} {D : AFD} {E E0 : Env} {a : Act} {w : World} {s : St}
theorem fin_ok {fn : Func} {h0 : Heap} {r : Rt} (hl : E.ρ.length = h0.length) (hres : chkRes P fn.results.toList D.res = true) (hnd : nodupB (resTmps D.res) = true) (hst : Stt E a w s) (hf : FinD D h0.length r s) :
    ∃ v, (results fn a.tmps).run P w = .ok v w ∧ CallEnd E.B E.w E.F E.ρ E.rest E.os r (.returned v) w := by
  have hst' : Stt E { a with defers := [] } w s := hst
  obtain ⟨_, v, h1, h2⟩ := finish_ok (P := P) (fn := fn) (af := D.af) (e := .ret) (x := .ret) (a := { a with defers := [] }) hl hres hnd hf ⟨hst', rfl⟩
  exact ⟨v, h1, h2⟩
theorem Stt.rebase (h : Stt E a w s) : ∃ E' : Env, Stt E' a w s ∧ (∃ osT osH, Sim E'.B a.tmps.toList w E'.F E'.ρ s E'.rest osT osH) ∧ (∀ a' w' s', Stt E' a' w' s' → Stt E a' w' s') ∧
  ((∀ b ∈ E'.rest, E'.B ≤ b ∧ b < E'.w.heap.size ∧ E'.F b = 0) ∧ (∀ b ∈ E'.os, E'.B ≤ b) ∧ E'.B ≤ E'.w.heap.size ∧ ∀ b ∈ E'.rest, b ∉ E'.os) := by
 obtain ⟨F, ρ, osT, osH, e0, r0, hsim, n0⟩ := h
 refine ⟨⟨E.B, w, F, ρ, E.rest, osT ++ osH⟩, ⟨F, ρ, osT, osH, Ext.refl hsim.fresh, fun _ _ x => x, hsim, fun b hb => .inl hb⟩, ⟨osT, osH, hsim⟩, ?_,
  fun b hb => hsim.inb b (by simp only [List.mem_append]; exact .inr hb), fun b hb => (hsim.inb b (by simp only [List.mem_append] at hb ⊢; exact .inl hb)).1, hsim.base, fun b hb hb2 => ?_⟩
 ·rintro a' w' s' ⟨F', ρ', osT', osH', e1, r1, hsim', n1⟩
  obtain ⟨g1, g2⟩ := Stt.next e0 r0 n0 e1
  exact ⟨F', ρ', osT', osH', g1, fun id b hh => r1 _ _ (r0 _ _ hh), hsim', fun b hb => g2 b (n1 b hb)⟩
 ·have h1 := hsim.once b
  have h2 : 0 < List.count b E.rest := List.count_pos_iff.2 hb
  have h3 : 0 < List.count b (osT ++ osH) := List.count_pos_iff.2 hb2
  simp only [List.count_append] at h1 h3
  omega
theorem chkGF_ent (h : chkGF P D = true) : enterable P D.g = true := by
 unfold chkGF at h
 simp only [Bool.and_eq_true] at h
 exact h.1.2
theorem invoke_g (h : chkGF P D = true) (args : Array Value) : (invoke (.fn (.func D.g) args) #[]).run P w = .ok (.enter D.g args) w := by
 have := run_callFunc (P := P) (args := args) (w := w) (chkGF_ent h)
 simpa [invoke] using this
theorem leave_norm (hs : ∀ n, SoundCall P (callN M n)) (hg : chkGF P D = true) {fn : Func} {h0 : Heap} {r : Rt} (hl : E0.ρ.length = h0.length) (hres : chkRes P fn.results.toList D.res = true) (hnd : nodupB (resTmps D.res) = true)
    (hback : ∀ a' w' s', Stt E a' w' s' → Stt E0 a' w' s') (h : Stt E a w s) {args : Array Value} {caps : List V} (hc : CapsOK args caps E.ρ) (hcl : caps.length = D.caps.length) (hrun : CloseD M D h0.length caps r .nilIfc s.t s.h) :
    Leaves P fn a.tmps (fun e w' => CallEnd E0.B E0.w E0.F E0.ρ E0.rest E0.os r e w') [⟨.fn (.func D.g) args, #[]⟩] .returning w := by
  obtain ⟨E2, h2, hb2⟩ := entry_norm h hg hc hcl
  refine leaves_cons (f := D.g) (args := args) (fun h => by cases h) (invoke_g hg args) ?_
  refine closure_ok hs hg .idle (args := args) (by rw [hc.1, hcl]) h2 hrun (fun e s h => h.1) (fun e s3 a3 w3 hq hst => ?_)
  obtain ⟨v, q1, q2⟩ := fin_ok (P := P) (fn := fn) (D := D) hl hres hnd (hback _ _ _ (hb2 _ _ _ hst)) hq.2
  exact ⟨v, q1, q2⟩
theorem leave_pan (hs : ∀ n, SoundCall P (callN M n)) (hg : chkGF P D = true) {fn : Func} {h0 : Heap} {r : Rt} (hl : E0.ρ.length = h0.length) (hres : chkRes P fn.results.toList D.res = true) (hnd : nodupB (resTmps D.res) = true)
    (hback : ∀ a' w' s', Stt E a' w' s' → Stt E0 a' w' s') {v : V} {cv : Value} (h : PanS E a s v cv w) (hE : (∀ b ∈ E.rest, E.B ≤ b ∧ b < E.w.heap.size ∧ E.F b = 0) ∧ (∀ b ∈ E.os, E.B ≤ b) ∧ E.B ≤ E.w.heap.size ∧ ∀ b ∈ E.rest, b ∉ E.os)
    {args : Array Value} {caps : List V} (hc : CapsOK args caps E.ρ) (hcl : caps.length = D.caps.length) (hrun : CloseD M D h0.length caps r v (s.t.map onlyPtr) s.h) :
    Leaves P fn a.tmps (fun e w' => CallEnd E0.B E0.w E0.F E0.ρ E0.rest E0.os r e w') [⟨.fn (.func D.g) args, #[]⟩] (.panicking [{ v := cv, recovered := false }]) w := by
  obtain ⟨E2, h2, hb2⟩ := entry_pan h hg hc hcl hE
  refine leaves_cons (f := D.g) (args := args) (fun h => by cases h) (invoke_g hg args) ?_
  refine closure_ok hs hg (.pan cv) (args := args) (by rw [hc.1, hcl]) h2 hrun (fun e s h => h.1) (fun e s3 a3 w3 hq hst => ?_)
  obtain ⟨v, q1, q2⟩ := fin_ok (P := P) (fn := fn) (D := D) hl hres hnd (hback _ _ _ (hb2 _ _ _ hst)) hq.2
  exact ⟨v, q1, q2⟩
theorem capsOf_length {ρ : Nat → V} : ∀ {l : List Src} {vs : List V}, capsOf ρ l = some vs → vs.length = l.length
 | [], vs, h => by simp only [capsOf, Option.some.injEq] at h; subst h; rfl
 | x :: l, vs, h => by
  simp only [capsOf] at h
  split at h
  ·rename_i id o vs' _ h2
   simp only [Option.some.injEq] at h
   subst h
   simp [capsOf_length h2]
  ·cases h
theorem tail_ok (hs : ∀ n, SoundCall P (callN M n)) (hg : chkGF P D = true) {fn : Func} {h0 : Heap} {r : Rt} (hl : E.ρ.length = h0.length) (hres : chkRes P fn.results.toList D.res = true) (hnd : nodupB (resTmps D.res) = true)
    {c : Code} (hc : chkTail P D c = true) (h : Stt E a w s) (hd : a.defers = []) (hq : PreD M D h0.length r .norm s) :
    c.wp P (bodyPostD P fn (fun e w' => CallEnd E.B E.w E.F E.ρ E.rest E.os r e w')) a w := by
  obtain ⟨caps, t', hcaps, hput, hnth, e, s', ⟨n, hev⟩, hpost⟩ := hq
  have hpost : PostD M D h0.length caps r e s' := hpost
  have hcl := capsOf_length hcaps
  unfold chkTail at hc
  split at hc
  · rename_i c1 c2
    simp only [Bool.and_eq_true] at hc
    obtain ⟨hreg, hc2⟩ := hc
    split at hreg
    · rename_i id ops dr
      simp only [Bool.and_eq_true, Bool.not_eq_true'] at hreg
      obtain ⟨hdr, hreg⟩ := hreg
      subst hdr
      split at hreg
      · rename_i o1 o2 hops
        simp only [Bool.and_eq_true] at hreg
        obtain ⟨hi1, hdef⟩ := hreg
        obtain ⟨b1, b2, b3⟩ := exec_def (P := P) hdef
        apply wp_seq
        refine wp_region_list ?_
        rw [hops]
        have hi : stepI (callN M n) ⟨some D.d, .mkf D.g D.caps, none⟩ s = some (.norm, ⟨t', s.h⟩) := by simp [stepI, opRes, hcaps, stepR, ups, hput]
        generalize hQ : Exit.then (c2.wp P (bodyPostD P fn (fun e w' => CallEnd E.B E.w E.F E.ρ E.rest E.os r e w'))) (bodyPostD P fn (fun e w' => CallEnd E.B E.w E.F E.ρ E.rest E.os r e w')) = Q
        have this := stt_ai (Q := Q) (next := wpList P ops Q [o2]) (hs n) h hd hi1 hi (fun _ a1 w1 hst hdd => by
            simp only at hst
            simp only [wpList]
            rw [wanted_g b2, if_pos rfl]
            refine .inl ?_
            obtain ⟨E', hst', ⟨osT, osH, hsim⟩, hback, hE⟩ := hst.rebase
            obtain ⟨cv, od, g1, g2, _⟩ := hsim.tmps.get (nth_lt (d := D.d) (by rw [hnth]; exact fun hh => by cases hh))
            rw [hnth] at g2
            cases g2 with
            | e _ _ _ g2 => cases g2 with | d _ _ g2 => cases g2
            | fn _ cvs _ hsz hall =>
              have hcaps' : CapsOK cvs caps E'.ρ := ⟨hsz, hall⟩
              have hev1 : a1.eval (.tmp D.d) = .func (.func D.g) #[] cvs := by
                simp only [Act.eval]
                have : a1.tmps[D.d]? = some (.func (.func D.g) #[] cvs) := by simpa using g1
                simp [Array.getD_eq_getD_getElem?, this]
              show o2.upon P a1 _ Q ((execOp a1.eval o2).run P w1)
              rw [b3 a1 w1 D.g cvs hev1, Oper.upon_defer, b1]
              show Q .normal { a1 with defers := ⟨.fn (.func D.g) cvs, #[]⟩ :: a1.defers } w1
              rw [hdd, ← hQ]
              show c2.wp P _ _ _
              have hst2 : Stt E' { a1 with defers := [⟨.fn (.func D.g) cvs, #[]⟩] } w1 ⟨t', s.h⟩ := hst'
              refine wp_mono (code_ok (hs n) n D.post c2 _ w1 ⟨t', s.h⟩ e s' hc2 hst2 rfl hev) (fun x a' w' hrel => ?_)
              cases e with
              | norm =>
                cases x with
                | normal =>
                  obtain ⟨k1, k2⟩ := hrel
                  show Leaves P fn a'.tmps _ a'.defers .returning w'
                  rw [k2]
                  exact leave_norm hs hg hl hres hnd hback k1 hcaps' hcl hpost
                | _ => exact hrel.elim
              | ret =>
                cases x with
                | ret =>
                  obtain ⟨k1, k2⟩ := hrel
                  show Leaves P fn a'.tmps _ a'.defers .returning w'
                  rw [k2]
                  exact leave_norm hs hg hl hres hnd hback k1 hcaps' hcl hpost
                | _ => exact hrel.elim
              | exit id => exact hpost.elim
              | pan v =>
                cases x with
                | panic chain =>
                  obtain ⟨⟨cv, rfl, k1⟩, k2⟩ := hrel
                  show Leaves P fn a'.tmps _ a'.defers (.panicking _) w'
                  rw [k2]
                  exact leave_pan hs hg hl hres hnd hback k1 hE hcaps' hcl hpost
                | _ => exact hrel.elim) (fun v chain a' w' hv hrel => by cases hv)
        simp only [wpList] at this ⊢
        split
        · rename_i hw; rw [if_pos hw] at this; exact .inl this
        · rename_i hw; rw [if_neg hw] at this; exact this
      · cases hreg
    · cases hreg
  · cases hc
theorem pres_ok (hs : ∀ n, SoundCall P (callN M n)) (hg : chkGF P D = true) {fn : Func} {h0 : Heap} {r : Rt} (hl : E.ρ.length = h0.length) (hres : chkRes P fn.results.toList D.res = true) (hnd : nodupB (resTmps D.res) = true) :
    ∀ (xs : List AC) (c : Code) (a : Act) (w : World) (s : St), chkPres P D xs c = true → Stt E a w s → a.defers = [] → Run M (xs.map It.c) .norm s (PreD M D h0.length r) →
    c.wp P (bodyPostD P fn (fun e w' => CallEnd E.B E.w E.F E.ρ E.rest E.os r e w')) a w
  | [], c, a, w, s, hc, h, hd, hr => tail_ok hs hg hl hres hnd hc h hd hr
  | x :: xs, c, a, w, s, hc, h, hd, hr => by
    unfold chkPres at hc
    split at hc
    · rename_i c1 c2
      simp only [Bool.and_eq_true] at hc
      obtain ⟨e, s1, ⟨n, hn⟩, hrest⟩ := hr
      apply wp_seq
      refine wp_mono (code_ok (hs n) n x c1 a w s e s1 hc.1 h hd hn) (fun q a' w' hrel => ?_)
      cases e with
      | norm =>
        cases q with
        | normal => exact pres_ok hs hg hl hres hnd xs c2 a' w' s1 hc.2 hrel.1 hrel.2 hrest
        | _ => exact hrel.elim
      | ret =>
        cases q with
        | ret =>
          have hq := run_cs_ret (M := M) (fun h => by cases h) xs hrest
          obtain ⟨k1, k2⟩ := hrel
          show Leaves P fn a'.tmps _ a'.defers .returning w'
          rw [k2]
          exact fin_ok hl hres hnd k1 hq
        | _ => exact hrel.elim
      | exit id => exact (run_cs_ret (M := M) (fun h => by cases h) xs hrest).elim
      | pan v => exact (run_cs_ret (M := M) (fun h => by cases h) xs hrest).elim
    · cases hc
theorem runsD_ok (hs : ∀ n, SoundCall P (callN M n)) {f : FuncId} (hc : chkFD P f D = true) {vs : List V} {h : Heap} {r : Rt} (hr : RunsD M D vs h r) : enterable P f = true ∧
  ∀ (B : Nat) (w : World) (F : Nat → Nat) (ρ rest osA osH : List Nat) (cargs : List Value), RepL (RepV w F ρ) cargs vs osA → (∀ v ∈ vs, isAl v = false) → RepH w F ρ h osH → (∀ b, (osA ++ osH ++ rest).count b ≤ 1) →
  (∀ b ∈ osA ++ osH ++ rest, B ≤ b ∧ b < w.heap.size ∧ F b = 0) → (∀ b, w.heap.size ≤ b → F b = 0) → B ≤ w.heap.size →
  Calls P f cargs.toArray w (fun e w' => CallEnd B w F ρ rest (osA ++ osH) r e w') := by
 unfold chkFD at hc
 simp only [Bool.and_eq_true] at hc
 obtain ⟨hc, hg⟩ := hc
 split at hc
 ·rename_i fn hfn
  simp only [Bool.and_eq_true, beq_iff_eq, bne_iff_ne, ne_eq] at hc
  obtain ⟨⟨⟨⟨hname, hnt⟩, hres⟩, hnd⟩, hbody⟩ := hc
  split at hbody
  ·rename_i c hb
   refine ⟨by simp [enterable, hfn, hname, hb], fun B w F ρ rest osA osH cargs q1 q2 q3 q4 q5 q6 q7 => ?_⟩
   refine calls_of_wp_defers hfn hb ?_
   have hlen := q1.length
   let E : Env := ⟨B, w, F, ρ, rest, osA ++ osH⟩
   have hst : Stt E { tmps := cargs.toArray ++ Array.replicate (fn.ntmps - cargs.toArray.size) undef, defers := [] } w ⟨vs ++ List.replicate (D.ntmps - vs.length) .undef, h⟩ := by
    refine ⟨F, ρ, osA, osH, Ext.refl q6, fun _ _ x => x, ⟨?_, q3, ?_, q4, q5, q6, q7⟩, fun b hb => .inl hb⟩
    ·have := RepL.appendUndef (R := RepV w F ρ) (.e _ _ _ (.undef _)) q1 (fn.ntmps - cargs.length)
     simp only [← hlen, ← hnt]
     simpa using this
    ·intro e cv hcv
     exact aliasV_of (isAl_frame q2 _ e)
   exact pres_ok (E := E) hs hg q3.length hres hnd D.pres c _ w _ hbody hst rfl hr
  ·cases hbody
 ·cases hc
open Classical in
noncomputable def dcall (T : FuncId → Option (AFD × Mach)) : CallF := fun f vs h => match T f with
 | none => none
 | some (D, M) => if H : ∃ r, RunsD M D vs h r then some (Classical.choose H) else none
theorem dcall_sound {T : FuncId → Option (AFD × Mach)} (hT : ∀ f D M, T f = some (D, M) → chkFD P f D = true ∧ ∀ n, SoundCall P (callN M n)) : SoundCall P (dcall T) := by
 intro f vs h r hr
 unfold dcall at hr
 split at hr
 ·cases hr
 ·rename_i D M hTf
  obtain ⟨h1, h2⟩ := hT f D M hTf
  split at hr
  ·rename_i H
   simp only [Option.some.injEq] at hr
   have := Classical.choose_spec H
   rw [hr] at this
   exact runsD_ok h2 h1 this
  ·cases hr
theorem acall_up {M M' : Mach} (hf : M'.ft = M.ft) (hx : callLe M.ext M'.ext) (hn : ∀ f af, M.ft f = some af → ∀ vs h, M'.ext f vs h = none) : callLe (acall M) (acall M') := by
 have key : ∀ n, callLe (callN M n) (callN M' n) := by
  intro n
  induction n with
  | zero => exact hx
  | succ n ih =>
   intro f vs h r hr
   rw [callN_step] at hr ⊢
   cases he : M.ext f vs h with
   | some q =>
    rw [he] at hr
    rw [hx _ _ _ _ he]
    exact hr
   | none =>
    rw [he] at hr
    simp only at hr
    cases hft : M.ft f with
    | none => rw [hft] at hr; cases hr
    | some af =>
     rw [hft] at hr
     simp only at hr
     rw [hn f af hft vs h, hf, hft]
     simp only
     obtain ⟨q, hq⟩ := finish_some hr
     rw [hq] at hr
     rw [evC_mono ih (Nat.le_refl n) _ _ _ hq]
     exact hr
 intro f vs h r hr
 obtain ⟨n, hn'⟩ := (acall_iff M).1 hr
 exact (acall_iff M').2 ⟨n, key n _ _ _ _ hn'⟩
end
end Go.Am
namespace Go.Am
section
variable {M : Mach} {D : AFD} {n0 : Nat} {caps : List V} {r : Rt} {s : St} {v : V} {t : List V} {h : Heap}
theorem finD_iff : FinD D n0 r s ↔ FinQ D.res n0 r .ret s := by
 unfold FinD FinQ
 rw [show n0 = (List.replicate n0 ([] : List V)).length by simp]
 unfold finish finR AFD.af
 exact Iff.rfl
theorem preD_ret : PreD M D n0 r .ret s ↔ FinQ D.res n0 r .ret s := finD_iff
theorem preD_norm : PreD M D n0 r .norm s ↔ (nth s.t D.d).owner = false ∧ ∃ caps, capsOf (nth s.t) D.caps = some caps ∧ nth (upd s.t D.d (.fn D.g caps)) D.d = .fn D.g caps ∧ Run M [.c D.post] .norm ⟨upd s.t D.d (.fn D.g caps), s.h⟩ (PostD M D n0 caps r) := by
 show (∃ caps t', capsOf (nth s.t) D.caps = some caps ∧ put s.t (some D.d) (.fn D.g caps) = some t' ∧ nth t' D.d = .fn D.g caps ∧ Run M [.c D.post] .norm ⟨t', s.h⟩ (PostD M D n0 caps r)) ↔ _
 constructor
 ·rintro ⟨caps, t', h1, h2, h3, h4⟩
  simp only [put] at h2
  split at h2
  ·cases h2
  ·rename_i ho
   simp only [Option.some.injEq] at h2
   subst h2
   exact ⟨by simpa using ho, caps, h1, h3, h4⟩
 ·rintro ⟨ho, caps, h1, h3, h4⟩
  exact ⟨caps, _, h1, by simp only [put, ho]; rfl, h3, h4⟩
theorem postD_ret : PostD M D n0 caps r .ret s ↔ CloseD M D n0 caps r .nilIfc s.t s.h := Iff.rfl
theorem postD_norm : PostD M D n0 caps r .norm s ↔ CloseD M D n0 caps r .nilIfc s.t s.h := Iff.rfl
theorem postD_pan : PostD M D n0 caps r (.pan v) s ↔ CloseD M D n0 caps r v (s.t.map onlyPtr) s.h := Iff.rfl
def EndD (D : AFD) (n0 : Nat) (r : Rt) (t : List V) (e : Ex) (s : St) : Prop := (e = .norm ∨ e = .ret) ∧ FinD D n0 r ⟨t, s.h⟩
theorem closeD_iff : CloseD M D n0 caps r v t h ↔ Run M [.c D.gbody] .norm ⟨gframe D caps v, h⟩ (EndD D n0 r t) := Iff.rfl
theorem endD_norm : EndD D n0 r t .norm s ↔ FinQ D.res n0 r .ret ⟨t, s.h⟩ := by
 unfold EndD
 rw [finD_iff]
 simp
theorem endD_ret : EndD D n0 r t .ret s ↔ FinQ D.res n0 r .ret ⟨t, s.h⟩ := by
 unfold EndD
 rw [finD_iff]
 simp
end
theorem onlyPtr_ptr (i o : Nat) : onlyPtr (.ptr i o) = .ptr i o := rfl
theorem onlyPtr_undef : onlyPtr .undef = .undef := rfl
theorem onlyPtr_bool (b : Bool) : onlyPtr (.bool b) = .undef := rfl
theorem onlyPtr_int (k : IntKind) (n : Int) : onlyPtr (.int k n) = .undef := rfl
theorem onlyPtr_str (s : List UInt8) : onlyPtr (.str s) = .undef := rfl
theorem onlyPtr_sl (o : Bool) (n : Nat) (xs : List V) : onlyPtr (.sl o n xs) = .undef := rfl
theorem onlyPtr_agg (cs : List V) : onlyPtr (.agg cs) = .undef := rfl
theorem onlyPtr_tup (cs : List V) : onlyPtr (.tup cs) = .undef := rfl
theorem onlyPtr_box (cs : List V) : onlyPtr (.box cs) = .undef := rfl
theorem onlyPtr_fn (f : FuncId) (cs : List V) : onlyPtr (.fn f cs) = .undef := rfl
attribute [go_sem] preD_ret preD_norm postD_ret postD_norm postD_pan closeD_iff endD_norm endD_ret onlyPtr_ptr onlyPtr_undef onlyPtr_bool onlyPtr_int onlyPtr_str onlyPtr_sl onlyPtr_agg onlyPtr_tup onlyPtr_box onlyPtr_fn
end Go.Am
