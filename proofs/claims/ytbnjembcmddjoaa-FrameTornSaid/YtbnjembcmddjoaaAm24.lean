/- Functions: entry, results; the table of all calls is borne out by the program. -/
import Derived.Test.YtbnjembcmddjoaaAm23
set_option linter.unusedVariables false
set_option linter.unusedSimpArgs false
namespace Go.Am
open Go Go.RowKit

def chkRes1 (P : Program) (r : ResultVar) (q : ARes) : Bool := match q with
  | .tmp t => match r with | .tmp t' => t' == t | _ => false
  | .cell a n => match r with | .cell a' ty => a' == a && (match n with | none => oneT P ty | some m => aggT P ty && szT P ty == some m) | _ => false

def chkRes (P : Program) : List ResultVar → List ARes → Bool
  | [], [] => true
  | r :: rs, q :: qs => chkRes1 P r q && chkRes P rs qs
  | _, _ => false

def resTmps : List ARes → List Nat
  | [] => []
  | .tmp t :: l => t :: resTmps l
  | _ :: l => resTmps l

/-- The abstract function is the program's. -/
def chkF (P : Program) (f : FuncId) (af : AF) : Bool := match P.funcs[f]? with
  | some fn => fn.name != "runtime.NumGoroutine" && fn.ntmps == af.ntmps && chkRes P fn.results.toList af.res && nodupB (resTmps af.res) && (match fn.body with
    | some c => chkC P af.body c
    | none => false)
  | none => false

def tyOK (P : Program) (ty : TypeId) : Option Nat → Prop
  | none => oneT P ty = true
  | some m => aggT P ty = true ∧ szT P ty = some m

def res1 (tmps : Array Value) : ResultVar → Sem Value
  | .tmp t => pure (tmps.getD t undef)
  | .cell a t => do loadVar t (← asAddr (tmps.getD a undef))

section
variable {P : Program} {E : Env} {tmps : Array Value} {w : World} {F : Nat → Nat} {ρ : List Nat} {s : St} {call : CallF} {dfs : List Deferred} {B : Nat} {rest osT osH : List Nat}

theorem results_run {fn : Func} {cvs : List Value} (h : (List.mapM (res1 tmps) fn.results.toList).run P w = .ok cvs w) : (results fn tmps).run P w = .ok (match cvs with | [cv] => cv | _ => .tuple cvs.toArray) w := by
  have e1 : results fn tmps = (do let vs ← fn.results.mapM (res1 tmps); pure (if h : vs.size = 1 then vs[0] else .tuple vs)) := by
    unfold results
    congr 1
  have e2 : fn.results.mapM (res1 tmps) = Functor.map List.toArray (List.mapM (res1 tmps) fn.results.toList) := by
    conv => lhs; rw [show fn.results = fn.results.toList.toArray by simp]
    exact List.mapM_toArray
  rw [e1, e2]
  simp only [Sem.run_bind, Sem.run_map, h]
  cases cvs with
  | nil => simp
  | cons c cvs =>
    cases cvs with
    | nil => simp
    | cons d cvs => simp

theorem tmps_getD {t : Nat} {cv : Value} (h : tmps.toList[t]? = some cv) : tmps.getD t undef = cv := by
  rw [Array.getD_eq_getD_getElem?]
  rw [Array.getElem?_toList] at h
  rw [h]
  rfl

theorem place_t {r : Nat → V} {a : Nat} {b : Option Nat} {p : Pl} (h : place r (.t a) b = some p) : (∃ cs, r a = .box cs ∧ b = some a ∧ p = .slot a 0) ∨ (∃ d o, r a = .bref d o ∧ b = some d ∧ p = .slot d o) ∨ (∃ id o, r a = .ptr id o ∧ b = none ∧ p = .obj id o) ∨ (∃ cs, r a = .rptr cs ∧ b = none ∧ p = .ro cs) := by
  simp only [place, Am.ev] at h
  split at h
  · rename_i cs he
    cases b with
    | none => cases h
    | some d =>
      simp only at h
      split at h
      · rename_i hid
        simp only [Option.some.injEq] at h
        subst hid
        exact .inl ⟨cs, he, rfl, h.symm⟩
      · cases h
  · rename_i d o he
    split at h
    · split at h
      · rename_i d' hdd
        simp only [Option.some.injEq] at h
        subst hdd
        exact .inr (.inl ⟨d, o, he, rfl, h.symm⟩)
      · cases h
    · cases h
  · rename_i id o he
    split at h
    · simp only [Option.some.injEq] at h; exact .inr (.inr (.inl ⟨id, o, he, rfl, h.symm⟩))
    · cases h
  · rename_i cs he
    split at h
    · simp only [Option.some.injEq] at h; exact .inr (.inr (.inr ⟨cs, he, rfl, h.symm⟩))
    · cases h
  · cases h

/-- The cells of an own block, read as a value. -/
theorem cells_val {ty : TypeId} {n : Option Nat} {blk off : Nat} {cs : List V} {v : V} (hty : tyOK P ty n)
    (hc : ∀ j, j < cs.length → ∃ cv, w.cell? ⟨blk, j, none⟩ = some cv ∧ ((nth cs j).data = true → RepD w F cv (nth cs j) ∧ (nth cs j).one = true))
    (hv : (n = none ∧ off < cs.length ∧ v = nth cs off ∧ v.data = true) ∨ ∃ m, n = some m ∧ off + m ≤ cs.length ∧ ((cs.drop off).take m).all V.one = true ∧ v = .agg ((cs.drop off).take m)) :
    ∃ cv, (loadVar ty ⟨blk, off, none⟩).run P w = .ok cv w ∧ RepD w F cv v := by
  rcases hv with ⟨rfl, h1, rfl, h2⟩ | ⟨m, rfl, h1, h2, rfl⟩
  · obtain ⟨cv, c1, c2⟩ := hc off h1
    exact ⟨cv, run_loadVar_one hty c1, (c2 h2).1⟩
  · obtain ⟨cv, q1, q2⟩ := load_agg (P := P) (w := w) (F := F) (b := blk) (off := off) (ds := (cs.drop off).take m) hty.1 hty.2 (by simp; omega) (fun j hj => by
      have hone := all_nth h2 (j := j) (by simp; omega)
      rw [nth_take _ _ _ hj, nth_drop] at hone ⊢
      obtain ⟨cv, c1, c2⟩ := hc (off + j) (by omega)
      exact ⟨cv, c1, c2 (V.one_data hone)⟩)
    exact ⟨cv, q1, q2⟩

theorem cell_res (hsim : Sim B tmps.toList w F ρ s rest osT osH) {ty : TypeId} {a : Nat} {n : Option Nat} {v : V} (hty : tyOK P ty n)
    (h : resV s (.cell a n) = some v) : ∃ cv, (res1 tmps (.cell a ty)).run P w = .ok cv w ∧ RepD w F cv v := by
  have fin : ∀ blk off, tmps.toList[a]? = some (.pointer (some ⟨blk, off, none⟩)) → (∃ cv, (loadVar ty ⟨blk, off, none⟩).run P w = .ok cv w ∧ RepD w F cv v) → ∃ cv, (res1 tmps (.cell a ty)).run P w = .ok cv w ∧ RepD w F cv v := by
    intro blk off ht ⟨cv, q1, q2⟩
    refine ⟨cv, ?_, q2⟩
    simp [res1, tmps_getD ht, asAddr, q1]
  simp only [resV] at h
  split at h
  · rename_i us v' h' hres
    split at h
    · rename_i hd
      simp only [Option.some.injEq] at h
      subst h
      simp only [opRes] at hres
      have slotv : ∀ (i : Nat), nth s.t a ≠ .undef → ∃ cv od, tmps.toList[a]? = some cv ∧ RepV w F ρ cv (nth s.t a) od := fun _ hn => by
        obtain ⟨cv, od, g1, g2, _⟩ := hsim.tmps.get (nth_lt hn)
        exact ⟨cv, od, g1, g2⟩
      split at hres
      · rename_i d o hp
        rcases place_t hp with ⟨cs, he, hb, hpl⟩ | ⟨d', o', he, hb, hpl⟩ | ⟨id, o', he, hb, hpl⟩ | ⟨cs, he, hb, hpl⟩
        · simp only [Pl.slot.injEq] at hpl
          obtain ⟨rfl, rfl⟩ := hpl
          obtain ⟨cv, od, g1, g2⟩ := slotv 0 (by rw [he]; exact fun h => by cases h)
          rw [he] at g2
          cases g2 with
          | e _ _ _ g2 => cases g2 with | d _ _ g2 => cases g2
          | box b _ os g2 =>
            refine fin b 0 g1 (cells_val hty (fun j hj => g2.cell hj) ?_)
            simp only [he, memOf] at hres
            split at hres
            · split at hres
              · rename_i hl
                simp only [if_true, Option.some.injEq, Rs.val.injEq] at hres
                exact .inl ⟨rfl, hl, hres.2.1.symm, hd⟩
              · cases hres
            · rename_i m
              split at hres
              · rename_i hl
                split at hres
                · rename_i hall
                  simp only [Option.some.injEq, Rs.val.injEq] at hres
                  exact .inr ⟨m, rfl, hl, hall, hres.2.1.symm⟩
                · cases hres
              · cases hres
        · rw [he] at hb; cases hb
        · cases hpl
        · cases hpl
      · rename_i id o hp
        rcases place_t hp with ⟨cs, he, hb, hpl⟩ | ⟨d', o', he, hb, hpl⟩ | ⟨id', o', he, hb, hpl⟩ | ⟨cs, he, hb, hpl⟩
        · cases hpl
        · cases hpl
        · simp only [Pl.obj.injEq] at hpl
          obtain ⟨rfl, rfl⟩ := hpl
          obtain ⟨cv, od, g1, g2⟩ := slotv 0 (by rw [he]; exact fun h => by cases h)
          rw [he] at g2
          cases g2 with
          | e _ _ _ g2 => cases g2 with | d _ _ g2 => cases g2
          | ptr _ _ b g2 =>
            have hid : id < s.h.length := by
              rw [← hsim.heap.length]
              exact (List.getElem?_eq_some_iff.1 g2).1
            obtain ⟨b', o1, ob, o2, k1, k2, k3, _⟩ := hsim.heap.at hid
            rw [g2] at k1
            simp only [Option.some.injEq] at k1
            subst k1
            refine fin b o g1 (cells_val hty (fun j hj => k3.cell hj) ?_)
            split at hres
            · split at hres
              · rename_i hl
                simp only [if_true, Option.some.injEq, Rs.val.injEq] at hres
                exact .inl ⟨rfl, hl, hres.2.1.symm, hd⟩
              · cases hres
            · rename_i m
              split at hres
              · rename_i hl
                split at hres
                · rename_i hall
                  simp only [Option.some.injEq, Rs.val.injEq] at hres
                  exact .inr ⟨m, rfl, hl, hall, hres.2.1.symm⟩
                · cases hres
              · cases hres
        · cases hpl
      · rename_i cs hp
        rcases place_t hp with ⟨cs', he, hb, hpl⟩ | ⟨d', o', he, hb, hpl⟩ | ⟨id, o', he, hb, hpl⟩ | ⟨cs', he, hb, hpl⟩
        · cases hpl
        · cases hpl
        · cases hpl
        · simp only [Pl.ro.injEq] at hpl
          subst hpl
          obtain ⟨cv, od, g1, g2⟩ := slotv 0 (by rw [he]; exact fun h => by cases h)
          rw [he] at g2
          cases g2 with
          | e _ _ _ g2 => cases g2 with | d _ _ g2 => cases g2
          | rptr b off _ cvf p1 p2 p3 =>
            refine fin b off g1 ?_
            split at hres
            · split at hres
              · rename_i c cs
                split at hres
                · simp only [Option.some.injEq, Rs.val.injEq] at hres
                  have hc := p2 0 (by simp)
                  have hr := (p3 0 (by simp)).1
                  rw [Nat.add_zero] at hc
                  rw [← hres.2.1]
                  exact ⟨_, run_loadVar_one hty hc, hr⟩
                · cases hres
              · cases hres
            · rename_i m
              split at hres
              · rename_i hl
                simp only [Option.some.injEq, Rs.val.injEq] at hres
                rw [← hres.2.1]
                exact load_agg (P := P) (w := w) (F := F) (b := b) (off := off) (ds := cs.take m) hty.1 hty.2 (by simp; omega) (fun j hj => by
                  rw [nth_take _ _ _ hj]
                  exact ⟨cvf j, p2 j (by omega), p3 j (by omega)⟩)
              · cases hres
      · cases hres
    · cases h
  · cases h

/-- The results, with what they own. -/
theorem res_ok (hcell : ∀ ty a n v, tyOK P ty n → resV s (.cell a n) = some v → ∃ cv, (res1 tmps (.cell a ty)).run P w = .ok cv w ∧ RepD w F cv v) :
    ∀ {qs : List ARes} {rs : List ResultVar} {vs : List V} {t : List V} {os : List Nat}, RepL (RepV w F ρ) tmps.toList t os → (∀ i ∈ resTmps qs, nth t i = nth s.t i) → chkRes P rs qs = true → nodupB (resTmps qs) = true → resL s qs = some vs →
      ∃ cvs osV, (List.mapM (res1 tmps) rs).run P w = .ok cvs w ∧ RepL (RepE w F) cvs vs osV ∧ (∀ b, osV.count b ≤ os.count b) ∧ ∀ v ∈ vs, isAl v = false
  | [], [], vs, t, os, h, _, _, _, hr => by
    simp only [resL, Option.some.injEq] at hr
    subst hr
    exact ⟨[], [], by simp, .nil, fun b => by simp, fun v hv => by cases hv⟩
  | q :: qs, r :: rs, vs, t, os, h, hsame, hc, hn, hr => by
    simp only [chkRes, Bool.and_eq_true] at hc
    simp only [resL] at hr
    split at hr
    · rename_i v vs' hv hvs
      simp only [Option.some.injEq] at hr
      subst hr
      cases q with
      | tmp i =>
        simp only [resTmps, nodupB, Bool.and_eq_true, Bool.not_eq_true', List.contains_eq_mem] at hn
        have hni : i ∉ resTmps qs := by simpa using hn.1
        have hr1 : r = .tmp i := by
          have := hc.1
          simp only [chkRes1] at this
          split at this
          · rw [beq_iff_eq.1 this]
          · cases this
        subst hr1
        have hti : nth t i = nth s.t i := hsame i (by simp [resTmps])
        have hvt : v = nth s.t i ∧ (v.data = true ∨ ∃ sz xs, v = .sl true sz xs) := by
          simp only [resV] at hv
          split at hv
          · rename_i sz xs he
            simp only [Option.some.injEq] at hv
            exact ⟨by rw [he, hv], .inr ⟨sz, xs, hv.symm⟩⟩
          · split at hv
            · rename_i hd
              simp only [Option.some.injEq] at hv
              exact ⟨hv.symm, .inl (hv ▸ hd)⟩
            · cases hv
        have hi : i < t.length := nth_lt (fun hh => by
          rw [hti, ← hvt.1] at hh
          rcases hvt.2 with h2 | ⟨sz, xs, h2⟩
          · rw [hh] at h2; cases h2
          · rw [hh] at h2; cases h2)
        obtain ⟨cv, o1, od, o2, g1, g2, g3, g4⟩ := h.at hi
        have hE : RepE w F cv v od := by
          rw [hti, ← hvt.1] at g3
          cases g3 with
          | e _ _ _ g3 => exact g3
          | _ => rcases hvt.2 with h2 | ⟨sz, xs, h2⟩ <;> cases h2
        have hrest := g4 (RepV w F ρ) cv .undef [] (fun _ _ _ r _ => r) (.e _ _ _ (.undef _))
        rw [list_set_self g1] at hrest
        obtain ⟨cvs, osV, k1, k2, k3, k4⟩ := res_ok hcell hrest (fun j hj => by
          rw [nth_upd_ne (by rintro rfl; exact hni hj)]
          exact hsame j (by simp [resTmps, hj])) hc.2 hn.2 hvs
        refine ⟨cv :: cvs, od ++ osV, ?_, .cons _ _ _ _ _ _ hE k2, fun b => ?_, fun u hu => ?_⟩
        · rw [List.mapM_cons]
          simp [res1, tmps_getD g1, k1]
        · have := k3 b
          rw [g2]
          simp only [List.count_append, List.count_nil] at this ⊢
          omega
        · cases hu with
          | head =>
            rcases hvt.2 with h2 | ⟨sz, xs, h2⟩
            · exact data_isAl h2
            · rw [h2]; rfl
          | tail _ hu => exact k4 u hu
      | cell a n =>
        have hr1 : ∃ ty, r = .cell a ty ∧ tyOK P ty n := by
          have := hc.1
          simp only [chkRes1] at this
          split at this
          · rename_i a' ty
            simp only [Bool.and_eq_true, beq_iff_eq] at this
            obtain ⟨rfl, h2⟩ := this
            refine ⟨ty, rfl, ?_⟩
            cases n with
            | none => exact h2
            | some m => simpa [tyOK] using h2
          · cases this
        obtain ⟨ty, rfl, hty⟩ := hr1
        obtain ⟨cv, k0, kD⟩ := hcell ty a n v hty hv
        obtain ⟨cvs, osV, k1, k2, k3, k4⟩ := res_ok hcell h (fun j hj => hsame j (by simpa [resTmps] using hj)) hc.2 (by simpa [resTmps] using hn) hvs
        refine ⟨cv :: cvs, [] ++ osV, ?_, .cons _ _ _ _ _ _ (.d _ _ kD) k2, fun b => by simpa using k3 b, fun u hu => ?_⟩
        · rw [List.mapM_cons]
          simp [k0, k1]
        · cases hu with
          | head => exact data_isAl kD.data
          | tail _ hu => exact k4 u hu
    · cases hr
  | [], _ :: _, _, _, _, _, _, hc, _, _ => by cases hc
  | _ :: _, [], _, _, _, _, _, hc, _, _ => by cases hc
end
end Go.Am
