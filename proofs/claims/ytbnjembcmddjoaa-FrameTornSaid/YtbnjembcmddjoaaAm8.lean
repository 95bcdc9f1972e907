/- Loads and stores. -/
import Derived.Test.YtbnjembcmddjoaaAm7
import Derived.Laws.IdiomCopy
set_option linter.unusedVariables false
set_option linter.unusedSimpArgs false
namespace Go.Am
open Go Go.RowKit

def setA (cur : Array Value) (o : Nat) : List Value → Array Value
  | [] => cur
  | v :: r => setA (cur.setIfInBounds o v) (o + 1) r

theorem setA_size (vs : List Value) : ∀ (cur : Array Value) (o : Nat), (setA cur o vs).size = cur.size := by
  induction vs with
  | nil => intro cur o; rfl
  | cons v r ih => intro cur o; simp [setA, ih]

theorem setCells_block {b : Nat} : ∀ (vs : List Value) (o : Nat) (w : World) (cur : Array Value) (e : TypeId) (fr : Nat × Nat), w.heap[b]? = some (.cells cur e fr) →
    (w.setCells b o vs).heap[b]? = some (.cells (setA cur o vs) e fr) := by
  intro vs
  induction vs with
  | nil => intro o w cur e fr h; exact h
  | cons v r ih =>
    intro o w cur e fr h
    simp only [World.setCells, setA]
    refine ih (o + 1) _ _ e fr ?_
    simp only [World.setCell, Array.getElem?_modify, if_true, h, Option.map_some]
    simp

theorem setCells_other {b k : Nat} (hk : k ≠ b) : ∀ (vs : List Value) (o : Nat) (w : World), (w.setCells b o vs).heap[k]? = w.heap[k]? := by
  intro vs
  induction vs with
  | nil => intro o w; rfl
  | cons v r ih =>
    intro o w
    simp only [World.setCells]
    rw [ih]
    exact Below.heap_setCell _ _ _ _ hk

theorem setCells_rest {b : Nat} : ∀ (vs : List Value) (o : Nat) (w : World), (w.setCells b o vs).os = w.os ∧ (w.setCells b o vs).tape = w.tape ∧ (w.setCells b o vs).output = w.output ∧ (w.setCells b o vs).heap.size = w.heap.size := by
  intro vs
  induction vs with
  | nil => intro o w; exact ⟨rfl, rfl, rfl, rfl⟩
  | cons v r ih =>
    intro o w
    simp only [World.setCells]
    obtain ⟨h1, h2, h3, h4⟩ := ih (o + 1) (w.setCell ⟨b, o, none⟩ v)
    exact ⟨h1.trans rfl, h2.trans rfl, h3.trans rfl, h4.trans (by simp [World.setCell])⟩

theorem Ext.setCells {B : Nat} {w : World} {F : Nat → Nat} {blk o : Nat} (vs : List Value) (hB : B ≤ blk) (h0 : F blk = 0) (hf : ∀ b, w.heap.size ≤ b → F b = 0) :
    Ext B w F (w.setCells blk o vs) F (fun b => b = blk) := by
  obtain ⟨h1, h2, h3, h4⟩ := setCells_rest (b := blk) vs o w
  have hother : ∀ k, k ≠ blk → (w.setCells blk o vs).heap[k]? = w.heap[k]? := fun k hk => setCells_other hk vs o w
  refine ⟨⟨h1, h2, h3, Nat.le_of_eq h4.symm, fun k hk => hother k (by omega)⟩, Nat.le_of_eq h4.symm, fun b c hc => ?_, fun _ => Nat.le_refl _, fun b hb _ => ⟨hother b hb, rfl⟩, fun b hb => hf b (by omega)⟩
  refine cell_of_block (hother b ?_)
  rintro rfl
  rw [h0] at hc
  omega

section
variable {R : Value → V → List Nat → Prop}

theorem RepL.append_cons {cvs : List Value} {vs : List V} {os : List Nat} (r : RepL R cvs vs os) : cvs.length = vs.length := r.length

/-- New cells over old ones. -/
theorem RepL.overlay {ws : List V} : ∀ {vs : List Value} {osW : List Nat} (_ : RepL R vs ws osW) {cur : Array Value} {cs : List V} {os : List Nat} {o : Nat}, RepL R cur.toList cs os → o + ws.length ≤ cs.length →
    ∃ os', RepL R (setA cur o vs).toList (Am.overlay cs o ws) os' ∧ ∀ b, os'.count b ≤ os.count b + osW.count b := by
  induction ws with
  | nil =>
    intro vs osW hw cur cs os o hc hl
    cases hw
    exact ⟨os, hc, fun b => by simp⟩
  | cons x ws ih =>
    intro vs osW hw cur cs os o hc hl
    cases hw with
    | cons cv _ cvs _ o1 o2 h1 h2 =>
      simp only [List.length_cons] at hl
      obtain ⟨c0, p1, p0, p2, g1, g2, g3, g4⟩ := hc.at (d := o) (by omega)
      have hstep := g4 R cv x o1 (fun _ _ _ r _ => r) h1
      have hset : (cur.setIfInBounds o cv).toList = cur.toList.set o cv := by simp
      rw [← hset] at hstep
      obtain ⟨os', q1, q2⟩ := ih h2 (o := o + 1) hstep (by rw [upd_length]; omega)
      refine ⟨os', q1, fun b => ?_⟩
      have := q2 b
      rw [g2]
      simp only [List.count_append] at this ⊢
      omega
end

section
variable {P : Program} {a : Act} {o : Oper} {B : Nat} {w : World} {F : Nat → Nat} {ρ : List Nat} {s : St} {rest osT osH : List Nat} {c : CallF} {r : Rs}

theorem nth_cells_one {v : V} (h : v.one = true) : nth v.cells 0 = v := by rw [V.one_cells h]; rfl

/-- A value's cells. -/
theorem RepD.cellsL {cv : Value} {v : V} (h : RepD w F cv v) : RepL (RepC w F) cv.cells.toList v.cells [] := by
  have key : ∀ (cvs : List Value) (cs : List V), cvs.length = cs.length → (∀ j, j < cs.length → (nth cs j).one = true) → (∀ j (hj : j < cvs.length), RepD w F cvs[j] (nth cs j)) → RepL (RepC w F) cvs cs [] := by
    intro cvs
    induction cvs with
    | nil => intro cs h1 _ _; cases cs with | nil => exact .nil | cons => simp at h1
    | cons c cvs ih =>
      intro cs h1 h2 h3
      cases cs with
      | nil => simp at h1
      | cons x cs =>
        have r0 := h3 0 (by simp)
        have o0 := h2 0 (by simp)
        exact .cons _ _ _ _ [] [] ⟨.d _ _ r0, r0.oneCell o0, fun _ => o0⟩ (ih cs (by simpa using h1) (fun j hj => h2 (j + 1) (by simpa using hj)) (fun j hj => h3 (j + 1) (by simpa using hj)))
  cases hv : v with
  | agg cs =>
    rw [hv] at h
    cases h with
    | agg cvs _ h1 h2 h3 => exact key cvs.toList cs (by simpa using h1) h2 (fun j hj => by have := h3 j (by simpa using hj); rwa [← Array.getElem_toList] at this)
  | _ =>
    rw [← hv]
    have h1 : v.one = true := by
      have := h.data
      rw [hv] at this ⊢
      first | exact this | (rename_i o _ _; cases o <;> first | exact this | cases this)
    rw [V.one_cells h1, h.cells_one h1]
    exact key [cv] [v] rfl (fun j hj => by have e : j = 0 := (by simpa using hj); subst e; exact h1) (fun j hj => by have e : j = 0 := (by simpa using hj); subst e; exact h)

theorem RepL.nth_getElem {R : Value → V → List Nat → Prop} {cvs : List Value} {vs : List V} {os : List Nat} (r : RepL R cvs vs os) {d : Nat} (hd : d < vs.length) : ∃ cv os', cvs[d]? = some cv ∧ R cv (nth vs d) os' := by
  obtain ⟨cv, od, h1, h2, _⟩ := r.get hd
  exact ⟨cv, od, h1, h2⟩

theorem RepE.data {cv : Value} {v : V} {os : List Nat} (r : RepE w F cv v os) (h : v.data = true) : RepD w F cv v ∧ os = [] := by
  cases r with
  | d _ _ r => exact ⟨r, rfl⟩
  | _ => cases h

/-- The cells of a variable of one's own. -/
theorem OwnCells.cell {b : Nat} {cs : List V} {os : List Nat} (h : OwnCells w F b cs os) {j : Nat} (hj : j < cs.length) : ∃ cv, w.cell? ⟨b, j, none⟩ = some cv ∧ ((nth cs j).data = true → RepD w F cv (nth cs j) ∧ (nth cs j).one = true) := by
  obtain ⟨_, cur, e, fr, h1, _, h3⟩ := h
  obtain ⟨cv, os', g1, g2⟩ := h3.nth_getElem hj
  refine ⟨cv, ?_, fun hd => ⟨(g2.1.data hd).1, g2.2.2 hd⟩⟩
  simp only [World.cell?, h1, Option.isSome_none, Bool.false_eq_true, if_false]
  simpa using g1

/-- A row of cells, loaded as a struct. -/
theorem load_agg {t : TypeId} {b off m : Nat} {ds : List V} (ht : aggT P t = true) (hs : szT P t = some m) (hl : ds.length = m)
    (hc : ∀ j, j < m → ∃ cv, w.cell? ⟨b, off + j, none⟩ = some cv ∧ RepD w F cv (nth ds j) ∧ (nth ds j).one = true) :
    ∃ cv, (loadVar t ⟨b, off, none⟩).run P w = .ok cv w ∧ RepD w F cv (.agg ds) := by
  let f : Nat → Value := fun j => (w.cell? ⟨b, off + j, none⟩).getD undef
  have hf : ∀ j, j < m → w.cell? ⟨b, off + j, none⟩ = some (f j) ∧ RepD w F (f j) (nth ds j) ∧ (nth ds j).one = true := fun j hj => by
    obtain ⟨cv, h1, h2, h3⟩ := hc j hj
    have : f j = cv := by simp [f, h1]
    rw [this]
    exact ⟨h1, h2, h3⟩
  refine ⟨.agg ((List.range m).map f).toArray, run_loadVar_agg ht hs _ (by simp) (fun j v hj => ?_), ?_⟩
  · by_cases hjm : j < m
    · simp [hjm] at hj
      rw [← hj]
      exact (hf j hjm).1
    · rw [List.getElem?_eq_none (by simp; omega)] at hj
      cases hj
  · refine .agg _ _ (by simp [hl]) (fun j hj => (hf j (by omega)).2.2) (fun j hj => ?_)
    simp at hj
    simpa using (hf j hj).2.1

theorem all_nth {p : V → Bool} {l : List V} (h : l.all p = true) {j : Nat} (hj : j < l.length) : p (nth l j) = true := by
  rw [nth_eq_getElem hj]
  exact List.all_eq_true.1 h _ (List.getElem_mem hj)

theorem RepH.at {w : World} {F : Nat → Nat} {ρ : List Nat} {hp : Heap} {os : List Nat} (r : RepH w F ρ hp os) {id : Nat} (hi : id < hp.length) :
    ∃ b o1 ob o2, ρ[id]? = some b ∧ os = o1 ++ (b :: ob) ++ o2 ∧ OwnCells w F b (hnth hp id) ob ∧
      ∀ (w' : World) (F' : Nat → Nat) cs' ob', (∀ b' cs o, OwnCells w F b' cs o → (∀ x ∈ b' :: o, x ∈ o1 ++ o2) → OwnCells w' F' b' cs o) → OwnCells w' F' b cs' ob' → RepH w' F' ρ (hupd hp id cs') (o1 ++ (b :: ob') ++ o2) := by
  induction r generalizing id with
  | nil => simp at hi
  | cons b cs ρ hp os os' h1 h2 ih =>
    cases id with
    | zero =>
      refine ⟨b, [], os, os', rfl, by simp, h1, fun w' F' cs' ob' hK hn => ?_⟩
      have hrest : RepH w' F' ρ hp os' := by
        clear ih h1 hn hi
        have hK' : ∀ b' cs o, OwnCells w F b' cs o → (∀ x ∈ b' :: o, x ∈ os') → OwnCells w' F' b' cs o := fun b' cs o h hx => hK b' cs o h (by simpa using hx)
        clear hK
        induction h2 with
        | nil => exact .nil
        | cons b cs ρ hp os os' h1 h2 ih =>
          exact .cons _ _ _ _ _ _ (hK' _ _ _ h1 (fun x hx => List.mem_append_left _ hx)) (ih fun b' cs o h hx => hK' _ _ _ h (fun x hxx => List.mem_append_right _ (hx x hxx)))
      simpa [hupd] using RepH.cons b cs' ρ hp ob' os' hn hrest
    | succ id =>
      obtain ⟨b', o1, ob, o2, g1, g2, g3, g4⟩ := ih (id := id) (by simpa using hi)
      refine ⟨b', b :: os ++ o1, ob, o2, g1, by rw [g2]; simp, g3, fun w' F' cs' ob' hK hn => ?_⟩
      have := g4 w' F' cs' ob' (fun b'' cs o h hx => hK _ _ _ h (fun x hxx => by have := hx x hxx; simp only [List.mem_append] at this ⊢; rcases this with h | h <;> simp [h])) hn
      have h5 := RepH.cons (w := w') (F := F') b cs ρ _ os _ (hK _ _ _ h1 (fun x hx => by simp only [List.cons_append, List.append_assoc, List.mem_cons, List.mem_append] at hx ⊢; rcases hx with h | h <;> simp [h])) this
      simpa [hupd] using h5

theorem hnth_out {hp : Heap} {id : Nat} (h : hp.length ≤ id) : hnth hp id = [] := by
  induction hp generalizing id with
  | nil => rfl
  | cons x hp ih =>
    cases id with
    | zero => simp at h
    | succ id => exact ih (by simpa using h)

theorem RepH.length {w : World} {F : Nat → Nat} {ρ : List Nat} {hp : Heap} {os : List Nat} (r : RepH w F ρ hp os) : ρ.length = hp.length := by
  induction r with
  | nil => rfl
  | cons => simp [*]

/-- What the slot of a pointer's variable holds. -/
theorem Sim.slot_box (h : Sim B a.tmps.toList w F ρ s rest osT osH) {d blk : Nat} {cs : List V} (hd : nth s.t d = .box cs) (hv : a.tmps.toList[d]? = some (.pointer (some ⟨blk, 0, none⟩))) :
    ∃ o1 os o2, osT = o1 ++ (blk :: os) ++ o2 ∧ OwnCells w F blk cs os ∧ ∀ (R' : Value → V → List Nat → Prop) v' os', (∀ cv v o, RepV w F ρ cv v o → (∀ b ∈ o, b ∈ o1 ++ o2) → R' cv v o) →
      R' (.pointer (some ⟨blk, 0, none⟩)) v' os' → RepL R' a.tmps.toList (upd s.t d v') (o1 ++ os' ++ o2) := by
  have hi : d < s.t.length := nth_lt (fun hh => by rw [hh] at hd; cases hd)
  obtain ⟨cv, o1, od, o2, g1, g2, g3, g4⟩ := h.tmps.at hi
  rw [g1] at hv
  simp only [Option.some.injEq] at hv
  subst hv
  rw [hd] at g3
  cases g3 with
  | e _ _ _ g3 => cases g3 with | d _ _ g3 => cases g3
  | box _ _ os g3 =>
    refine ⟨o1, os, o2, g2, g3, fun R' v' os' hR hn => ?_⟩
    have := g4 R' (.pointer (some ⟨blk, 0, none⟩)) v' os' hR hn
    rwa [list_set_self g1] at this

theorem Sim.slot_own (h : Sim B a.tmps.toList w F ρ s rest osT osH) {d blk len cap sz : Nat} {xs : List V} (hd : nth s.t d = .sl true sz xs) (hv : a.tmps.toList[d]? = some (.slice (some ⟨blk, 0, none⟩) len cap)) :
    ∃ o1 o2, osT = o1 ++ [blk] ++ o2 ∧ OwnSl w F blk len cap sz xs ∧ ∀ (R' : Value → V → List Nat → Prop) v' os', (∀ cv v o, RepV w F ρ cv v o → (∀ b ∈ o, b ∈ o1 ++ o2) → R' cv v o) →
      R' (.slice (some ⟨blk, 0, none⟩) len cap) v' os' → RepL R' a.tmps.toList (upd s.t d v') (o1 ++ os' ++ o2) := by
  have hi : d < s.t.length := nth_lt (fun hh => by rw [hh] at hd; cases hd)
  obtain ⟨cv, o1, od, o2, g1, g2, g3, g4⟩ := h.tmps.at hi
  rw [g1] at hv
  simp only [Option.some.injEq] at hv
  subst hv
  rw [hd] at g3
  cases g3 with
  | e _ _ _ g3 =>
    cases g3 with
    | d _ _ g3 => cases g3
    | own _ _ _ _ _ g3 =>
      refine ⟨o1, o2, g2, g3, fun R' v' os' hR hn => ?_⟩
      have := g4 R' (.slice (some ⟨blk, 0, none⟩) len cap) v' os' hR hn
      rwa [list_set_self g1] at this

theorem run_load {t : TypeId} {x : Operand} {b off : Nat} {cv : Value} (hop : o.op = .load t x) (hx : a.eval x = .pointer (some ⟨b, off, none⟩)) (hl : (loadVar t ⟨b, off, none⟩).run P w = .ok cv w) :
    (execOp a.eval o).run P w = .ok (.value cv) w := by
  simp [execOp, hop, hx, Instr.loadAt, Instr.sureAddr, hl]

theorem ld_case (h : Sim B a.tmps.toList w F ρ s rest osT osH) {x : Operand} {t : TypeId} {blk off : Nat} {n : Option Nat} (hop : o.op = .load t x) (hx : a.eval x = .pointer (some ⟨blk, off, none⟩))
    (hn : match n with | none => oneT P t = true | some m => aggT P t = true ∧ szT P t = some m) {cs : List V} (hcell : ∀ j, off + j < cs.length → ∃ cv, w.cell? ⟨blk, off + j, none⟩ = some cv ∧ ((nth cs (off + j)).one = true → RepD w F cv (nth cs (off + j))))
    {v : V} (hv : match n with | none => off < cs.length ∧ (nth cs off).one = true ∧ v = nth cs off | some m => off + m ≤ cs.length ∧ ((cs.drop off).take m).all V.one = true ∧ v = .agg ((cs.drop off).take m)) :
    OpOK P a o B w F ρ s rest osT osH (.val [] v s.h) := by
  cases n with
  | none =>
    obtain ⟨h1, h2, rfl⟩ := hv
    obtain ⟨cv, g1, g2⟩ := hcell 0 (by simpa using h1)
    simp only [Nat.add_zero] at g1 g2
    exact OpOK.data h (run_load hop hx (run_loadVar_one hn g1)) (g2 h2)
  | some m =>
    obtain ⟨h1, h2, rfl⟩ := hv
    have hlen : ((cs.drop off).take m).length = m := by rw [List.length_take, List.length_drop]; omega
    obtain ⟨cv, g1, g2⟩ := load_agg (w := w) (F := F) (P := P) (b := blk) (off := off) hn.1 hn.2 hlen (fun j hj => by
      obtain ⟨cv, q1, q2⟩ := hcell j (by omega)
      have hd := all_nth h2 (j := j) (by omega)
      rw [nth_take _ _ _ hj, nth_drop] at hd ⊢
      exact ⟨cv, q1, q2 hd, hd⟩)
    exact OpOK.data h (run_load hop hx g1) g2

theorem own_one {xs : List V} {len cap blk : Nat} (h : OwnSl w F blk len cap 1 xs) {j : Nat} (hj : j < xs.length) : ∃ cv, w.cell? ⟨blk, j, none⟩ = some cv ∧ ((nth xs j).one = true → RepD w F cv (nth xs j)) := by
  obtain ⟨cv, g1, g2, g3⟩ := h.cell j 0 hj (by omega)
  refine ⟨cv, by simpa using g1, fun hd => ?_⟩
  rw [nth_cells_one hd] at g2
  exact g2

theorem OwnCells.cell1 {b : Nat} {cs : List V} {os : List Nat} (h : OwnCells w F b cs os) {j : Nat} (hj : j < cs.length) : ∃ cv, w.cell? ⟨b, j, none⟩ = some cv ∧ ((nth cs j).one = true → RepD w F cv (nth cs j)) := by
  obtain ⟨cv, h1, h2⟩ := h.cell hj
  exact ⟨cv, h1, fun hd => (h2 (V.one_data hd)).1⟩

/-- A part of a variable of one's own is taken out of it. -/
theorem OwnCells.take {b : Nat} {cs : List V} {os : List Nat} (h : OwnCells w F b cs os) {j : Nat} (hj : j < cs.length) : ∃ cv p1 po p2, w.cell? ⟨b, j, none⟩ = some cv ∧ os = p1 ++ po ++ p2 ∧ RepC w F cv (nth cs j) po ∧ OwnCells w F b (upd cs j .undef) (p1 ++ p2) := by
  obtain ⟨h0, cur, e, fr, h1, h2, h3⟩ := h
  obtain ⟨cv, p1, po, p2, g1, g2, g3, g4⟩ := h3.at hj
  refine ⟨cv, p1, po, p2, ?_, g2, g3, h0, cur, e, fr, h1, h2, ?_⟩
  · simp only [World.cell?, h1, Option.isSome_none, Bool.false_eq_true, if_false]
    simpa using g1
  · have := g4 (RepC w F) cv .undef [] (fun _ _ _ r _ => r) ⟨.undef _, g3.2.1, fun hd => by cases hd⟩
    rw [list_set_self g1] at this
    simpa using this

theorem op_ld (h : Sim B a.tmps.toList w F ρ s rest osT osH) {x : Operand} {y : Src} {t : TypeId} {n : Option Nat} {tr : Bool} {b : Option Nat} (hop : o.op = .load t x) (hc : chkS x y = true)
    (hn : match n with | none => oneT P t = true | some m => aggT P t = true ∧ szT P t = some m)
    (hr : opRes c (nth s.t) s.h (.ld y n tr b) = some r) : OpOK P a o B w F ρ s rest osT osH r := by
  simp only [opRes] at hr
  split at hr
  · rename_i d off hp
    obtain ⟨blk, hx, hh⟩ := h.place_slot hc hp
    split at hr
    · cases hr
    · rename_i cs hm
      have hcell : ∀ j, j < cs.length → ∃ cv, w.cell? ⟨blk, j, none⟩ = some cv ∧ ((nth cs j).one = true → RepD w F cv (nth cs j)) := by
        rcases hh with ⟨⟨cs', hd⟩, hv⟩ | ⟨⟨sz, xs, hd⟩, len, cap, hv⟩
        · rw [hd] at hm
          simp only [memOf, Option.some.injEq] at hm
          subst hm
          obtain ⟨_, os, _, _, g3, _⟩ := h.slot_box hd hv
          exact fun j hj => g3.cell1 hj
        · rw [hd] at hm
          by_cases hsz : sz = 1
          · subst hsz
            simp only [memOf, Option.some.injEq] at hm
            subst hm
            obtain ⟨_, _, _, g3, _⟩ := h.slot_own hd hv
            exact fun j hj => own_one g3 hj
          · simp [memOf, hsz] at hm
      cases n with
      | none =>
        simp only at hr
        split at hr
        · rename_i hlt
          split at hr
          · -- taken out of a box
            split at hr
            · rename_i cs' hd
              rw [hd] at hm
              simp only [memOf, Option.some.injEq] at hm
              subst hm
              simp only [Option.some.injEq] at hr
              subst hr
              rcases hh with ⟨⟨cs'', hd'⟩, hv⟩ | ⟨⟨sz, xs, hd'⟩, _⟩
              · obtain ⟨o1, os, o2, e1, g3, g4⟩ := h.slot_box hd hv
                obtain ⟨cv, p1, po, p2, q1, q2, q3, q4⟩ := g3.take hlt
                have hT := g4 (RepV w F ρ) (.box (upd cs' off .undef)) (blk :: (p1 ++ p2)) (fun _ _ _ r _ => r) (.box _ _ _ q4)
                refine ⟨cv, w, F, ρ, o1 ++ (blk :: (p1 ++ p2)) ++ o2, osH, po, .inl (run_load hop hx (run_loadVar_one hn q1)), Ext.refl h.fresh, fun _ _ x => x,
                  ⟨hT, h.heap, h.alias.view (fl := false) rfl (.inr ⟨fun _ => ⟨_, rfl⟩, fun ⟨sz, xs, hh⟩ => by rw [hd] at hh; cases hh⟩), .e _ _ _ q3.1, aliasV_of ?_, fun b => ?_, fun b hb => ?_, h.fresh, h.base⟩, fun b hb => .inl ?_⟩
                · cases hz : nth cs' off <;> first | rfl | (rw [hz] at q3; cases q3.1 with | d _ _ r => cases r)
                · have := h.once b
                  rw [e1, q2] at this
                  simp only [List.count_append, List.count_cons] at this ⊢
                  omega
                · refine h.inb b ?_
                  rw [e1, q2]
                  simp only [List.mem_append, List.mem_cons] at hb ⊢
                  rcases hb with (((((hb | hb | hb | hb) | hb) | hb) | hb)) | hb <;> simp [hb]
                · rw [e1, q2]
                  simp only [List.mem_append, List.mem_cons] at hb ⊢
                  rcases hb with ((((hb | hb | hb | hb) | hb) | hb)) | hb <;> simp [hb]
              · rw [hd] at hd'; cases hd'
            · cases hr
          · split at hr
            · rename_i ho
              simp only [Option.some.injEq] at hr
              subst hr
              exact ld_case (n := none) h hop hx hn (fun j hj => hcell _ hj) ⟨hlt, ho, rfl⟩
            · cases hr
        · cases hr
      | some m =>
        simp only at hr
        split at hr
        · rename_i hlt
          split at hr
          · rename_i ho
            simp only [Option.some.injEq] at hr
            subst hr
            exact ld_case (n := some m) h hop hx hn (fun j hj => hcell _ hj) ⟨hlt, ho, rfl⟩
          · cases hr
        · cases hr
  · rename_i id off hp
    obtain ⟨blk, hid, hx⟩ := h.place_obj hc hp
    have hidlt : hnth s.h id ≠ [] → id < s.h.length := fun hne => by
      rcases Nat.lt_or_ge id s.h.length with h' | h'
      · exact h'
      · exact absurd (hnth_out h') hne
    have hcell : ∀ j, j < (hnth s.h id).length → ∃ cv, w.cell? ⟨blk, j, none⟩ = some cv ∧ ((nth (hnth s.h id) j).one = true → RepD w F cv (nth (hnth s.h id) j)) := fun j hj => by
      obtain ⟨b', o1, ob, o2, g1, g2, g3, _⟩ := h.heap.at (hidlt (fun hh => by rw [hh] at hj; simp at hj))
      rw [hid] at g1
      simp only [Option.some.injEq] at g1
      subst g1
      exact g3.cell1 hj
    cases n with
    | none =>
      simp only at hr
      split at hr
      · rename_i hlt
        split at hr
        · simp only [Option.some.injEq] at hr
          subst hr
          obtain ⟨b', o1, ob, o2, g1, g2, g3, g4⟩ := h.heap.at (hidlt (fun hh => by rw [hh] at hlt; simp at hlt))
          rw [hid] at g1
          simp only [Option.some.injEq] at g1
          subst g1
          obtain ⟨cv, p1, po, p2, q1, q2, q3, q4⟩ := g3.take hlt
          have hH := g4 w F (upd (hnth s.h id) off .undef) (p1 ++ p2) (fun _ _ _ r _ => r) q4
          refine ⟨cv, w, F, ρ, osT, o1 ++ (blk :: (p1 ++ p2)) ++ o2, po, .inl (run_load hop hx (run_loadVar_one hn q1)), Ext.refl h.fresh, fun _ _ x => x,
            ⟨h.tmps, hH, h.alias, .e _ _ _ q3.1, aliasV_of ?_, fun b => ?_, fun b hb => ?_, h.fresh, h.base⟩, fun b hb => .inl ?_⟩
          · cases hz : nth (hnth s.h id) off <;> first | rfl | (rw [hz] at q3; cases q3.1 with | d _ _ r => cases r)
          · have := h.once b
            rw [g2, q2] at this
            simp only [List.count_append, List.count_cons] at this ⊢
            omega
          · refine h.inb b ?_
            rw [g2, q2]
            simp only [List.mem_append, List.mem_cons] at hb ⊢
            rcases hb with ((hb | ((hb | hb | hb | hb) | hb)) | hb) | hb <;> simp [hb]
          · rw [g2, q2]
            simp only [List.mem_append, List.mem_cons] at hb ⊢
            rcases hb with (hb | ((hb | hb | hb | hb) | hb)) | hb <;> simp [hb]
        · split at hr
          · rename_i ho
            simp only [Option.some.injEq] at hr
            subst hr
            exact ld_case (n := none) h hop hx hn (fun j hj => hcell _ hj) ⟨hlt, ho, rfl⟩
          · cases hr
      · cases hr
    | some m =>
      simp only at hr
      split at hr
      · rename_i hlt
        split at hr
        · rename_i ho
          simp only [Option.some.injEq] at hr
          subst hr
          exact ld_case (n := some m) h hop hx hn (fun j hj => hcell _ hj) ⟨hlt, ho, rfl⟩
        · cases hr
      · cases hr
  · rename_i cs hp
    obtain ⟨blk, off, cvf, hx, g1, g2, g3⟩ := rptr_inv (h.place_ro hc hp)
    cases n with
    | none =>
      simp only at hr
      split at hr
      · rename_i x0 cs'
        split at hr
        · simp only [Option.some.injEq] at hr
          subst hr
          have q := g2 0 (by simp)
          exact OpOK.data h (run_load hop hx (run_loadVar_one hn q)) (g3 0 (by simp)).1
        · cases hr
      · cases hr
    | some m =>
      simp only at hr
      split at hr
      · rename_i hl
        simp only [Option.some.injEq] at hr
        subst hr
        obtain ⟨cv, q1, q2⟩ := load_agg (w := w) (F := F) (P := P) (b := blk) (off := off) (ds := cs.take m) hn.1 hn.2 (by rw [List.length_take]; omega) (fun j hj => by
          rw [nth_take _ _ _ hj]
          exact ⟨cvf j, g2 j (by omega), g3 j (by omega)⟩)
        exact OpOK.data h (run_load hop hx q1) q2
      · cases hr
  · cases hr

/-! Stores. -/
theorem run_storeVar {t : TypeId} {b off : Nat} {cv : Value} (hs : szT P t = some cv.cells.size) (hc : ∀ j, j < cv.cells.size → (w.cell? ⟨b, off + j, none⟩).isSome = true) (hf : ∀ j, j < cv.cells.size → w.frozen? ⟨b, off + j, none⟩ = false)
    (h1 : ∀ v ∈ cv.cells.toList, v.oneCell' = true) : (storeVar t ⟨b, off, none⟩ cv).run P w = .ok () (w.setCells b off cv.cells.toList) := by
  have := run_storeCells_cells (P := P) b off cv.cells.toList 0 w (fun j hj => by simpa using hc j (by simpa using hj)) (fun j hj => by simpa using hf j (by simpa using hj)) h1
  simp only [Nat.add_zero] at this
  simp [storeVar, run_sizeOf hs, this]

theorem RepL.mem_imp {R : Value → V → List Nat → Prop} {cvs : List Value} {vs : List V} {os : List Nat} (r : RepL R cvs vs os) {p : Value → Prop} (h : ∀ cv v o, R cv v o → p cv) : ∀ cv ∈ cvs, p cv := by
  induction r with
  | nil => intro cv hm; cases hm
  | cons cv v cvs vs os os' a _ ih =>
    intro c hm
    cases hm with
    | head => exact h _ _ _ a
    | tail _ hm => exact ih c hm

/-- New cells in a variable of one's own, in the world behind the store. -/
theorem OwnCells.store {b off : Nat} {cs : List V} {os osW : List Nat} {vs : List Value} {ws : List V} (h : OwnCells w F b cs os) (hv : RepL (RepC w F) vs ws osW) (hl : off + ws.length ≤ cs.length)
    (hB : B ≤ b) (hf : ∀ b, w.heap.size ≤ b → F b = 0) (hos : b ∉ os) (hosW : b ∉ osW) :
    ∃ os', OwnCells (w.setCells b off vs) F b (overlay cs off ws) os' ∧ (∀ x, os'.count x ≤ os.count x + osW.count x) ∧ (∀ j, j < vs.length → (w.cell? ⟨b, off + j, none⟩).isSome = true) ∧ (∀ j, j < vs.length → w.frozen? ⟨b, off + j, none⟩ = false) := by
  obtain ⟨h0, cur, e, fr, h1, h2, h3⟩ := h
  obtain ⟨os', q1, q2⟩ := hv.overlay h3 hl
  have hsz : cur.size = cs.length := by simpa using h3.length
  have hvl := hv.length
  refine ⟨os', ⟨h0, setA cur off vs, e, fr, setCells_block vs off w cur e fr h1, fun o ho => ?_, ?_⟩, q2, fun j hj => ?_, fun j hj => ?_⟩
  · rw [setA_size] at ho
    rw [World.frozen?_setCells]
    exact h2 o ho
  · refine q1.imp fun cv v o r hm => r.ext (Ext.setCells (B := B) vs hB h0 hf) (fun x hx hxb => ?_)
    subst hxb
    have := q2 x
    have := List.count_pos_iff.2 (hm x hx)
    have := List.count_eq_zero.2 hos
    have := List.count_eq_zero.2 hosW
    omega
  · simp only [World.cell?, h1, Option.isSome_none, Bool.false_eq_true, if_false]
    simp [show off + j < cur.size by omega]
  · exact h2 _ (by omega)

theorem count_le_of {l m : List Nat} {b : Nat} (h : ∀ x, l.count x ≤ m.count x) (hb : b ∈ l) : b ∈ m :=
  List.count_pos_iff.1 (Nat.lt_of_lt_of_le (List.count_pos_iff.2 hb) (h b))

/-- A value is stored into a box. -/
theorem SimV.storeBox {t : List V} {hp : Heap} {cv : Value} {v : V} {osV : List Nat} (h : SimV B a.tmps.toList w F ρ t hp cv v rest osT osH osV) {d blk off : Nat} {cs : List V} (hd : nth t d = .box cs)
    (hcv : a.tmps.toList[d]? = some (.pointer (some ⟨blk, 0, none⟩))) (hcl : RepL (RepC w F) cv.cells.toList v.cells osV) (hl : off + v.cells.length ≤ cs.length) :
    ∃ osT', SimV B a.tmps.toList (w.setCells blk off cv.cells.toList) F ρ (upd t d (.box (overlay cs off v.cells))) hp undef (.tup []) rest osT' osH [] ∧ (∀ x, osT'.count x ≤ osT.count x + osV.count x) ∧
      Ext B w F (w.setCells blk off cv.cells.toList) F (fun b => b = blk) ∧ blk ∈ osT ∧
      (∀ j, j < cv.cells.toList.length → (w.cell? ⟨blk, off + j, none⟩).isSome = true) ∧ (∀ j, j < cv.cells.toList.length → w.frozen? ⟨blk, off + j, none⟩ = false) := by
  have hi : d < t.length := nth_lt (fun hh => by rw [hh] at hd; cases hd)
  obtain ⟨cv', o1, od, o2, g1, g2, g3, g4⟩ := h.tmps.at hi
  rw [g1] at hcv
  simp only [Option.some.injEq] at hcv
  subst hcv
  rw [hd] at g3
  cases g3 with
  | e _ _ _ g3 => cases g3 with | d _ _ g3 => cases g3
  | box _ _ os g3 =>
    have hbT : blk ∈ osT := by rw [g2]; simp
    have hinb := h.inb blk (by simp [hbT])
    have hone := h.once blk
    rw [g2] at hone
    simp only [List.count_append, List.count_cons_self] at hone
    have hos : blk ∉ os := fun hm => by have := List.count_pos_iff.2 hm; omega
    have hosV : blk ∉ osV := fun hm => by have := List.count_pos_iff.2 hm; omega
    have hE := Ext.setCells (B := B) (w := w) (F := F) (o := off) cv.cells.toList hinb.1 hinb.2.2 h.fresh
    obtain ⟨os', q1, q2, q3, q4⟩ := g3.store hcl hl hinb.1 h.fresh hos hosV
    have hT := g4 (RepV (w.setCells blk off cv.cells.toList) F ρ) (.pointer (some ⟨blk, 0, none⟩)) (.box (overlay cs off v.cells)) (blk :: os') (fun cv v o r hm => r.ext hE (fun _ _ x => x)
      (fun b hb => (h.inb b (by rw [g2]; have := hm b hb; simp only [List.mem_append] at this ⊢; rcases this with x | x <;> simp [x])).2.1)
      (fun b hb hbb => by
        subst hbb
        have := List.count_pos_iff.2 (hm b hb)
        simp only [List.count_append] at this
        omega)) (.box _ _ _ q1)
    rw [list_set_self g1] at hT
    have hcount : ∀ x, (o1 ++ (blk :: os') ++ o2).count x ≤ osT.count x + osV.count x := fun x => by
      have := q2 x
      rw [g2]
      simp only [List.count_append, List.count_cons] at this ⊢
      omega
    refine ⟨_, ⟨hT, h.heap.ext hE (fun b hb hbb => ?_), h.alias.view (fl := false) rfl (.inr ⟨fun _ => ⟨_, rfl⟩, fun ⟨sz, xs, hh⟩ => by rw [hd] at hh; cases hh⟩), .tup [] [] [] .nil, trivial, fun b => ?_, fun b hb => ?_, hE.fresh, Nat.le_trans h.base hE.size⟩, hcount, hE, hbT, q3, q4⟩
    · subst hbb
      have := List.count_pos_iff.2 hb
      omega
    · have a1 := h.once b
      have a2 := hcount b
      simp only [List.count_append, List.count_nil] at a1 a2 ⊢
      omega
    · have hmem : b ∈ osT ++ osH ++ osV ++ rest := by
        simp only [List.mem_append] at hb
        rcases hb with ((hb | hb) | hb) | hb
        · have := count_le_of (l := o1 ++ (blk :: os') ++ o2) (m := osT ++ osV) (b := b) (fun x => by have := hcount x; simp only [List.count_append] at this ⊢; omega) (by simp only [List.mem_append, List.mem_cons] at hb ⊢; rcases hb with (x | x | x) | x <;> simp [x])
          simp only [List.mem_append] at this ⊢
          rcases this with x | x <;> simp [x]
        · simp [hb]
        · cases hb
        · simp [hb]
      obtain ⟨b1, b2, b3⟩ := h.inb b hmem
      exact ⟨b1, Nat.lt_of_lt_of_le b2 hE.size, b3⟩

/-- A value is stored into an object. -/
theorem SimV.storeObj {t : List V} {hp : Heap} {cv : Value} {v : V} {osV : List Nat} (h : SimV B a.tmps.toList w F ρ t hp cv v rest osT osH osV) {id blk off : Nat} (hid : ρ[id]? = some blk) (hlt : id < hp.length)
    (hcl : RepL (RepC w F) cv.cells.toList v.cells osV) (hl : off + v.cells.length ≤ (hnth hp id).length) :
    ∃ osH', SimV B a.tmps.toList (w.setCells blk off cv.cells.toList) F ρ t (hupd hp id (overlay (hnth hp id) off v.cells)) undef (.tup []) rest osT osH' [] ∧ (∀ x, osH'.count x ≤ osH.count x + osV.count x) ∧
      Ext B w F (w.setCells blk off cv.cells.toList) F (fun b => b = blk) ∧ blk ∈ osH ∧
      (∀ j, j < cv.cells.toList.length → (w.cell? ⟨blk, off + j, none⟩).isSome = true) ∧ (∀ j, j < cv.cells.toList.length → w.frozen? ⟨blk, off + j, none⟩ = false) := by
  obtain ⟨b', o1, ob, o2, g1, g2, g3, g4⟩ := h.heap.at hlt
  rw [hid] at g1
  simp only [Option.some.injEq] at g1
  subst g1
  have hbH : blk ∈ osH := by rw [g2]; simp
  have hinb := h.inb blk (by simp [hbH])
  have hone := h.once blk
  rw [g2] at hone
  simp only [List.count_append, List.count_cons_self] at hone
  have hos : blk ∉ ob := fun hm => by have := List.count_pos_iff.2 hm; omega
  have hosV : blk ∉ osV := fun hm => by have := List.count_pos_iff.2 hm; omega
  have hE := Ext.setCells (B := B) (w := w) (F := F) (o := off) cv.cells.toList hinb.1 hinb.2.2 h.fresh
  obtain ⟨os', q1, q2, q3, q4⟩ := g3.store hcl hl hinb.1 h.fresh hos hosV
  have hH := g4 (w.setCells blk off cv.cells.toList) F _ os' (fun b' cs o r hm => r.ext hE (fun hbb => by
      subst hbb
      have := List.count_pos_iff.2 (hm b' (by simp))
      simp only [List.count_append] at this
      omega) (fun b hb hbb => by
      subst hbb
      have := List.count_pos_iff.2 (hm b (by simp [hb]))
      simp only [List.count_append] at this
      omega)) q1
  have hcount : ∀ x, (o1 ++ (blk :: os') ++ o2).count x ≤ osH.count x + osV.count x := fun x => by
    have := q2 x
    rw [g2]
    simp only [List.count_append, List.count_cons] at this ⊢
    omega
  refine ⟨_, ⟨h.tmps.ext hE (fun _ _ x => x) (fun b hb => (h.inb b (by simp [hb])).2.1) (fun b hb hbb => ?_), hH, h.alias, .tup [] [] [] .nil, trivial, fun b => ?_, fun b hb => ?_, hE.fresh, Nat.le_trans h.base hE.size⟩, hcount, hE, hbH, q3, q4⟩
  · subst hbb
    have := List.count_pos_iff.2 hb
    omega
  · have a1 := h.once b
    have a2 := hcount b
    simp only [List.count_append, List.count_nil] at a1 a2 ⊢
    omega
  · have hmem : b ∈ osT ++ osH ++ osV ++ rest := by
      simp only [List.mem_append] at hb
      rcases hb with ((hb | hb) | hb) | hb
      · simp [hb]
      · have := count_le_of (l := o1 ++ (blk :: os') ++ o2) (m := osH ++ osV) (b := b) (fun x => by have := hcount x; simp only [List.count_append] at this ⊢; omega) (by simp only [List.mem_append, List.mem_cons] at hb ⊢; rcases hb with (x | x | x) | x <;> simp [x])
        simp only [List.mem_append] at this ⊢
        rcases this with x | x <;> simp [x]
      · cases hb
      · simp [hb]
    obtain ⟨b1, b2, b3⟩ := h.inb b hmem
    exact ⟨b1, Nat.lt_of_lt_of_le b2 hE.size, b3⟩
end
end Go.Am
