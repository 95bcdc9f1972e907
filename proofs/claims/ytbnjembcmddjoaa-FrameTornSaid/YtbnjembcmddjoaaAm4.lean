/- What the abstract machine's values stand for in the model's memory. F: how many cells of each block never change again. -/
import Derived.Test.YtbnjembcmddjoaaAm2
import Derived.Below
import Derived.Calls
set_option linter.unusedVariables false
set_option linter.unusedSimpArgs false
namespace Go.Am
open Go Go.RowKit

theorem V.one_data {v : V} (h : v.one = true) : v.data = true := by cases v <;> first | rfl | cases h | (rename_i o _ _; cases o <;> first | rfl | cases h)
theorem V.one_cells {v : V} (h : v.one = true) : v.cells = [v] := by cases v <;> first | rfl | cases h

/-- Data: what lies in memory that no longer changes. -/
inductive RepD (w : World) (F : Nat → Nat) : Value → V → Prop
  | bool (b : Bool) : RepD w F (.bool b) (.bool b)
  | int (k : IntKind) (n : Int) : RepD w F (.int k n) (.int k n)
  | str (s : ByteArray) (l : List UInt8) : s.data.toList = l → RepD w F (.string s) (.str l)
  | slnil (p : Option Addr) (sz : Nat) : RepD w F (.slice p 0 0) (.sl false sz [])
  | sl (b off len cap sz : Nat) (xs : List V) (cvf : Nat → Nat → Value) : len = xs.length → len ≤ cap → off + xs.length * sz ≤ F b →
      (∀ i, i < xs.length → (nth xs i).cells.length = sz ∧ (nth xs i).data = true) →
      (∀ i j, i < xs.length → j < sz → w.cell? ⟨b, off + i * sz + j, none⟩ = some (cvf i j)) →
      (∀ i j, i < xs.length → j < sz → (nth (nth xs i).cells j).one = true) →
      (∀ i j, i < xs.length → j < sz → RepD w F (cvf i j) (nth (nth xs i).cells j)) → RepD w F (.slice (some ⟨b, off, none⟩) len cap) (.sl false sz xs)
  | agg (cvs : Array Value) (cs : List V) : cvs.size = cs.length → (∀ j, j < cs.length → (nth cs j).one = true) →
      (∀ j (h : j < cvs.size), RepD w F cvs[j] (nth cs j)) → RepD w F (.agg cvs) (.agg cs)
  | ifc (t : TypeId) (cv : Value) (v : V) : RepD w F cv v → RepD w F (.iface t cv) (.ifc t v)
  | nilIfc : RepD w F .nilIface .nilIfc

theorem RepD.data {w : World} {F : Nat → Nat} {cv : Value} {v : V} (h : RepD w F cv v) : v.data = true := by cases h <;> rfl

theorem RepD.oneCell {w : World} {F : Nat → Nat} {cv : Value} {v : V} (h : RepD w F cv v) (h1 : v.one = true) : cv.oneCell' = true := by
  cases h <;> first | rfl | cases h1

theorem RepD.cells_one {w : World} {F : Nat → Nat} {cv : Value} {v : V} (h : RepD w F cv v) (h1 : v.one = true) : cv.cells = #[cv] := by
  cases h <;> first | rfl | cases h1

theorem RepD.mono {w w' : World} {F F' : Nat → Nat} (hc : ∀ b o, o < F b → w'.cell? ⟨b, o, none⟩ = w.cell? ⟨b, o, none⟩) (hF : ∀ b, F b ≤ F' b) {cv : Value} {v : V}
    (h : RepD w F cv v) : RepD w' F' cv v := by
  induction h with
  | bool b => exact .bool b
  | int k n => exact .int k n
  | str s l h => exact .str s l h
  | slnil p sz => exact .slnil p sz
  | sl b off len cap sz xs cvf h1 h2 h3 h4 h5 h6 _ ih =>
    refine .sl b off len cap sz xs cvf h1 h2 (Nat.le_trans h3 (hF b)) h4 (fun i j hi hj => ?_) h6 ih
    rw [hc b _ ?_]
    · exact h5 i j hi hj
    · have : i * sz + sz ≤ xs.length * sz := by
        have := Nat.mul_le_mul_right sz (Nat.succ_le_of_lt hi)
        rw [Nat.succ_mul] at this
        exact this
      omega
  | agg cvs cs h1 h2 _ ih => exact .agg cvs cs h1 h2 ih
  | ifc t cv v _ ih => exact .ifc t cv v ih
  | nilIfc => exact .nilIfc

/-- An own slice: nobody else sees its block. -/
structure OwnSl (w : World) (F : Nat → Nat) (b len cap sz : Nat) (xs : List V) : Prop where
  hlen : len = xs.length
  hcap : len ≤ cap
  zero : F b = 0
  block : ∃ cur e fr, w.heap[b]? = some (.cells cur e fr) ∧ cap * sz ≤ cur.size ∧ (∀ o, o < cur.size → w.frozen? ⟨b, o, none⟩ = false)
  elem : ∀ i, i < xs.length → (nth xs i).cells.length = sz ∧ (nth xs i).data = true
  cell : ∀ i j, i < xs.length → j < sz → ∃ cv, w.cell? ⟨b, i * sz + j, none⟩ = some cv ∧ RepD w F cv (nth (nth xs i).cells j) ∧ (nth (nth xs i).cells j).one = true

/-- A part of a result, of a variable: with the blocks that it owns. -/
inductive RepE (w : World) (F : Nat → Nat) : Value → V → List Nat → Prop
  | d (cv : Value) (v : V) : RepD w F cv v → RepE w F cv v []
  | undef (cv : Value) : RepE w F cv .undef []
  | ownnil (sz : Nat) : RepE w F (.slice none 0 0) (.sl true sz []) []
  | own (b len cap sz : Nat) (xs : List V) : OwnSl w F b len cap sz xs → RepE w F (.slice (some ⟨b, 0, none⟩) len cap) (.sl true sz xs) [b]

inductive RepL (R : Value → V → List Nat → Prop) : List Value → List V → List Nat → Prop
  | nil : RepL R [] [] []
  | cons (cv : Value) (v : V) (cvs : List Value) (vs : List V) (os os' : List Nat) : R cv v os → RepL R cvs vs os' → RepL R (cv :: cvs) (v :: vs) (os ++ os')

def RepC (w : World) (F : Nat → Nat) (cv : Value) (v : V) (os : List Nat) : Prop := RepE w F cv v os ∧ cv.oneCell' = true ∧ (v.data = true → v.one = true)

/-- A block that is a variable of its own. -/
def OwnCells (w : World) (F : Nat → Nat) (b : Nat) (cs : List V) (os : List Nat) : Prop :=
  F b = 0 ∧ ∃ cur e fr, w.heap[b]? = some (.cells cur e fr) ∧ (∀ o, o < cur.size → w.frozen? ⟨b, o, none⟩ = false) ∧ RepL (RepC w F) cur.toList cs os

inductive RepV (w : World) (F : Nat → Nat) (ρ : List Nat) : Value → V → List Nat → Prop
  | e (cv : Value) (v : V) (os : List Nat) : RepE w F cv v os → RepV w F ρ cv v os
  | tup (cvs : List Value) (vs : List V) (os : List Nat) : RepL (RepE w F) cvs vs os → RepV w F ρ (.tuple cvs.toArray) (.tup vs) os
  | ptr (id off b : Nat) : ρ[id]? = some b → RepV w F ρ (.pointer (some ⟨b, off, none⟩)) (.ptr id off) []
  | rptr (b off : Nat) (cs : List V) (cvf : Nat → Value) : off + cs.length ≤ F b → (∀ j, j < cs.length → w.cell? ⟨b, off + j, none⟩ = some (cvf j)) →
      (∀ j, j < cs.length → RepD w F (cvf j) (nth cs j) ∧ (nth cs j).one = true) → RepV w F ρ (.pointer (some ⟨b, off, none⟩)) (.rptr cs) []
  | box (b : Nat) (cs : List V) (os : List Nat) : OwnCells w F b cs os → RepV w F ρ (.pointer (some ⟨b, 0, none⟩)) (.box cs) (b :: os)
  | bref (cv : Value) (d off : Nat) : RepV w F ρ cv (.bref d off) []
  | al (cv : Value) (d : Nat) : RepV w F ρ cv (.al d) []
  | fn (f : FuncId) (cvs : Array Value) (caps : List V) : cvs.size = caps.length →
      (∀ j, j < caps.length → ∃ id o b, nth caps j = .ptr id o ∧ ρ[id]? = some b ∧ cvs[j]? = some (.pointer (some ⟨b, o, none⟩))) → RepV w F ρ (.func (.func f) #[] cvs) (.fn f caps) []
  | iter (b : Nat) (s : ByteArray) (l : List UInt8) (pos : Nat) : F b = 0 → s.data.toList = l → w.heap[b]? = some (.stringIter s pos) → RepV w F ρ (.pointer (some ⟨b, 0, none⟩)) (.iter l pos) [b]

inductive RepH (w : World) (F : Nat → Nat) : List Nat → Heap → List Nat → Prop
  | nil : RepH w F [] [] []
  | cons (b : Nat) (cs : List V) (ρ : List Nat) (h : Heap) (os os' : List Nat) : OwnCells w F b cs os → RepH w F ρ h os' → RepH w F (b :: ρ) (cs :: h) (b :: os ++ os')

/-- The world goes on: nothing below B turns, no fixed cell turns, and of the blocks that were there only those of T. -/
structure Ext (B : Nat) (w : World) (F : Nat → Nat) (w' : World) (F' : Nat → Nat) (T : Nat → Prop) : Prop where
  below : Below B w w'
  size : w.heap.size ≤ w'.heap.size
  cell : ∀ b o, o < F b → w'.cell? ⟨b, o, none⟩ = w.cell? ⟨b, o, none⟩
  mono : ∀ b, F b ≤ F' b
  keep : ∀ b, ¬ T b → b < w.heap.size → w'.heap[b]? = w.heap[b]? ∧ F' b = F b
  fresh : ∀ b, w'.heap.size ≤ b → F' b = 0

theorem Ext.refl {B : Nat} {w : World} {F : Nat → Nat} {T : Nat → Prop} (hf : ∀ b, w.heap.size ≤ b → F b = 0) : Ext B w F w F T :=
  ⟨Below.refl _ _, Nat.le_refl _, fun _ _ _ => rfl, fun _ => Nat.le_refl _, fun _ _ _ => ⟨rfl, rfl⟩, hf⟩

theorem Ext.trans {B : Nat} {w w1 w2 : World} {F F1 F2 : Nat → Nat} {T T' : Nat → Prop} (h : Ext B w F w1 F1 T) (h' : Ext B w1 F1 w2 F2 T') :
    Ext B w F w2 F2 (fun b => T b ∨ T' b) :=
  ⟨h.below.trans h'.below, Nat.le_trans h.size h'.size, fun b o ho => (h'.cell b o (Nat.lt_of_lt_of_le ho (h.mono b))).trans (h.cell b o ho), fun b => Nat.le_trans (h.mono b) (h'.mono b),
   fun b hb hs => by
     have h1 := h.keep b (fun t => hb (.inl t)) hs
     have h2 := h'.keep b (fun t => hb (.inr t)) (Nat.lt_of_lt_of_le hs h.size)
     exact ⟨h2.1.trans h1.1, h2.2.trans h1.2⟩, h'.fresh⟩

theorem Ext.weaken {B : Nat} {w w' : World} {F F' : Nat → Nat} {T T' : Nat → Prop} (h : Ext B w F w' F' T) (ht : ∀ b, b < w.heap.size → T b → T' b) : Ext B w F w' F' T' :=
  ⟨h.below, h.size, h.cell, h.mono, fun b hb hs => h.keep b (fun t => hb (ht b hs t)) hs, h.fresh⟩

section
variable {B : Nat} {w w' : World} {F F' : Nat → Nat} {T : Nat → Prop}

theorem RepD.ext (h : Ext B w F w' F' T) {cv : Value} {v : V} (r : RepD w F cv v) : RepD w' F' cv v := r.mono h.cell h.mono

theorem cell_of_block {b o : Nat} (h : w'.heap[b]? = w.heap[b]?) : w'.cell? ⟨b, o, none⟩ = w.cell? ⟨b, o, none⟩ := by simp [World.cell?, h]
theorem frozen_of_block {b o : Nat} (h : w'.heap[b]? = w.heap[b]?) : w'.frozen? ⟨b, o, none⟩ = w.frozen? ⟨b, o, none⟩ := by simp [World.frozen?, h]

theorem OwnSl.lt {b len cap sz : Nat} {xs : List V} (r : OwnSl w F b len cap sz xs) : b < w.heap.size := by
  obtain ⟨cur, e, fr, h, _⟩ := r.block
  exact (Array.getElem?_eq_some_iff.1 h).1

theorem OwnSl.ext (h : Ext B w F w' F' T) {b len cap sz : Nat} {xs : List V} (r : OwnSl w F b len cap sz xs) (hb : ¬ T b) : OwnSl w' F' b len cap sz xs := by
  obtain ⟨h1, h2⟩ := h.keep b hb r.lt
  refine ⟨r.hlen, r.hcap, h2.trans r.zero, ?_, r.elem, fun i j hi hj => ?_⟩
  · obtain ⟨cur, e, fr, a1, a2, a3⟩ := r.block
    exact ⟨cur, e, fr, h1.trans a1, a2, fun o ho => (frozen_of_block h1).trans (a3 o ho)⟩
  · obtain ⟨cv, c1, c2, c3⟩ := r.cell i j hi hj
    exact ⟨cv, (cell_of_block h1).trans c1, c2.ext h, c3⟩

theorem RepE.ext (h : Ext B w F w' F' T) {cv : Value} {v : V} {os : List Nat} (r : RepE w F cv v os) (hb : ∀ b ∈ os, ¬ T b) : RepE w' F' cv v os := by
  cases r with
  | d _ _ r => exact .d _ _ (r.ext h)
  | undef => exact .undef _
  | ownnil sz => exact .ownnil sz
  | own b len cap sz xs r => exact .own b len cap sz xs (r.ext h (hb b (List.mem_singleton.2 rfl)))

theorem RepL.imp {R R' : Value → V → List Nat → Prop} {cvs : List Value} {vs : List V} {os : List Nat} (r : RepL R cvs vs os)
    (h : ∀ cv v os', R cv v os' → (∀ b ∈ os', b ∈ os) → R' cv v os') : RepL R' cvs vs os := by
  induction r with
  | nil => exact .nil
  | cons cv v cvs vs os os' a _ ih =>
    exact .cons _ _ _ _ _ _ (h _ _ _ a (fun b hb => List.mem_append_left _ hb)) (ih fun cv v o r hb => h _ _ _ r (fun b hbb => List.mem_append_right _ (hb b hbb)))

theorem RepC.ext (h : Ext B w F w' F' T) {cv : Value} {v : V} {os : List Nat} (r : RepC w F cv v os) (hb : ∀ b ∈ os, ¬ T b) : RepC w' F' cv v os := ⟨r.1.ext h hb, r.2⟩

theorem OwnCells.lt {b : Nat} {cs : List V} {os : List Nat} (r : OwnCells w F b cs os) : b < w.heap.size := by
  obtain ⟨_, cur, e, fr, h, _⟩ := r
  exact (Array.getElem?_eq_some_iff.1 h).1

theorem OwnCells.ext (h : Ext B w F w' F' T) {b : Nat} {cs : List V} {os : List Nat} (r : OwnCells w F b cs os) (hb : ¬ T b) (ho : ∀ b ∈ os, ¬ T b) : OwnCells w' F' b cs os := by
  obtain ⟨h1, h2⟩ := h.keep b hb r.lt
  obtain ⟨z, cur, e, fr, a1, a2, a3⟩ := r
  exact ⟨h2.trans z, cur, e, fr, h1.trans a1, fun o ho => (frozen_of_block h1).trans (a2 o ho), a3.imp fun cv v os' r hm => r.ext h fun b hb => ho b (hm b hb)⟩

theorem RepV.ext (h : Ext B w F w' F' T) {ρ ρ' : List Nat} (hρ : ∀ (id b : Nat), ρ[id]? = some b → ρ'[id]? = some b) {cv : Value} {v : V} {os : List Nat} (r : RepV w F ρ cv v os)
    (hs : ∀ b ∈ os, b < w.heap.size) (hb : ∀ b ∈ os, ¬ T b) : RepV w' F' ρ' cv v os := by
  cases r with
  | e _ _ _ r => exact .e _ _ _ (r.ext h hb)
  | tup cvs vs os r => exact .tup _ _ _ (r.imp fun cv v os' r hm => r.ext h fun b hbb => hb b (hm b hbb))
  | ptr id off b r => exact .ptr id off b (hρ _ _ r)
  | rptr b off cs cvf r1 r2 r3 =>
    refine .rptr b off cs cvf (Nat.le_trans r1 (h.mono b)) (fun j hj => ?_) (fun j hj => ⟨(r3 j hj).1.ext h, (r3 j hj).2⟩)
    rw [h.cell b _ (by omega)]
    exact r2 j hj
  | box b cs os r => exact .box b cs os (r.ext h (hb b (List.mem_cons_self ..)) fun b hbb => hb b (List.mem_cons_of_mem _ hbb))
  | bref => exact .bref _ _ _
  | al => exact .al _ _
  | fn f cvs caps r1 r2 =>
    refine .fn f cvs caps r1 fun j hj => ?_
    obtain ⟨id, o, b, a1, a2, a3⟩ := r2 j hj
    exact ⟨id, o, b, a1, hρ _ _ a2, a3⟩
  | iter b s l pos r1 r2 r3 =>
    obtain ⟨h1, h2⟩ := h.keep b (hb b (List.mem_singleton.2 rfl)) (hs b (List.mem_singleton.2 rfl))
    exact .iter b s l pos (h2.trans r1) r2 (h1.trans r3)

theorem RepH.ext (h : Ext B w F w' F' T) {ρ : List Nat} {hp : Heap} {os : List Nat} (r : RepH w F ρ hp os) (hb : ∀ b ∈ os, ¬ T b) : RepH w' F' ρ hp os := by
  induction r with
  | nil => exact .nil
  | cons b cs ρ hp os os' a _ ih =>
    refine .cons _ _ _ _ _ _ (a.ext h (hb b (by simp)) fun c hc => hb c (by simp [hc])) (ih fun c hc => hb c (by simp [hc]))

theorem RepL.ext (h : Ext B w F w' F' T) {ρ ρ' : List Nat} (hρ : ∀ (id b : Nat), ρ[id]? = some b → ρ'[id]? = some b) {cvs : List Value} {vs : List V} {os : List Nat}
    (r : RepL (RepV w F ρ) cvs vs os) (hs : ∀ b ∈ os, b < w.heap.size) (hb : ∀ b ∈ os, ¬ T b) : RepL (RepV w' F' ρ') cvs vs os :=
  r.imp fun cv v os' r hm => r.ext h hρ (fun b hbb => hs b (hm b hbb)) (fun b hbb => hb b (hm b hbb))
end

/-! Lists of slots. -/
section
variable {R : Value → V → List Nat → Prop}

theorem RepL.length {cvs : List Value} {vs : List V} {os : List Nat} (r : RepL R cvs vs os) : cvs.length = vs.length := by
  induction r with
  | nil => rfl
  | cons cv v cvs vs os os' _ _ ih => simp [ih]

theorem nth_lt {vs : List V} {d : Nat} (h : nth vs d ≠ .undef) : d < vs.length := by
  induction vs generalizing d with
  | nil => simp [nth] at h
  | cons v vs ih =>
    cases d with
    | zero => simp
    | succ d => simp only [nth] at h; simp only [List.length_cons]; have := ih h; omega

theorem nth_out {vs : List V} {d : Nat} (h : vs.length ≤ d) : nth vs d = .undef := by
  induction vs generalizing d with
  | nil => rfl
  | cons v vs ih =>
    cases d with
    | zero => simp at h
    | succ d => exact ih (by simpa using h)

theorem upd_length (vs : List V) (d : Nat) (v : V) : (upd vs d v).length = vs.length := by
  induction vs generalizing d with
  | nil => rfl
  | cons x vs ih => cases d <;> simp [upd, ih]

theorem nth_upd_self {vs : List V} {d : Nat} (h : d < vs.length) (v : V) : nth (upd vs d v) d = v := by
  induction vs generalizing d with
  | nil => simp at h
  | cons x vs ih =>
    cases d with
    | zero => rfl
    | succ d => exact ih (by simpa using h)

theorem nth_upd_ne {vs : List V} {d e : Nat} (h : d ≠ e) (v : V) : nth (upd vs d v) e = nth vs e := by
  induction vs generalizing d e with
  | nil => rfl
  | cons x vs ih =>
    cases d with
    | zero => cases e with
      | zero => exact absurd rfl h
      | succ e => rfl
    | succ d => cases e with
      | zero => rfl
      | succ e => exact ih (by omega)

theorem nth_eq_getElem {vs : List V} {d : Nat} (h : d < vs.length) : nth vs d = vs[d] := by
  induction vs generalizing d with
  | nil => simp at h
  | cons x vs ih =>
    cases d with
    | zero => rfl
    | succ d => exact ih (by simpa using h)

/-- One slot taken out of a list of slots: what it stands for, and how another is laid in its place. -/
theorem RepL.at {cvs : List Value} {vs : List V} {os : List Nat} (r : RepL R cvs vs os) {d : Nat} (hd : d < vs.length) :
    ∃ cv os1 osd os2, cvs[d]? = some cv ∧ os = os1 ++ osd ++ os2 ∧ R cv (nth vs d) osd ∧
      ∀ (R' : Value → V → List Nat → Prop) cv' v' os', (∀ cv v o, R cv v o → (∀ b ∈ o, b ∈ os1 ++ os2) → R' cv v o) → R' cv' v' os' →
        RepL R' (cvs.set d cv') (upd vs d v') (os1 ++ os' ++ os2) := by
  induction r generalizing d with
  | nil => simp at hd
  | cons cv v cvs vs os os' a r ih =>
    cases d with
    | zero =>
      refine ⟨cv, [], os, os', rfl, rfl, a, fun R' cv' v' o hR h => ?_⟩
      exact .cons _ _ _ _ _ _ h (r.imp fun cv v o ro hb => hR _ _ _ ro (by simpa using hb))
    | succ d =>
      obtain ⟨c, o1, od, o2, h1, h2, h3, h4⟩ := ih (d := d) (by simpa using hd)
      refine ⟨c, os ++ o1, od, o2, h1, by rw [h2]; simp, h3, fun R' cv' v' o hR h => ?_⟩
      have := h4 R' cv' v' o (fun cv v o ro hb => hR _ _ _ ro (fun b hbb => by have := hb b hbb; simp at this ⊢; rcases this with h | h <;> simp [h])) h
      have h5 := RepL.cons (R := R') cv v _ _ os _ (hR _ _ _ a (fun b hb => by simp [hb])) this
      simpa [upd] using h5

theorem RepL.get {cvs : List Value} {vs : List V} {os : List Nat} (r : RepL R cvs vs os) {d : Nat} (hd : d < vs.length) :
    ∃ cv osd, cvs[d]? = some cv ∧ R cv (nth vs d) osd ∧ ∀ b ∈ osd, b ∈ os := by
  obtain ⟨cv, o1, od, o2, h1, h2, h3, _⟩ := r.at hd
  exact ⟨cv, od, h1, h3, fun b hb => by rw [h2]; simp [hb]⟩

theorem list_set_self {cvs : List Value} {d : Nat} {cv : Value} (h : cvs[d]? = some cv) : cvs.set d cv = cvs := by
  apply List.ext_getElem?
  intro i
  rw [List.getElem?_set]
  split
  · rename_i hd
    subst hd
    split
    · exact h.symm
    · rename_i hl; rw [List.getElem?_eq_none (by omega)] at h; cases h
  · rfl

theorem RepL.map_killb {cvs : List Value} {vs : List V} {os : List Nat} {w : World} {F : Nat → Nat} {ρ : List Nat} (d : Nat) (r : RepL (RepV w F ρ) cvs vs os) :
    RepL (RepV w F ρ) cvs (vs.map (V.killb d)) os := by
  induction r with
  | nil => exact .nil
  | cons cv v cvs vs os os' a _ ih =>
    refine .cons _ _ _ _ _ _ ?_ ih
    unfold V.killb
    split
    · split
      · cases a with
        | e _ _ _ r => cases r with | d _ _ r => cases r
        | bref => exact .e _ _ _ (.undef _)
      · exact a
    · split
      · cases a with
        | e _ _ _ r => cases r with | d _ _ r => cases r
        | al => exact .e _ _ _ (.undef _)
      · exact a
    · exact a
end

theorem nth_map_killb (vs : List V) (d e : Nat) : nth (vs.map (V.killb d)) e = (nth vs e).killb d := by
  induction vs generalizing e with
  | nil => rfl
  | cons v vs ih =>
    cases e with
    | zero => rfl
    | succ e => exact ih e

/-- What refers to a slot refers to what lies there. -/
def AliasV (cvs : List Value) (vs : List V) (cv : Value) : V → Prop
  | .bref d o => ∃ b, cv = .pointer (some ⟨b, o, none⟩) ∧ (((∃ cs, nth vs d = .box cs) ∧ cvs[d]? = some (.pointer (some ⟨b, 0, none⟩))) ∨
      ((∃ sz xs, nth vs d = .sl true sz xs) ∧ ∃ len cap, cvs[d]? = some (.slice (some ⟨b, 0, none⟩) len cap)))
  | .al d => (nth vs d).owner = true ∧ cvs[d]? = some cv
  | _ => True

def AliasOK (cvs : List Value) (vs : List V) : Prop := ∀ (t : Nat) (cv : Value), cvs[t]? = some cv → AliasV cvs vs cv (nth vs t)

/-- The state of a frame: a: the model's, s: the abstract one. rest: blocks that others own. -/
structure Sim (B : Nat) (cvs : List Value) (w : World) (F : Nat → Nat) (ρ : List Nat) (s : St) (rest osT osH : List Nat) : Prop where
  tmps : RepL (RepV w F ρ) cvs s.t osT
  heap : RepH w F ρ s.h osH
  alias : AliasOK cvs s.t
  once : ∀ b, (osT ++ osH ++ rest).count b ≤ 1
  inb : ∀ b ∈ osT ++ osH ++ rest, B ≤ b ∧ b < w.heap.size ∧ F b = 0
  fresh : ∀ b, w.heap.size ≤ b → F b = 0
  base : B ≤ w.heap.size

end Go.Am
