/- Values that are shared from here on: own memory becomes memory that no longer changes. Copies; slices of an array. -/
import Derived.Test.YtbnjembcmddjoaaAm16
set_option linter.unusedVariables false
set_option linter.unusedSimpArgs false
namespace Go.Am
open Go Go.RowKit

/-- What is to be shown of a mere change of view. -/
def PsOK (cvs : List Value) (B : Nat) (w : World) (F : Nat → Nat) (ρ : List Nat) (s : St) (rest osT osH : List Nat) (t' : List V) (h' : Heap) : Prop :=
  ∃ F' osT' osH', Ext B w F w F' (fun b => b ∈ osT ++ osH) ∧ Sim B cvs w F' ρ ⟨t', h'⟩ rest osT' osH' ∧ ∀ b ∈ osT' ++ osH', b ∈ osT ++ osH

section
variable {P : Program} {a : Act} {o : Oper} {B : Nat} {w w' : World} {F F' : Nat → Nat} {ρ : List Nat} {s : St} {rest osT osH : List Nat} {c : CallF} {r : Rs} {cvs : List Value}

theorem Ext.freeze {b k : Nat} (h0 : F b = 0) (hb : b < w.heap.size) (hf : ∀ b, w.heap.size ≤ b → F b = 0) : Ext B w F w (setF F b k) (fun x => x = b) := by
  refine ⟨Below.refl _ _, Nat.le_refl _, fun _ _ _ => rfl, fun x => ?_, fun x hx _ => ⟨rfl, setF_ne F hx⟩, fun x hx => ?_⟩
  · by_cases h : x = b
    · subst h; rw [h0]; exact Nat.zero_le _
    · rw [setF_ne F h]; exact Nat.le_refl _
  · rw [setF_ne F (by omega)]; exact hf x hx

/-- One slot's view and memory change; the rest stays. -/
theorem Sim.slotChange (h : Sim B cvs w F ρ s rest osT osH) {d : Nat} {v' : V} {fl : Bool} {os' : List Nat} {cv : Value} {o1 od o2 : List Nat} (g1 : cvs[d]? = some cv) (g2 : osT = o1 ++ od ++ o2)
    (g4 : ∀ (R' : Value → V → List Nat → Prop) cv' v' os', (∀ cv v o, RepV w F ρ cv v o → (∀ b ∈ o, b ∈ o1 ++ o2) → R' cv v o) → R' cv' v' os' → RepL R' (cvs.set d cv') (upd s.t d v') (o1 ++ os' ++ o2))
    (e : Ext B w F w' F' (fun b => b ∈ od)) (hv : RepV w' F' ρ cv v' os') (hsub : ∀ b, os'.count b ≤ od.count b) (hz : ∀ b ∈ os', F' b = 0) (hal : isAl v' = false)
    (hk : fl = true ∨ (((∃ cs, nth s.t d = .box cs) → ∃ cs, v' = .box cs) ∧ ((∃ sz xs, nth s.t d = .sl true sz xs) → ∃ sz xs, v' = .sl true sz xs))) :
    Sim B cvs w' F' ρ ⟨ups1 s.t (d, v', fl), s.h⟩ rest (o1 ++ os' ++ o2) osH ∧ Ext B w F w' F' (fun b => b ∈ osT ++ osH) ∧ ∀ b ∈ (o1 ++ os' ++ o2) ++ osH, b ∈ osT ++ osH := by
  have hcount : ∀ b, (o1 ++ od ++ o2).count b + osH.count b + rest.count b ≤ 1 := fun b => by
    have := h.once b
    rw [g2] at this
    simp only [List.count_append] at this ⊢
    omega
  have hmem : ∀ b, b ∈ os' → b ∈ od := fun b hb => List.count_pos_iff.1 (Nat.lt_of_lt_of_le (List.count_pos_iff.2 hb) (hsub b))
  have hdis : ∀ b, b ∈ o1 ++ o2 ++ osH ++ rest → b ∉ od := fun b hb hbd => by
    have h1 := hcount b
    have h2 := List.count_pos_iff.2 hb
    have h3 := List.count_pos_iff.2 hbd
    simp only [List.count_append] at h1 h2
    omega
  have hT := g4 (RepV w' F' ρ) cv v' os' (fun cv v o r hm => r.ext e (fun _ _ x => x) (fun b hb => (h.inb b (by rw [g2]; have := hm b hb; simp only [List.mem_append] at this ⊢; rcases this with y | y <;> simp [y])).2.1)
    (fun b hb => hdis b (by have := hm b hb; simp only [List.mem_append] at this ⊢; rcases this with y | y <;> simp [y]))) hv
  refine ⟨⟨RepL.view hal g1 hT, h.heap.ext e (fun b hb => hdis b (by simp [hb])), h.alias.view hal hk, fun b => ?_, fun b hb => ?_, e.fresh, Nat.le_trans h.base e.size⟩, e.weaken (fun b _ hb => by rw [g2]; simp [hb]), fun b hb => ?_⟩
  · have h1 := hcount b
    have h2 := hsub b
    simp only [List.count_append] at h1 ⊢
    omega
  · simp only [List.mem_append] at hb
    have old : b ∈ o1 ++ o2 ++ osH ++ rest → B ≤ b ∧ b < w'.heap.size ∧ F' b = 0 := fun hm => by
      obtain ⟨b1, b2, b3⟩ := h.inb b (by rw [g2]; simp only [List.mem_append] at hm ⊢; rcases hm with ((y | y) | y) | y <;> simp [y])
      exact ⟨b1, Nat.lt_of_lt_of_le b2 e.size, ((e.keep b (hdis b hm) b2).2).trans b3⟩
    rcases hb with ((((hb | hb) | hb)) | hb) | hb
    · exact old (by simp [hb])
    · obtain ⟨b1, b2, _⟩ := h.inb b (by rw [g2]; simp [hmem b hb])
      exact ⟨b1, Nat.lt_of_lt_of_le b2 e.size, hz b hb⟩
    · exact old (by simp [hb])
    · exact old (by simp [hb])
    · exact old (by simp [hb])
  · rw [g2]
    simp only [List.mem_append] at hb ⊢
    rcases hb with ((hb | hb) | hb) | hb
    · simp [hb]
    · simp [hmem b hb]
    · simp [hb]
    · simp [hb]

theorem OwnSl.share {b len cap sz : Nat} {xs : List V} (h : OwnSl w F b len cap sz xs) (hf : ∀ b, w.heap.size ≤ b → F b = 0) : RepD w (setF F b (xs.length * sz)) (.slice (some ⟨b, 0, none⟩) len cap) (.sl false sz xs) := by
  have hE := Ext.freeze (B := 0) (k := xs.length * sz) h.zero h.lt hf
  refine .sl b 0 len cap sz xs (fun i j => (w.cell? ⟨b, i * sz + j, none⟩).getD undef) h.hlen h.hcap (by rw [setF_self]; omega) h.elem (fun i j hi hj => ?_) (fun i j hi hj => ?_) (fun i j hi hj => ?_)
  · obtain ⟨cv, c1, _, _⟩ := h.cell i j hi hj
    simp [c1]
  · obtain ⟨cv, _, _, c3⟩ := h.cell i j hi hj
    exact c3
  · obtain ⟨cv, c1, c2, _⟩ := h.cell i j hi hj
    simp only [c1, Option.getD_some]
    exact c2.ext hE

theorem RepE.share {cv : Value} {v : V} {os : List Nat} (h : RepE w F cv v os) (hB : ∀ b ∈ os, F b = 0 ∧ b < w.heap.size) (hf : ∀ b, w.heap.size ≤ b → F b = 0) : ∃ F', Ext B w F w F' (fun b => b ∈ os) ∧ RepE w F' cv v.sh [] := by
  cases h with
  | d _ _ h =>
    refine ⟨F, Ext.refl hf, ?_⟩
    have : v.sh = v := by cases h <;> rfl
    rw [this]
    exact .d _ _ h
  | undef => exact ⟨F, Ext.refl hf, .undef _⟩
  | ownnil sz => exact ⟨F, Ext.refl hf, .d _ _ (.slnil none sz)⟩
  | own b len cap sz xs h =>
    exact ⟨_, (Ext.freeze (B := B) h.zero h.lt hf).weaken (fun x _ hx => by subst hx; simp), .d _ _ (h.share hf)⟩

theorem RepL.share {cvs : List Value} {cs : List V} {os : List Nat} (h : RepL (RepC w F) cvs cs os) : (∀ b, os.count b ≤ 1) → (∀ b ∈ os, F b = 0 ∧ b < w.heap.size) → (∀ b, w.heap.size ≤ b → F b = 0) →
    ∃ F', Ext B w F w F' (fun b => b ∈ os) ∧ RepL (RepC w F') cvs (cs.map V.sh) [] := by
  intro h1 hB hf
  generalize hG : F = G at h
  induction h generalizing F with
  | nil => subst hG; exact ⟨F, Ext.refl hf, .nil⟩
  | cons cv v cvs vs os os' a r ih =>
    subst hG
    obtain ⟨F1, e1, r1⟩ := a.1.share (B := B) (fun b hb => hB b (by simp [hb])) hf
    have hdis : ∀ b ∈ os', b ∉ os := fun b hb hbd => by
      have := h1 b
      have h2 := List.count_pos_iff.2 hb
      have h3 := List.count_pos_iff.2 hbd
      simp only [List.count_append] at this
      omega
    obtain ⟨F2, e2, r2⟩ := ih (F := F) (fun b => by have := h1 b; simp only [List.count_append] at this; omega) (fun b hb => hB b (by simp [hb])) hf rfl
    refine ⟨fun b => if b ∈ os then F1 b else F2 b, ?_, ?_⟩
    · refine ⟨Below.refl _ _, Nat.le_refl _, fun _ _ _ => rfl, fun b => ?_, fun b hb hs => ⟨rfl, ?_⟩, fun b hb => ?_⟩
      · by_cases hbo : b ∈ os
        · simp only [hbo, if_true]; exact e1.mono b
        · simp only [hbo, if_false]; exact e2.mono b
      · simp only [List.mem_append, not_or] at hb
        simp only [hb.1, if_false]
        exact (e2.keep b hb.2 hs).2
      · by_cases hbo : b ∈ os
        · simp only [hbo, if_true]; exact e1.fresh b hb
        · simp only [hbo, if_false]; exact e2.fresh b hb
    · have up1 : ∀ b, F1 b ≤ (fun b => if b ∈ os then F1 b else F2 b) b := fun b => by
        by_cases hbo : b ∈ os
        · simp only [hbo, if_true]; exact Nat.le_refl _
        · simp only [hbo, if_false]
          by_cases hs : b < w.heap.size
          · rw [(e1.keep b hbo hs).2]; exact e2.mono b
          · rw [e1.fresh b (by omega)]; exact Nat.zero_le _
      have up2 : ∀ b, F2 b ≤ (fun b => if b ∈ os then F1 b else F2 b) b := fun b => by
        by_cases hbo : b ∈ os
        · simp only [hbo, if_true]
          by_cases hs : b < w.heap.size
          · rw [(e2.keep b (fun hb' => hdis b hb' hbo) hs).2]; exact e1.mono b
          · rw [e2.fresh b (by omega)]; exact Nat.zero_le _
        · simp only [hbo, if_false]; exact Nat.le_refl _
      have mono : ∀ {G G' : Nat → Nat}, (∀ b, G b ≤ G' b) → ∀ cv v, RepC w G cv v [] → RepC w G' cv v [] := by
        intro G G' hG cv v hc
        refine ⟨?_, hc.2⟩
        generalize hos : ([] : List Nat) = os0 at hc
        obtain ⟨hc, _⟩ := hc
        cases hc with
        | d _ _ hc => exact .d _ _ (hc.mono (fun _ _ _ => rfl) hG)
        | undef => exact .undef _
        | ownnil sz => exact .ownnil sz
        | own => cases hos
      have hone : v.sh.data = true → v.sh.one = true := fun hd => by
        cases v with
        | sl o sz xs => rfl
        | _ => exact a.2.2 hd
      have hrest : ∀ {cvs : List Value} {vs : List V} {o : List Nat}, RepL (RepC w F2) cvs vs o → o = [] → RepL (RepC w (fun b => if b ∈ os then F1 b else F2 b)) cvs vs [] := by
        intro cvs vs o r ho
        induction r with
        | nil => exact .nil
        | cons cv v cvs vs o1 o2 ha _ ih =>
          simp only [List.append_eq_nil_iff] at ho
          obtain ⟨rfl, rfl⟩ := ho
          exact .cons _ _ _ _ [] [] (mono up2 _ _ ha) (ih rfl)
      exact .cons _ _ _ _ [] [] (mono up1 _ _ ⟨r1, a.2.1, hone⟩) (hrest r2 rfl)

theorem OwnCells.share {b : Nat} {cs : List V} {os : List Nat} (h : OwnCells w F b cs os) (h1 : ∀ b, os.count b ≤ 1) (hb : b ∉ os) (hB : ∀ b ∈ os, F b = 0 ∧ b < w.heap.size) (hf : ∀ b, w.heap.size ≤ b → F b = 0) :
    ∃ F', Ext B w F w F' (fun b => b ∈ os) ∧ OwnCells w F' b (cs.map V.sh) [] := by
  have hlt := h.lt
  obtain ⟨z, cur, e, fr, c1, c2, c3⟩ := h
  obtain ⟨F', e1, r1⟩ := c3.share (B := B) h1 hB hf
  exact ⟨F', e1, ((e1.keep b hb hlt).2).trans z, cur, e, fr, c1, c2, r1⟩

theorem upd_self (t : List V) (d : Nat) : upd t d (nth t d) = t := by
  induction t generalizing d with
  | nil => rfl
  | cons x t ih => cases d with
    | zero => rfl
    | succ d => simp only [upd, nth]; rw [ih]

theorem Sim.psrefl (h : Sim B cvs w F ρ s rest osT osH) : PsOK cvs B w F ρ s rest osT osH s.t s.h := ⟨F, osT, osH, Ext.refl h.fresh, h, fun _ x => x⟩

theorem ps_cm (h : Sim B cvs w F ρ s rest osT osH) (d : Nat) : PsOK cvs B w F ρ s rest osT osH (ups1 s.t (d, (nth s.t d).sh, (nth s.t d).owner)) s.h := by
  by_cases hd : d < s.t.length
  · obtain ⟨cv, o1, od, o2, g1, g2, g3, g4⟩ := h.tmps.at hd
    by_cases ho : (nth s.t d).owner = true
    · have hod : ∀ b ∈ od, F b = 0 ∧ b < w.heap.size := fun b hb => by
        have := h.inb b (by rw [g2]; simp [hb])
        exact ⟨this.2.2, this.2.1⟩
      cases hv : nth s.t d with
      | sl own sz xs =>
        rw [hv] at ho g3
        cases own with
        | false => cases ho
        | true =>
          cases g3 with
          | e _ _ _ g3 =>
            obtain ⟨F', e1, r1⟩ := g3.share (B := B) hod h.fresh
            obtain ⟨q1, q2, q3⟩ := h.slotChange (fl := true) (v' := .sl false sz xs) (os' := []) g1 g2 g4 e1 (.e _ _ _ r1) (fun b => by simp) (fun b hb => by cases hb) rfl (.inl rfl)
            exact ⟨F', _, _, q2, q1, q3⟩
      | box cs =>
        rw [hv] at g3
        obtain ⟨q1, q2, q3⟩ := h.slotChange (fl := true) (v' := .box cs) (os' := od) g1 g2 g4 (Ext.refl h.fresh) g3 (fun b => Nat.le_refl _) (fun b hb => (hod b hb).1) rfl (.inl rfl)
        exact ⟨F, _, _, q2, q1, q3⟩
      | _ => rw [hv] at ho; cases ho
    · have ho' : (nth s.t d).owner = false := by simpa using ho
      have hsh : (nth s.t d).sh = nth s.t d := by
        cases hv : nth s.t d with
        | sl own sz xs =>
          rw [hv] at ho'
          cases own with
          | false => rfl
          | true => cases ho'
        | _ => rfl
      rw [ho', hsh]
      simp only [ups1]
      rw [upd_self]
      exact h.psrefl
  · have hn : nth s.t d = .undef := nth_out (Nat.le_of_not_lt hd)
    rw [hn]
    simp only [V.sh, V.owner, ups1]
    rw [upd_out (Nat.le_of_not_lt hd)]
    exact h.psrefl

theorem ps_cmb (h : Sim B cvs w F ρ s rest osT osH) {d : Nat} {cs : List V} (hb : nth s.t d = .box cs) : PsOK cvs B w F ρ s rest osT osH (ups1 s.t (d, .box (cs.map V.sh), false)) s.h := by
  have hd : d < s.t.length := nth_lt (fun hh => by rw [hh] at hb; cases hb)
  obtain ⟨cv, o1, od, o2, g1, g2, g3, g4⟩ := h.tmps.at hd
  rw [hb] at g3
  cases g3 with
  | e _ _ _ g3 => cases g3 with | d _ _ g3 => cases g3
  | box b _ os g3 =>
    have hone : ∀ x, (b :: os).count x ≤ 1 := fun x => by
      have := h.once x
      rw [g2] at this
      simp only [List.count_append] at this
      omega
    have hbo : b ∉ os := fun hm => by
      have := hone b
      have h2 := List.count_pos_iff.2 hm
      simp only [List.count_cons_self] at this
      omega
    have hin : ∀ x ∈ b :: os, F x = 0 ∧ x < w.heap.size := fun x hx => by
      have := h.inb x (by rw [g2]; simp only [List.mem_append]; exact .inl (.inl (.inl (.inr hx))))
      exact ⟨this.2.2, this.2.1⟩
    obtain ⟨F', e1, r1⟩ := g3.share (B := B) (fun x => by have := hone x; simp only [List.count_cons] at this; omega) hbo (fun x hx => hin x (by simp [hx])) h.fresh
    obtain ⟨q1, q2, q3⟩ := h.slotChange (fl := false) (v' := .box (cs.map V.sh)) (os' := [b]) g1 g2 g4 (e1.weaken fun x _ hx => by simp [hx]) (.box _ _ _ r1) (fun x => by simp only [List.count_cons, List.count_nil]; omega)
      (fun x hx => by obtain rfl := List.mem_singleton.1 hx; exact r1.1) rfl (.inr ⟨fun _ => ⟨_, rfl⟩, fun ⟨sz, xs, hh⟩ => (by rw [hb] at hh; cases hh)⟩)
    exact ⟨F', _, _, q2, q1, q3⟩

theorem ps_cmh (h : Sim B cvs w F ρ s rest osT osH) {id : Nat} (hid : id < s.h.length) : PsOK cvs B w F ρ s rest osT osH s.t (hupd s.h id ((hnth s.h id).map V.sh)) := by
  obtain ⟨b, o1, ob, o2, g1, g2, g3, g4⟩ := h.heap.at hid
  have hcount : ∀ x, osT.count x + (o1 ++ (b :: ob) ++ o2).count x + rest.count x ≤ 1 := fun x => by
    have := h.once x
    rw [g2] at this
    simp only [List.count_append] at this ⊢
    omega
  have hone : ∀ x, (b :: ob).count x ≤ 1 := fun x => by
    have := hcount x
    simp only [List.count_append] at this
    omega
  have hbo : b ∉ ob := fun hm => by
    have := hone b
    have h2 := List.count_pos_iff.2 hm
    simp only [List.count_cons_self] at this
    omega
  have hin : ∀ x ∈ b :: ob, F x = 0 ∧ x < w.heap.size := fun x hx => by
    have := h.inb x (by rw [g2]; simp only [List.mem_append]; exact .inl (.inr (.inl (.inr hx))))
    exact ⟨this.2.2, this.2.1⟩
  obtain ⟨F', e1, r1⟩ := g3.share (B := B) (fun x => by have := hone x; simp only [List.count_cons] at this; omega) hbo (fun x hx => hin x (by simp [hx])) h.fresh
  have hdis : ∀ x, x ∈ osT ++ (o1 ++ o2) ++ rest → x ∉ ob := fun x hx hxo => by
    have h1 := hcount x
    have h2 := List.count_pos_iff.2 hx
    have h3 := List.count_pos_iff.2 hxo
    simp only [List.count_append, List.count_cons] at h1 h2
    omega
  have hH := g4 w F' _ [] (fun b' cs o r hm => r.ext e1 (fun hb' => hdis b' (by have := hm b' (by simp); simp only [List.mem_append] at this ⊢; rcases this with y | y <;> simp [y]) hb')
    (fun x hx hxb => hdis x (by have := hm x (by simp [hx]); simp only [List.mem_append] at this ⊢; rcases this with y | y <;> simp [y]) hxb)) r1
  refine ⟨F', osT, o1 ++ [b] ++ o2, e1.weaken (fun x _ hx => by rw [g2]; simp [hx]), ⟨h.tmps.ext e1 (fun _ _ x => x) (fun x hx => (h.inb x (by simp [hx])).2.1) (fun x hx => hdis x (by simp [hx])), hH, h.alias, fun x => ?_, fun x hx => ?_, e1.fresh, h.base⟩, fun x hx => ?_⟩
  · have := hcount x
    simp only [List.count_append, List.count_cons, List.count_nil] at this ⊢
    omega
  · have hmem : x ∈ osT ++ osH ++ rest ∧ x ∉ ob := by
      simp only [List.mem_append, List.mem_singleton] at hx
      rcases hx with (hx | ((hx | hx) | hx)) | hx
      · exact ⟨by simp [hx], hdis x (by simp [hx])⟩
      · exact ⟨by rw [g2]; simp [hx], hdis x (by simp [hx])⟩
      · subst hx; exact ⟨by rw [g2]; simp, hbo⟩
      · exact ⟨by rw [g2]; simp [hx], hdis x (by simp [hx])⟩
      · exact ⟨by simp [hx], hdis x (by simp [hx])⟩
    obtain ⟨b1, b2, b3⟩ := h.inb x hmem.1
    exact ⟨b1, b2, ((e1.keep x hmem.2 b2).2).trans b3⟩
  · rw [g2]
    simp only [List.mem_append, List.mem_cons, List.not_mem_nil, or_false] at hx ⊢
    rcases hx with hx | ((hx | hx) | hx)
    · exact .inl hx
    · exact .inr (.inl (.inl hx))
    · exact .inr (.inl (.inr (.inl hx)))
    · exact .inr (.inr hx)

/-- The slice of a local array: the array is fixed from here on. -/
theorem op_slb (h : Sim B a.tmps.toList w F ρ s rest osT osH) {d d' n : Nat} {t e : TypeId} {lo hi : Option Operand} {ylo yhi : Option Src} (hop : o.op = .slice t (.tmp d) lo hi none) (hdd : d' = d) (hlo : chkSO lo ylo = true) (hhi : chkSO hi yhi = true)
    (hu : P.underlying t = some (.array n e)) (hs : szT P e = some 1) (hr : opRes c (nth s.t) s.h (.slb d' n ylo yhi) = some r) : OpOK P a o B w F ρ s rest osT osH r := by
  subst hdd
  simp only [opRes] at hr
  split at hr
  · rename_i cs hb
    split at hr
    · rename_i l1 r1 e1 e2
      split at hr
      · rename_i hk
        obtain ⟨k0, k1, k2, k3, k4⟩ := hk
        simp only [Option.some.injEq] at hr
        subst hr
        subst k0
        have hd : d' < s.t.length := nth_lt (fun hh => by rw [hh] at hb; cases hb)
        obtain ⟨cv, o1, od, o2, g1, g2, g3, g4⟩ := h.tmps.at hd
        have hx := eval_tmp a rfl d' g1
        rw [hb] at g3
        have hbs := run_sliceBounds2 (P := P) (w := w) (isS := false) (len := cs.length) (cap := cs.length) (lo := lo.map a.eval) (hi := hi.map a.eval) k1 k2 k3 (Nat.le_refl _)
          (by rcases h.bound hlo e1 with ⟨p, _, q⟩ | ⟨x', p, _, k, q⟩
              · exact .inl ⟨by rw [p]; rfl, q⟩
              · exact .inr ⟨k, by rw [p, ← q]; rfl⟩)
          (by rcases h.bound hhi e2 with ⟨p, _, q⟩ | ⟨x', p, _, k, q⟩
              · exact .inl ⟨by rw [p]; rfl, q⟩
              · exact .inr ⟨k, by rw [p, ← q]; rfl⟩)
        cases g3 with
        | e _ _ _ g3 => cases g3 with | d _ _ g3 => cases g3
        | box b _ os g3 =>
          have hin := h.inb b (by rw [g2]; simp)
          have hE := Ext.freeze (B := B) (k := cs.length) hin.2.2 hin.2.1 h.fresh
          let cvf : Nat → Value := fun j => (w.cell? ⟨b, j, none⟩).getD undef
          have hcf : ∀ j, j < cs.length → w.cell? ⟨b, j, none⟩ = some (cvf j) ∧ RepD w (setF F b cs.length) (cvf j) (nth cs j) ∧ (nth cs j).one = true := fun j hj => by
            obtain ⟨cv, c1, c2⟩ := g3.cell hj
            have h1 := all_nth k4 hj
            have hcv : cvf j = cv := by simp [cvf, c1]
            rw [hcv]
            exact ⟨c1, (c2 (V.one_data h1)).1.ext hE, h1⟩
          obtain ⟨q1, q2, q3⟩ := h.slotChange (fl := true) (v' := .rptr cs) (os' := []) g1 g2 g4 (hE.weaken fun x _ hx => by simp [hx])
            (.rptr b 0 cs cvf (by rw [setF_self]; omega) (fun j hj => by rw [Nat.zero_add]; exact (hcf j hj).1) (fun j hj => (hcf j hj).2)) (fun x => by simp) (fun x hx => by cases hx) rfl (.inl rfl)
          have hD := RepD.sub (w := w) (F := setF F b cs.length) (b := b) (off := 0) (sz := 1) (l := l1.toNat) (r := r1.toNat) (m := cs.length) (xs := cs) (cvf := fun i j => cvf i) rfl (by rw [setF_self]; omega)
            (fun i hi => by have := (hcf i hi).2.2; rw [V.one_cells this]; exact ⟨rfl, V.one_data this⟩) (fun i j hi hj => by obtain rfl : j = 0 := (by omega); simpa using (hcf i hi).1)
            (fun i j hi hj => by obtain rfl : j = 0 := (by omega); rw [nth_cells_one (hcf i hi).2.2]; exact (hcf i hi).2.2) (fun i j hi hj => by obtain rfl : j = 0 := (by omega); rw [nth_cells_one (hcf i hi).2.2]; exact (hcf i hi).2.1) (by omega) (by omega) (by omega)
          refine ⟨_, w, _, ρ, _, osH, [], .inl ?_, q2, fun _ _ x => x, q1.val (.e _ _ _ (.d _ _ hD)) trivial, fun x hx => .inl (q3 x (by simpa using hx))⟩
          simp only [execOp, hop, hx, Instr.sliceAt, Instr.sureAddr, Sem.run_bind, run_under hu, Result.andThen_ok, hbs, run_sizeOf hs, Sem.run_pure, Option.map_none, addr_add]
      · cases hr
    · cases hr
  · cases hr

theorem Sim.alias_al (h : Sim B a.tmps.toList w F ρ s rest osT osH) {x : Operand} {y : Src} {d : Nat} (hc : chkS x y = true) (he : Am.ev (nth s.t) y = .al d) : a.tmps.toList[d]? = some (a.eval x) := by
  cases y with
  | t i =>
    simp only [Am.ev] at he
    have hi : i < s.t.length := nth_lt (fun hh => by rw [hh] at he; cases he)
    obtain ⟨cv, od, g1, g2, _⟩ := h.tmps.get hi
    have ha := h.alias i cv g1
    rw [he] at ha
    have hx : a.eval x = cv := by
      cases x with
      | tmp t => simp only [chkS, beq_iff_eq] at hc; subst hc; exact eval_tmp a rfl t g1
      | _ => cases hc
    rw [hx]
    exact ha.2
  | c v =>
    simp only [Am.ev] at he
    subst he
    cases x <;> simp [chkS] at hc
    rename_i cv
    cases cv <;> simp [constOK, constOK1] at hc
  | f g => cases he

theorem RowE.take {n : Nat} {news : List Value} {ys : List V} (h : RowE w F 1 news.toArray ys) (hn : n ≤ ys.length) : RowE w F 1 (news.take n).toArray (ys.take n) := by
  obtain ⟨h1, h2, h3⟩ := h
  simp only [List.size_toArray, Nat.mul_one] at h1
  refine ⟨by simp; omega, fun i hi => ?_, fun i j hi hj => ?_⟩
  · simp only [List.length_take] at hi
    rw [nth_take _ _ _ (by omega)]
    exact h2 i (by omega)
  · simp only [List.length_take] at hi
    rw [nth_take _ _ _ (by omega)]
    obtain ⟨cv, q1, q2⟩ := h3 i j (by omega) hj
    refine ⟨cv, ?_, q2⟩
    obtain rfl : j = 0 := by omega
    simp only [Nat.mul_one, Nat.add_zero, List.getElem?_toArray] at q1 ⊢
    rw [List.getElem?_take_of_lt (by omega)]
    exact q1

/-- What a copy reads. -/
theorem copy_second (h : Sim B a.tmps.toList w F ρ s rest osT osH) {x : Operand} {y : Src} {b : Option Nat} {ys : List V} {n : Nat} (hc : chkS x y = true) (hn : n ≤ ys.length)
    (hr : (match Am.ev (nth s.t) y with | .str l => some (1, Am.B l) | _ => Am.rdsl (nth s.t) y b) = some (1, ys)) :
    ∃ news : List Value, news.length = n ∧ (Builtin.lenOf (a.eval x)).run P w = .ok ys.length w ∧ (Builtin.firstCells 1 n (a.eval x)).run P w = .ok news.toArray w ∧ RowE w F 1 news.toArray (ys.take n) ∧ ∀ v ∈ news, v.oneCell' = true := by
  obtain ⟨news, n1, n2, n3⟩ := app_second (P := P) h hc hr
  obtain ⟨h1, h2⟩ := n1.2 w (.inl rfl)
  have hl := n1.1
  simp only [Nat.mul_one] at hl
  refine ⟨news.take n, by simp; omega, h1, ?_, n2.take hn, fun v hv => n3 v (List.mem_of_mem_take hv)⟩
  split at hr
  · rename_i l he
    obtain ⟨os, hrep, _⟩ := h.ev hc
    rw [he] at hrep
    obtain ⟨sb, hx, rfl⟩ := hrep.str_inv
    rw [hx] at h2 ⊢
    simp only [Builtin.firstCells, Sem.run_pure, Result.ok.injEq, and_true] at h2 ⊢
    rw [← Array.toList_inj] at h2
    simp only [Option.some.injEq, Prod.mk.injEq, true_and] at hr
    subst hr
    have hlb : (Am.B sb.data.toList).length = sb.size := by simp [Am.B]
    rw [hlb] at h2 hn
    apply Array.ext'
    simp only [ByteArray.data_extract, Array.toList_map, Array.toList_extract, List.extract_eq_take_drop, List.drop_zero, Nat.sub_zero] at h2 ⊢
    rw [← h2, ← List.map_take, List.take_take, Nat.min_eq_left hn]
  · rcases h.rdsl hc hr with ⟨⟨p, hx⟩, rfl⟩ | ⟨b', off, cap, hx, hR⟩
    · simp only [List.length_nil] at hn hl
      have : news = [] := List.length_eq_zero_iff.1 hl
      subst this
      have : n = 0 := by omega
      subst this
      rw [hx]
      exact run_firstCells_empty p
    · rw [hx] at h2 ⊢
      have hread : ∀ j v, news[j]? = some v → w.cell? ⟨b', off + j, none⟩ = some v := fun j v hj => by
        have hjl : j < ys.length := by
          have := (List.getElem?_eq_some_iff.1 hj).1
          omega
        obtain ⟨cv, c1, _, _⟩ := hR.cell j 0 hjl (by omega)
        have := run_firstCells_some (P := P) w 1 ys.length ⟨b', off, none⟩ ys.length cap ((List.range ys.length).map (Am.cellAt w b' off)) (by simp) (fun k u hk => by
          by_cases hkl : k < ys.length
          · simp [hkl] at hk
            rw [addr_add, ← hk]
            exact (hR.cellAt (by omega)).1
          · rw [List.getElem?_eq_none (by simp; omega)] at hk; cases hk)
        rw [this] at h2
        simp only [Result.ok.injEq, and_true] at h2
        have h2 : (List.range ys.length).map (Am.cellAt w b' off) = news := by simpa using h2
        rw [← h2] at hj
        simp [hjl] at hj
        rw [← hj]
        exact (hR.cellAt (by omega)).1
      exact run_firstCells_some w 1 n _ _ _ (news.take n) (by simp; omega) (fun j v hj => by
        rw [addr_add]
        exact hread j v (by
          by_cases hjn : j < n
          · rwa [List.getElem?_take_of_lt hjn] at hj
          · rw [List.getElem?_eq_none (by simp; omega)] at hj; cases hj))

theorem OwnSl.write {blk len cap : Nat} {xs ys : List V} {news : List Value} (h : OwnSl w F blk len cap 1 xs) (hR : RowE w F 1 news.toArray ys) (hle : ys.length ≤ xs.length) (hB : B ≤ blk) (hf : ∀ b, w.heap.size ≤ b → F b = 0) :
    OwnSl (w.setCells blk 0 news) F blk len cap 1 (ys ++ xs.drop ys.length) ∧ (∀ j, j < news.length → (w.cell? ⟨blk, 0 + j, none⟩).isSome = true) ∧ (∀ j, j < news.length → w.frozen? ⟨blk, 0 + j, none⟩ = false) := by
  obtain ⟨cur, e, fr, b1, b2, b3⟩ := h.block
  obtain ⟨r1, r2, r3⟩ := hR
  simp only [List.size_toArray, Nat.mul_one] at r1
  have hE := Ext.setCells (B := B) (w := w) (F := F) (o := 0) news hB h.zero hf
  have hlen := h.hlen
  have hcap := h.hcap
  have hsome : ∀ j, j < cur.size → (w.cell? ⟨blk, j, none⟩).isSome = true := fun j hj => by
    simp only [World.cell?, b1, Option.isSome_none, Bool.false_eq_true, if_false]
    simp [hj]
  have hnth : ∀ i, i < xs.length → nth (ys ++ xs.drop ys.length) i = if i < ys.length then nth ys i else nth xs i := fun i hi => by
    split
    · rename_i hh; exact nth_append_left hh
    · rename_i hh
      obtain ⟨k, rfl⟩ := Nat.exists_eq_add_of_le (Nat.le_of_not_lt hh)
      rw [nth_append_right (by simp; omega), nth_drop]
  have hl' : (ys ++ xs.drop ys.length).length = xs.length := by simp; omega
  refine ⟨⟨by rw [hl']; exact hlen, hcap, h.zero, ⟨_, e, fr, setCells_block news _ w cur e fr b1, by rw [setA_size]; exact b2, fun o ho => ?_⟩, fun i hi => ?_, fun i j hi hj => ?_⟩, fun j hj => hsome _ (by omega), fun j hj => b3 _ (by omega)⟩
  · rw [setA_size] at ho
    rw [World.frozen?_setCells]
    exact b3 o ho
  · rw [hl'] at hi
    rw [hnth i hi]
    split
    · rename_i hh; exact r2 i hh
    · exact h.elem i hi
  · rw [hl'] at hi
    obtain rfl : j = 0 := by omega
    rw [hnth i hi]
    split
    · rename_i hh
      obtain ⟨cv, c1, c2, c3⟩ := r3 i 0 hh hj
      refine ⟨cv, ?_, c2.ext hE, c3⟩
      have := World.cell?_setCells_in blk news 0 w (fun j hj => hsome _ (by omega)) i (by omega)
      rw [Nat.zero_add] at this
      simp only [Nat.mul_one, Nat.add_zero, List.getElem?_toArray] at c1 ⊢
      rw [this, ← c1, List.getElem?_eq_getElem (by omega)]
    · obtain ⟨cv, c1, c2, c3⟩ := h.cell i 0 hi hj
      refine ⟨cv, ?_, c2.ext hE, c3⟩
      rw [World.cell?_setCells_out blk news 0 w _ (fun _ _ => .inr (show 0 + news.length ≤ i * 1 + 0 by omega))]
      exact c1

theorem op_copy (h : Sim B a.tmps.toList w F ρ s rest osT osH) {x1 x2 : Operand} {y1 y2 : Src} {t t2 e : TypeId} {d : Nat} {b : Option Nat} (hop : o.op = .call ⟨.builtin .copy, #[x1, x2], #[t, t2]⟩) (hc1 : chkS x1 y1 = true) (hc2 : chkS x2 y2 = true)
    (hu : P.underlying t = some (.slice e)) (hs : szT P e = some 1) (hr : opRes c (nth s.t) s.h (.copy d y1 y2 b) = some r) : OpOK P a o B w F ρ s rest osT osH r := by
  simp only [opRes] at hr
  split at hr
  · rename_i d' sz xs he hd0
    split at hr
    · rename_i sz' ys hsec
      split at hr
      · rename_i hk
        obtain ⟨rfl, rfl, rfl⟩ := hk
        simp only [Option.some.injEq] at hr
        subst hr
        have hd : d < s.t.length := nth_lt (fun hh => by rw [hh] at hd0; cases hd0)
        have hcv := h.alias_al hc1 he
        obtain ⟨cv, o1, od, o2, g1, g2, g3, g4⟩ := h.tmps.at hd
        rw [g1] at hcv
        simp only [Option.some.injEq] at hcv
        obtain ⟨news, n1, n2, n3, n4, n5⟩ := copy_second (P := P) (n := min ys.length xs.length) h hc2 (Nat.min_le_left _ _) hsec
        rw [hd0] at g3
        have hys : ys.take (min ys.length xs.length) = ys.take xs.length := by rw [Nat.min_comm, ← List.take_eq_take_min]
        rw [hys] at n4
        have hdrop : xs.drop ys.length = xs.drop (ys.take xs.length).length := by
          rw [List.length_take]
          by_cases hh : ys.length ≤ xs.length
          · rw [Nat.min_eq_right hh]
          · rw [Nat.min_eq_left (by omega), List.drop_eq_nil_of_le (by omega), List.drop_eq_nil_of_le (Nat.le_refl _)]
        rw [hdrop]
        have hrunop : ∀ cv w', (Builtin.copy_ #[t, t2] o.type #[a.eval x1, a.eval x2]).run P w = .ok cv w' → (execOp a.eval o).run P w = .ok (.value cv) w' := fun cv w' hh => by
          simp [execOp, hop, resolve, invoke, builtin, hh]
        cases g3 with
        | e _ _ _ g3 =>
          cases g3 with
          | d _ _ g3 => cases g3
          | ownnil =>
            have hn0 : news = [] := by simp at n1; exact n1
            subst hn0
            obtain ⟨q1, q2, q3⟩ := h.slotChange (fl := false) (v' := .sl true 1 (ys.take 0 ++ [])) (os' := []) g1 g2 g4 (Ext.refl h.fresh) (.e _ _ _ (by simp; exact .ownnil 1)) (fun x => by simp) (fun x hx => by cases hx) rfl (.inr ⟨(fun ⟨cs, hh⟩ => by rw [hd0] at hh; cases hh), fun _ => ⟨_, _, rfl⟩⟩)
            refine ⟨.int .i64 (min ys.length 0 : Nat), w, F, ρ, _, osH, [], .inl (hrunop _ _ ?_), q2, fun _ _ x => x, q1.val (.e _ _ _ (.d _ _ (.int _ _))) trivial, fun x hx => .inl (q3 x (by simpa using hx))⟩
            rw [← hcv]
            simp only [List.length_nil] at n3
            simp [Builtin.copy_, run_under hu, run_sizeOf hs, n2, Nat.min_def, goInt] at n3 ⊢
            simp [n3]
          | own blk len cap _ _ g3 =>
            have hinb := h.inb blk (by rw [g2]; simp)
            obtain ⟨w1, w2, w3⟩ := g3.write n4 (by simp; omega) hinb.1 h.fresh
            have hst := run_storeCells_cells (P := P) blk 0 news 0 w (by simpa using w2) (by simpa using w3) n5
            simp only [Nat.add_zero] at hst
            have hE := Ext.setCells (B := B) (w := w) (F := F) (o := 0) news hinb.1 hinb.2.2 h.fresh
            obtain ⟨q1, q2, q3⟩ := h.slotChange (fl := false) (v' := .sl true 1 (ys.take xs.length ++ xs.drop (ys.take xs.length).length)) (os' := [blk]) g1 g2 g4 (hE.weaken fun x _ hx => by simp [hx]) (.e _ _ _ (.own _ _ _ _ _ w1)) (fun x => Nat.le_refl _) (fun x hx => by obtain rfl := List.mem_singleton.1 hx; exact hinb.2.2) rfl (.inr ⟨(fun ⟨cs, hh⟩ => by rw [hd0] at hh; cases hh), fun _ => ⟨_, _, rfl⟩⟩)
            refine ⟨.int .i64 (min ys.length xs.length : Nat), _, F, ρ, _, osH, [], .inl (hrunop _ _ ?_), q2, fun _ _ x => x, q1.val (.e _ _ _ (.d _ _ (.int _ _))) trivial, fun x hx => .inl (q3 x (by simpa using hx))⟩
            rw [← hcv]
            have hlen := g3.hlen
            subst hlen
            have hm : Nat.min ys.length xs.length = min ys.length xs.length := rfl
            simp [Builtin.copy_, run_under hu, run_sizeOf hs, n2, hm, n3, hst, goInt]
      · cases hr
    · cases hr
  · cases hr
end
end Go.Am
