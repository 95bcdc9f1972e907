/- Each operation of the abstract machine is what the model's operation does: those that only read or compute. -/
import Derived.Test.YtbnjembcmddjoaaAm5
set_option linter.unusedVariables false
set_option linter.unusedSimpArgs false
namespace Go.Am
open Go Go.RowKit

def aggT (P : Program) (t : TypeId) : Bool := match P.underlying t with
  | some (.struct _) => true
  | some (.array _ _) => true
  | _ => false
def oneT (P : Program) (t : TypeId) : Bool := match P.underlying t with
  | some (.struct _) => false
  | some (.array _ _) => false
  | none => false
  | some _ => true
def szT (P : Program) (t : TypeId) : Option Nat := (P.info? t).map (·.size)

section
variable {P : Program} {t : TypeId} {w : World}

theorem run_typeInfo {i : TypeInfo} (h : P.info? t = some i) : (typeInfo t).run P w = .ok i w := by
  simp [typeInfo, h]
theorem run_sizeOf {n : Nat} (h : szT P t = some n) : (sizeOf t).run P w = .ok n w := by
  unfold szT at h
  cases hi : P.info? t with
  | none => rw [hi] at h; cases h
  | some i =>
    rw [hi] at h
    simp only [Option.map_some, Option.some.injEq] at h
    simp [sizeOf, run_typeInfo hi, h]
theorem run_under {d : TypeDesc} (h : P.underlying t = some d) : (underlying t).run P w = .ok d w := by
  simp [underlying, h]
theorem run_isAgg (h : aggT P t = true) : (isAgg t).run P w = .ok true w := by
  unfold aggT at h
  split at h
  · rename_i fs hu; simp [isAgg, run_under hu]
  · rename_i n e hu; simp [isAgg, run_under hu]
  · cases h
theorem run_isAgg_one (h : oneT P t = true) : (isAgg t).run P w = .ok false w := by
  unfold oneT at h
  split at h
  · cases h
  · cases h
  · cases h
  · rename_i d n1 n2 hu
    simp only [isAgg, Sem.run_bind, run_under hu, Result.andThen_ok]
    cases d <;> first | rfl | exact (n1 _ rfl).elim | exact (n2 _ _ rfl).elim

theorem addr_add (b o n : Nat) : (⟨b, o, none⟩ : Addr).add n = ⟨b, o + n, none⟩ := by
  unfold Addr.add
  split
  · rename_i h; rw [h]; rfl
  · rfl

theorem run_loadVar_one {b o : Nat} {cv : Value} (h : oneT P t = true) (hc : w.cell? ⟨b, o, none⟩ = some cv) : (loadVar t ⟨b, o, none⟩).run P w = .ok cv w := by
  simp [loadVar, run_isAgg_one h, hc]

theorem run_loadVar_agg {b o n : Nat} (h : aggT P t = true) (hn : szT P t = some n) (cs : List Value) (hl : cs.length = n)
    (hc : ∀ j v, cs[j]? = some v → w.cell? ⟨b, o + j, none⟩ = some v) : (loadVar t ⟨b, o, none⟩).run P w = .ok (.agg cs.toArray) w := by
  subst hl
  have := run_loadCells_list (P := P) w ⟨b, o, none⟩ cs (fun j v hj => by rw [addr_add]; exact hc j v hj)
  simp [loadVar, run_isAgg h, run_sizeOf hn, this]
end

/-- What is to be shown of an operation. -/
def OpOK (P : Program) (a : Act) (o : Oper) (B : Nat) (w : World) (F : Nat → Nat) (ρ : List Nat) (s : St) (rest osT osH : List Nat) : Rs → Prop
  | .val us v h' => ∃ cv w' F' ρ' osT' osH' osV, ((execOp a.eval o).run P w = .ok (.value cv) w' ∨ ((execOp a.eval o).run P w = .ok .skip w' ∧ cv = undef)) ∧
      Ext B w F w' F' (fun b => b ∈ osT ++ osH) ∧ (∀ (id b : Nat), ρ[id]? = some b → ρ'[id]? = some b) ∧
      SimV B a.tmps.toList w' F' ρ' (ups s.t us) h' cv v rest osT' osH' osV ∧ ∀ b ∈ osT' ++ osH' ++ osV, b ∈ osT ++ osH ∨ w.heap.size ≤ b
  | .pan v h' => h' = s.h ∧ ∃ cv, (execOp a.eval o).run P w = .halt (.panic cv) w ∧ RepD w F cv v

section
variable {P : Program} {a : Act} {o : Oper} {B : Nat} {w : World} {F : Nat → Nat} {ρ : List Nat} {s : St} {rest osT osH : List Nat}

theorem OpOK.pure (h : Sim B a.tmps.toList w F ρ s rest osT osH) {cv : Value} {v : V} (hr : (execOp a.eval o).run P w = .ok (.value cv) w) (hv : RepV w F ρ cv v [])
    (ha : AliasV a.tmps.toList s.t cv v) : OpOK P a o B w F ρ s rest osT osH (.val [] v s.h) :=
  ⟨cv, w, F, ρ, osT, osH, [], .inl hr, Ext.refl h.fresh, fun _ _ x => x, h.val hv ha, fun b hb => .inl (by simpa using hb)⟩

/-- A slot's value is seen otherwise: what refers to it stays right if the kind stays, or is struck. -/
theorem AliasOK.view {cvs : List Value} {t : List V} {i : Nat} {v' : V} {fl : Bool} (h : AliasOK cvs t) (hv : isAl v' = false)
    (hk : fl = true ∨ (((∃ cs, nth t i = .box cs) → ∃ cs, v' = .box cs) ∧ ((∃ sz xs, nth t i = .sl true sz xs) → ∃ sz xs, v' = .sl true sz xs))) : AliasOK cvs (ups1 t (i, v', fl)) := by
  intro e cv hcv
  have h0 := h e cv hcv
  have hout : ∀ l : List V, e = i → e < l.length → nth (upd l i v') e = v' := fun l he hl => by rw [he]; exact nth_upd_self (he ▸ hl) v'
  cases fl with
  | true =>
    simp only [ups1]
    by_cases hei : i = e
    · subst hei
      by_cases hl : i < (t.map (V.killb i)).length
      · rw [nth_upd_self hl]; exact aliasV_of hv
      · rw [upd_out (Nat.le_of_not_lt hl), nth_out (Nat.le_of_not_lt hl)]; exact trivial
    · rw [nth_upd_ne hei, nth_map_killb]
      cases hx : nth t e with
      | bref d o =>
        rw [hx] at h0
        simp only [V.killb]
        split
        · exact trivial
        · rename_i hd
          obtain ⟨b, hb, hh⟩ := h0
          refine ⟨b, hb, ?_⟩
          rw [nth_upd_ne (Ne.symm hd), nth_map_killb]
          rcases hh with ⟨⟨cs, hh⟩, hy⟩ | ⟨⟨sz, xs, hh⟩, hy⟩
          · exact .inl ⟨⟨cs, by rw [hh]; rfl⟩, hy⟩
          · exact .inr ⟨⟨sz, xs, by rw [hh]; rfl⟩, hy⟩
      | al d =>
        rw [hx] at h0
        simp only [V.killb]
        split
        · exact trivial
        · rename_i hd
          obtain ⟨ho, hy⟩ := h0
          refine ⟨?_, hy⟩
          rw [nth_upd_ne (Ne.symm hd), nth_map_killb]
          cases hz : nth t d <;> rw [hz] at ho <;> first | exact ho | cases ho
      | _ => exact trivial
  | false =>
    have hk := hk.resolve_left (by simp)
    simp only [ups1]
    by_cases hei : i = e
    · subst hei
      by_cases hl : i < t.length
      · rw [nth_upd_self hl]; exact aliasV_of hv
      · rw [upd_out (Nat.le_of_not_lt hl), nth_out (Nat.le_of_not_lt hl)]; exact trivial
    · rw [nth_upd_ne hei]
      have key : ∀ d, ((∃ cs, nth t d = .box cs) → ∃ cs, nth (upd t i v') d = .box cs) ∧ ((∃ sz xs, nth t d = .sl true sz xs) → ∃ sz xs, nth (upd t i v') d = .sl true sz xs) := by
        intro d
        by_cases hd : i = d
        · subst hd
          by_cases hl : i < t.length
          · rw [nth_upd_self hl]; exact hk
          · rw [upd_out (Nat.le_of_not_lt hl)]; exact ⟨id, id⟩
        · rw [nth_upd_ne hd]; exact ⟨id, id⟩
      cases hx : nth t e with
      | bref d o =>
        rw [hx] at h0
        obtain ⟨b, hb, hh⟩ := h0
        refine ⟨b, hb, ?_⟩
        rcases hh with ⟨hh, hy⟩ | ⟨hh, hy⟩
        · exact .inl ⟨(key d).1 hh, hy⟩
        · exact .inr ⟨(key d).2 hh, hy⟩
      | al d =>
        rw [hx] at h0
        obtain ⟨ho, hy⟩ := h0
        refine ⟨?_, hy⟩
        cases hz : nth t d with
        | box cs => obtain ⟨cs', hc⟩ := (key d).1 ⟨cs, hz⟩; rw [hc]; rfl
        | sl own sz xs =>
          rw [hz] at ho
          cases own
          · cases ho
          · obtain ⟨sz', xs', hc⟩ := (key d).2 ⟨sz, xs, hz⟩; rw [hc]; rfl
        | _ => rw [hz] at ho; cases ho
      | _ => exact trivial

theorem map_killb_upd (t : List V) (i : Nat) (v : V) (hv : isAl v = false) : (upd t i v).map (V.killb i) = upd (t.map (V.killb i)) i v := by
  have hk : ∀ j, V.killb j v = v := fun j => by cases v <;> first | rfl | cases hv
  suffices H : ∀ (k : Nat) (i : Nat), (upd t i v).map (V.killb k) = upd (t.map (V.killb k)) i v from H i i
  intro k
  induction t with
  | nil => intro i; rfl
  | cons x t ih =>
    intro i
    cases i with
    | zero => simp [upd, hk]
    | succ i => simp [upd, ih]

/-- The slots' meaning under another view of one of them. -/
theorem RepL.view {cvs : List Value} {t : List V} {i : Nat} {v' : V} {fl : Bool} {cv : Value} {o1 o2 os' : List Nat} {w' : World} {F' : Nat → Nat} {ρ' : List Nat} (hv : isAl v' = false)
    (g1 : cvs[i]? = some cv) (g : RepL (RepV w' F' ρ') (cvs.set i cv) (upd t i v') (o1 ++ os' ++ o2)) : RepL (RepV w' F' ρ') cvs (ups1 t (i, v', fl)) (o1 ++ os' ++ o2) := by
  rw [list_set_self g1] at g
  cases fl with
  | false => exact g
  | true =>
    have := RepL.map_killb i g
    rw [map_killb_upd t i v' hv] at this
    exact this

/-- An own value is handed on: its slot is struck. -/
theorem Sim.take (h : Sim B a.tmps.toList w F ρ s rest osT osH) {x : Operand} {y : Src} (hc : chkS x y = true) (hal : isAl (Am.ev (nth s.t) y) = false) :
    ∃ osT' osV, SimV B a.tmps.toList w F ρ (ups s.t (mvUps (nth s.t) y)) s.h (a.eval x) (Am.ev (nth s.t) y) rest osT' osH osV ∧ ∀ b ∈ osT' ++ osV, b ∈ osT := by
  have plain : mvUps (nth s.t) y = [] → RepV w F ρ (a.eval x) (Am.ev (nth s.t) y) [] → ∃ osT' osV, SimV B a.tmps.toList w F ρ (ups s.t (mvUps (nth s.t) y)) s.h (a.eval x) (Am.ev (nth s.t) y) rest osT' osH osV ∧ ∀ b ∈ osT' ++ osV, b ∈ osT := by
    intro he hr
    rw [he]
    exact ⟨osT, [], h.val hr (aliasV_of hal), fun b hb => by simpa using hb⟩
  obtain ⟨os, hr, _⟩ := h.ev hc
  cases y with
  | t i =>
    by_cases hl : (nth s.t i).lin = true
    · simp only [Am.ev] at hal ⊢
      have hi : i < s.t.length := nth_lt (fun hh => by rw [hh] at hl; cases hl)
      obtain ⟨cv, o1, od, o2, g1, g2, g3, g4⟩ := h.tmps.at hi
      have hx : a.eval x = cv := by
        cases x with
        | tmp t => simp only [chkS, beq_iff_eq] at hc; subst hc; exact eval_tmp a rfl t g1
        | _ => cases hc
      have hup : ups s.t (mvUps (nth s.t) (.t i)) = ups1 s.t (i, .undef, (nth s.t i).owner) := by simp only [mvUps, hl, if_true]; rfl
      rw [hup, hx]
      refine ⟨o1 ++ [] ++ o2, od, ⟨?_, h.heap, h.alias.view rfl ?_, g3, aliasV_of hal, fun b => ?_, fun b hb => ?_, h.fresh, h.base⟩, fun b hb => ?_⟩
      · exact RepL.view rfl g1 (g4 (RepV w F ρ) cv .undef [] (fun _ _ _ r _ => r) (.e _ _ _ (.undef _)))
      · cases ho : (nth s.t i).owner with
        | true => exact .inl rfl
        | false => exact .inr ⟨fun ⟨cs, hh⟩ => (by rw [hh] at ho; cases ho), fun ⟨sz, xs, hh⟩ => (by rw [hh] at ho; cases ho)⟩
      · have := h.once b
        rw [g2] at this
        simp only [List.count_append, List.count_nil] at this ⊢
        omega
      · refine h.inb b ?_
        rw [g2]
        simp only [List.mem_append] at hb ⊢
        rcases hb with ((((hb | hb) | hb) | hb) | hb) | hb <;> first | (simp [hb]; done) | cases hb
      · rw [g2]
        simp only [List.mem_append] at hb ⊢
        rcases hb with ((hb | hb) | hb) | hb <;> first | (simp [hb]; done) | cases hb
    · have hl' : (nth s.t i).lin = false := by simpa using hl
      have := hr.os_nil hl'
      subst this
      exact plain (by simp [mvUps, hl']) hr
  | c v =>
    refine plain rfl ?_
    cases x with
    | const cv => exact .e _ _ _ (constOK_rep hc w F)
    | _ => cases hc
  | f g =>
    have := hr.os_nil rfl
    subst this
    exact plain rfl hr
end
end Go.Am
