/- New variables, and what only computes. -/
import Derived.Test.YtbnjembcmddjoaaAm9
set_option linter.unusedVariables false
set_option linter.unusedSimpArgs false
namespace Go.Am
open Go Go.RowKit

section
variable {P : Program} {a : Act} {o : Oper} {B : Nat} {w : World} {F : Nat → Nat} {ρ : List Nat} {s : St} {rest osT osH : List Nat} {c : CallF} {r : Rs}

/-- A value in new memory that it owns. -/
theorem OpOK.new (h : Sim B a.tmps.toList w F ρ s rest osT osH) {cv : Value} {v : V} {ob : Obj} {k : Nat} {osV : List Nat} (hr : (execOp a.eval o).run P w = .ok (.value cv) (w.alloc ob))
    (hv : RepV (w.alloc ob) (setF F w.heap.size k) ρ cv v osV) (ha : isAl v = false) (ho : osV = [] ∨ (osV = [w.heap.size] ∧ k = 0)) : OpOK P a o B w F ρ s rest osT osH (.val [] v s.h) := by
  have hE := Ext.alloc (B := B) h.base h.fresh ob k
  refine ⟨cv, w.alloc ob, setF F w.heap.size k, ρ, osT, osH, osV, .inl hr, hE.weaken (fun _ _ x => x.elim), fun _ _ x => x, h.new hE hv (aliasV_of ha) (fun b hb => ?_) (fun b => ?_), fun b hb => ?_⟩
  · rcases ho with rfl | ⟨rfl, rfl⟩
    · cases hb
    · obtain rfl := List.mem_singleton.1 hb
      exact ⟨Nat.le_refl _, by simp, setF_self F _ _⟩
  · rcases ho with rfl | ⟨rfl, rfl⟩
    · simp
    · simp only [List.count_singleton]; split <;> omega
  · rcases ho with rfl | ⟨rfl, rfl⟩
    · exact .inl (by simpa using hb)
    · simp only [List.mem_append, List.mem_singleton] at hb
      rcases hb with hb | hb
      · exact .inl (by simpa using hb)
      · exact .inr (Nat.le_of_eq hb.symm)

theorem cell_new (w : World) (cur : Array Value) (e : TypeId) (fr : Nat × Nat) (j : Nat) : (w.alloc (.cells cur e fr)).cell? ⟨w.heap.size, j, none⟩ = cur[j]? := by
  simp only [World.cell?, heap_alloc_new, Option.isSome_none, Bool.false_eq_true, if_false]
theorem frozen_new (w : World) (cur : Array Value) (e : TypeId) (j : Nat) : (w.alloc (.cells cur e)).frozen? ⟨w.heap.size, j, none⟩ = false := by
  simp only [World.frozen?, heap_alloc_new]
  simp

/-- A new variable with given cells. -/
theorem OwnCells.new {cur : Array Value} {e : TypeId} {cs : List V} (hb : ∀ b, w.heap.size ≤ b → F b = 0) (hB : B ≤ w.heap.size) (h : RepL (RepC w F) cur.toList cs []) : OwnCells (w.alloc (.cells cur e)) (setF F w.heap.size 0) w.heap.size cs [] := by
  have hE := Ext.alloc (B := B) hB hb (.cells cur e) 0
  exact ⟨setF_self F _ _, cur, e, (0, 0), heap_alloc_new w _, fun o _ => frozen_new w cur e o, h.imp fun cv v o r hm => r.ext hE (fun _ _ x => x)⟩

def zeroT (P : Program) (t : TypeId) : Option Value := (P.info? t).bind (·.zero)
theorem run_zeroValue {t : TypeId} {z : Value} (h : zeroT P t = some z) : (zeroValue t).run P w = .ok z w := by
  unfold zeroT at h
  cases hi : P.info? t with
  | none => rw [hi] at h; cases h
  | some i =>
    rw [hi] at h
    simp only [Option.bind_some] at h
    simp [zeroValue, run_typeInfo hi, h]

theorem constL_cells : ∀ {cvs : List Value} {cs : List V}, constL cvs cs = true → RepL (RepC w F) cvs cs []
  | [], [], _ => .nil
  | a :: as, b :: bs, h => by
    simp only [constL, Bool.and_eq_true] at h
    have h1 := constOK1_rep h.1 w F
    refine .cons _ _ _ _ [] [] ⟨h1, ?_, ?_⟩ (constL_cells h.2)
    · cases a <;> cases b <;> simp [constOK1] at h <;> rfl
    · intro hd
      have h3 := h.1
      cases a <;> cases b <;> simp [constOK1] at h3 <;> first | rfl | exact hd | (rename_i o _ _; cases o <;> first | rfl | cases hd)
  | [], _ :: _, h => by cases h
  | _ :: _, [], h => by cases h

theorem op_newbox (h : Sim B a.tmps.toList w F ρ s rest osT osH) {t : TypeId} {cs : List V} {z : Value} (hop : o.op = .alloc t) (hz : zeroT P t = some z) (hc : constL z.cells.toList cs = true)
    (hr : opRes c (nth s.t) s.h (.newbox cs) = some r) : OpOK P a o B w F ρ s rest osT osH r := by
  simp only [opRes, Option.some.injEq] at hr
  subst hr
  refine OpOK.new h (cv := .pointer (some ⟨w.heap.size, 0, none⟩)) (ob := .cells z.cells t) (k := 0) (osV := [w.heap.size]) ?_ (.box _ _ _ (OwnCells.new (B := B) h.fresh h.base (constL_cells hc))) rfl (.inr ⟨rfl, rfl⟩)
  simp [execOp, hop, Instr.alloc, run_zeroValue hz, newVar, newRow]

/-- A new object. -/
theorem OpOK.newObj (h : Sim B a.tmps.toList w F ρ s rest osT osH) {cur : Array Value} {t : TypeId} {cs : List V} (hr : (execOp a.eval o).run P w = .ok (.value (.pointer (some ⟨w.heap.size, 0, none⟩))) (w.alloc (.cells cur t)))
    (hc : RepL (RepC w F) cur.toList cs []) : OpOK P a o B w F ρ s rest osT osH (.val [] (.ptr s.h.length 0) (s.h ++ [cs])) := by
  have hE := Ext.alloc (B := B) h.base h.fresh (.cells cur t) 0
  have h' := h.ext hE (fun _ _ => id)
  have hnew := OwnCells.new (B := B) (e := t) h.fresh h.base hc
  have hlen := h.heap.length
  have hH : ∀ {ρ : List Nat} {hp : Heap} {os : List Nat}, RepH (w.alloc (.cells cur t)) (setF F w.heap.size 0) ρ hp os → RepH (w.alloc (.cells cur t)) (setF F w.heap.size 0) (ρ ++ [w.heap.size]) (hp ++ [cs]) (os ++ [w.heap.size]) := by
    intro ρ hp os r
    induction r with
    | nil => exact .cons _ _ _ _ _ _ hnew .nil
    | cons b cs ρ hp os os' a _ ih => simpa using RepH.cons b cs _ _ os _ a ih
  have hpre : ∀ (id b : Nat), ρ[id]? = some b → (ρ ++ [w.heap.size])[id]? = some b := fun id b hh => by
    rw [List.getElem?_append_left]
    · exact hh
    · rcases Nat.lt_or_ge id ρ.length with h' | h'
      · exact h'
      · rw [List.getElem?_eq_none h'] at hh; cases hh
  refine ⟨_, _, _, ρ ++ [w.heap.size], osT, osH ++ [w.heap.size], [], .inl hr, hE.weaken (fun _ _ x => x.elim), hpre, ⟨h.tmps.ext hE hpre (fun b hb => h.lt (by simp [hb])) (fun _ _ => id), hH h'.heap, h.alias,
    .ptr _ _ w.heap.size (by rw [← hlen]; simp), trivial, fun b => ?_, fun b hb => ?_, h'.fresh, h'.base⟩, fun b hb => ?_⟩
  · have a1 := h.once b
    simp only [List.count_append, List.count_nil, List.count_singleton] at a1 ⊢
    by_cases hb : w.heap.size = b
    · subst hb
      have : ∀ l : List Nat, (∀ c ∈ l, c < w.heap.size) → l.count w.heap.size = 0 := fun l hl => List.count_eq_zero.2 fun hm => Nat.lt_irrefl _ (hl _ hm)
      have e1 := this osT fun c hc => h.lt (by simp [hc])
      have e2 := this osH fun c hc => h.lt (by simp [hc])
      have e3 := this rest fun c hc => h.lt (by simp [hc])
      simp only [beq_self_eq_true, if_true]
      omega
    · rw [if_neg (by simpa using hb)]
      omega
  · simp only [List.append_nil, List.mem_append, List.mem_singleton] at hb
    rcases hb with (hb | hb | hb) | hb
    · exact h'.inb b (by simp [hb])
    · exact h'.inb b (by simp [hb])
    · subst hb; exact ⟨h.base, by simp, setF_self F _ _⟩
    · exact h'.inb b (by simp [hb])
  · simp only [List.append_nil, List.mem_append, List.mem_singleton] at hb
    rcases hb with hb | hb | hb
    · exact .inl (by simp [hb])
    · exact .inl (by simp [hb])
    · exact .inr (Nat.le_of_eq hb.symm)

theorem op_newobj (h : Sim B a.tmps.toList w F ρ s rest osT osH) {t : TypeId} {cs : List V} {z : Value} (hop : o.op = .alloc t) (hz : zeroT P t = some z) (hc : constL z.cells.toList cs = true)
    (hr : opRes c (nth s.t) s.h (.newobj cs) = some r) : OpOK P a o B w F ρ s rest osT osH r := by
  simp only [opRes, Option.some.injEq] at hr
  subst hr
  refine OpOK.newObj h (cur := z.cells) (t := t) ?_ (constL_cells hc)
  simp [execOp, hop, Instr.alloc, run_zeroValue hz, newVar, newRow]

theorem run_box {t : TypeId} {x : Operand} (hop : o.op = .box t x) : (execOp a.eval o).run P w = .ok (.value (.pointer (some ⟨w.heap.size, 0, none⟩))) (w.alloc (.cells (a.eval x).cells t)) := by
  simp [execOp, hop, Instr.box, newVar, newRow]

theorem op_boxb (h : Sim B a.tmps.toList w F ρ s rest osT osH) {t : TypeId} {x : Operand} {y : Src} (hop : o.op = .box t x) (hc : chkS x y = true)
    (hr : opRes c (nth s.t) s.h (.boxb y) = some r) : OpOK P a o B w F ρ s rest osT osH r := by
  simp only [opRes] at hr
  cases hd : dat (nth s.t) y with
  | none => rw [hd] at hr; cases hr
  | some v =>
    rw [hd] at hr
    simp only [Option.some.injEq] at hr
    subst hr
    exact OpOK.new h (run_box hop) (.box _ _ _ (OwnCells.new (B := B) h.fresh h.base (h.dat hc hd).cellsL)) rfl (.inr ⟨rfl, rfl⟩)

theorem op_boxo (h : Sim B a.tmps.toList w F ρ s rest osT osH) {t : TypeId} {x : Operand} {y : Src} (hop : o.op = .box t x) (hc : chkS x y = true)
    (hr : opRes c (nth s.t) s.h (.boxo y) = some r) : OpOK P a o B w F ρ s rest osT osH r := by
  simp only [opRes] at hr
  cases hd : dat (nth s.t) y with
  | none => rw [hd] at hr; cases hr
  | some v =>
    rw [hd] at hr
    simp only [Option.some.injEq] at hr
    subst hr
    exact OpOK.newObj h (run_box hop) (h.dat hc hd).cellsL

/-- The cells of data, one by one. -/
theorem RepD.cells_nth {cv : Value} {v : V} (h : RepD w F cv v) : cv.cells.size = v.cells.length ∧ ∀ j, j < v.cells.length → ∃ cc, cv.cells[j]? = some cc ∧ RepD w F cc (nth v.cells j) ∧ (nth v.cells j).one = true := by
  cases hv : v with
  | agg cs =>
    rw [hv] at h
    cases h with
    | agg cvs _ h1 h2 h3 =>
      refine ⟨h1, fun j hj => ?_⟩
      simp only [V.cells] at hj
      exact ⟨cvs[j], by simp [Value.cells, show j < cvs.size by omega], h3 j (by omega), h2 j hj⟩
  | _ =>
    rw [← hv]
    have h1 : v.one = true := by
      have := h.data
      rw [hv] at this ⊢
      first | exact this | (rename_i o _ _; cases o <;> first | exact this | cases this)
    rw [V.one_cells h1, h.cells_one h1]
    refine ⟨rfl, fun j hj => ?_⟩
    have e : j = 0 := by simpa using hj
    subst e
    exact ⟨cv, rfl, h, h1⟩

theorem op_boxr (h : Sim B a.tmps.toList w F ρ s rest osT osH) {t : TypeId} {x : Operand} {y : Src} (hop : o.op = .box t x) (hc : chkS x y = true)
    (hr : opRes c (nth s.t) s.h (.boxr y) = some r) : OpOK P a o B w F ρ s rest osT osH r := by
  simp only [opRes] at hr
  cases hd : dat (nth s.t) y with
  | none => rw [hd] at hr; cases hr
  | some v =>
    rw [hd] at hr
    simp only [Option.some.injEq] at hr
    subst hr
    have hD := h.dat hc hd
    obtain ⟨h1, h2⟩ := hD.cells_nth
    have hE := Ext.alloc (B := B) h.base h.fresh (.cells (a.eval x).cells t) v.cells.length
    refine OpOK.new h (k := v.cells.length) (run_box hop) (.rptr _ _ _ (fun j => ((a.eval x).cells[j]?).getD undef) (by rw [setF_self]; omega) (fun j hj => ?_) (fun j hj => ?_)) rfl (.inl rfl)
    · obtain ⟨cc, q1, _⟩ := h2 j hj
      rw [Nat.zero_add, cell_new, q1]
      rfl
    · obtain ⟨cc, q1, q2, q3⟩ := h2 j hj
      rw [q1]
      exact ⟨q2.ext hE, q3⟩

theorem op_nck (h : Sim B a.tmps.toList w F ρ s rest osT osH) {x : Operand} {y : Src} {b : Option Nat} (hop : o.op = .nilCheck x) (hc : chkS x y = true)
    (hr : opRes c (nth s.t) s.h (.nck y b) = some r) : OpOK P a o B w F ρ s rest osT osH r := by
  simp only [opRes] at hr
  split at hr
  · rename_i d off hp
    simp only [Option.some.injEq] at hr
    subst hr
    obtain ⟨blk, he, hh⟩ := h.place_slot hc hp
    exact OpOK.pure h (by simp [execOp, hop, he]) (.bref _ _ _) ⟨blk, rfl, hh⟩
  · rename_i id off hp
    simp only [Option.some.injEq] at hr
    subst hr
    obtain ⟨blk, h1, he⟩ := h.place_obj hc hp
    exact OpOK.pure h (by simp [execOp, hop, he]) (.ptr _ _ _ h1) trivial
  · rename_i cs hp
    simp only [Option.some.injEq] at hr
    subst hr
    have := h.place_ro hc hp
    obtain ⟨blk, off, cvf, he, g1, g2, g3⟩ := rptr_inv this
    rw [he] at this
    exact OpOK.pure h (by simp [execOp, hop, he]) this trivial
  · split at hr
    · rename_i f caps he
      simp only [Option.some.injEq] at hr
      subst hr
      obtain ⟨os, hrep, _⟩ := h.ev hc
      rw [he] at hrep
      have := hrep.os_nil rfl
      subst this
      generalize hcv : a.eval x = cv at hrep
      have hrep' := hrep
      cases hrep with
      | e _ _ _ g2 => cases g2 with | d _ _ g2 => cases g2
      | fn f cvs caps g1 g2 => exact OpOK.pure h (by simp [execOp, hop, hcv]) hrep' trivial
    · cases hr

/-! Computing. -/
theorem op_un (h : Sim B a.tmps.toList w F ρ s rest osT osH) {x : Operand} {y : Src} {u : UnOp} {t : TypeId} (hop : o.op = .unOp u t x) (hc : chkS x y = true)
    (hr : opRes c (nth s.t) s.h (.un u y) = some r) : OpOK P a o B w F ρ s rest osT osH r := by
  simp only [opRes] at hr
  cases hu : unV u (Am.ev (nth s.t) y) with
  | none => rw [hu] at hr; cases hr
  | some v =>
    rw [hu] at hr
    simp only [Option.some.injEq] at hr
    subst hr
    obtain ⟨os, hrep, _⟩ := h.ev hc
    unfold unV at hu
    split at hu
    · rename_i b he
      rw [he] at hrep
      have hx := hrep.bool_inv
      cases u <;> simp at hu
      subst hu
      exact OpOK.data h (cv := .bool (!b)) (by simp [execOp, hop, hx, Op.unary]) (.bool _)
    · rename_i k n he
      rw [he] at hrep
      have hx := hrep.int_inv
      cases u <;> simp at hu
      · subst hu
        exact OpOK.data h (by simp [execOp, hop, hx, Op.unary, Op.intArith]) (.int _ _)
      · subst hu
        refine OpOK.data h (cv := .int k (bits .xor k (if k.signed then -1 else k.max) n)) ?_ (.int _ _)
        simp [execOp, hop, hx, Op.unary, Op.intBits, bits]
    · cases hu

theorem op_cvi (h : Sim B a.tmps.toList w F ρ s rest osT osH) {x : Operand} {y : Src} {t t' : TypeId} {k : IntKind} {d : TypeDesc} (hop : o.op = .convert t t' x) (hc : chkS x y = true) (hs : P.underlying t = some d) (ht : P.underlying t' = some (.int k))
    (hr : opRes c (nth s.t) s.h (.cvi k y) = some r) : OpOK P a o B w F ρ s rest osT osH r := by
  simp only [opRes] at hr
  split at hr
  · rename_i k' n he
    simp only [Option.some.injEq] at hr
    subst hr
    have hx := h.int' hc he
    exact OpOK.data h (by simp [execOp, hop, hx, convert, run_under hs, run_under ht, Conv.intToInt]) (.int _ _)
  · cases hr

theorem op_cvr (h : Sim B a.tmps.toList w F ρ s rest osT osH) {x : Operand} {y : Src} {t t' : TypeId} {k : IntKind} (hop : o.op = .convert t t' x) (hc : chkS x y = true) (hs : P.underlying t = some (.int k)) (ht : P.underlying t' = some .string)
    (hr : opRes c (nth s.t) s.h (.cvr y) = some r) : OpOK P a o B w F ρ s rest osT osH r := by
  simp only [opRes] at hr
  split at hr
  · rename_i k' n he
    simp only [Option.some.injEq] at hr
    subst hr
    have hx := h.int' hc he
    exact OpOK.data h (by simp [execOp, hop, hx, convert, run_under hs, run_under ht, Conv.intToString]) (.str _ _ rfl)
  · cases hr

theorem op_cvid (h : Sim B a.tmps.toList w F ρ s rest osT osH) {x : Operand} {y : Src} {t t' : TypeId} (hop : o.op = .convert t t' x) (hc : chkS x y = true) (hs : P.underlying t = some .string) (ht : P.underlying t' = some .string)
    (hr : opRes c (nth s.t) s.h (.cvid y) = some r) : OpOK P a o B w F ρ s rest osT osH r := by
  simp only [opRes] at hr
  split at hr
  · rename_i l he
    simp only [Option.some.injEq] at hr
    subst hr
    obtain ⟨os, hrep, _⟩ := h.ev hc
    rw [he] at hrep
    obtain ⟨sb, hx, hl⟩ := hrep.str_inv
    exact OpOK.data h (by simp [execOp, hop, hx, convert, run_under hs, run_under ht]) (.str _ _ hl)
  · cases hr

theorem op_mki (h : Sim B a.tmps.toList w F ρ s rest osT osH) {x : Operand} {y : Src} {t : TypeId} {d : TypeDesc} (hop : o.op = .makeInterface t x) (hc : chkS x y = true) (hs : P.underlying t = some d) (hni : ∀ ms, d ≠ .interface ms)
    (hr : opRes c (nth s.t) s.h (.mki t y) = some r) : OpOK P a o B w F ρ s rest osT osH r := by
  simp only [opRes] at hr
  cases hd : dat (nth s.t) y with
  | none => rw [hd] at hr; cases hr
  | some v =>
    rw [hd] at hr
    simp only [Option.some.injEq] at hr
    subst hr
    refine OpOK.data h (cv := .iface t (a.eval x)) ?_ (.ifc _ _ _ (h.dat hc hd))
    simp only [execOp, hop, Instr.makeInterface, Sem.run_bind, run_under hs, Result.andThen_ok]
    cases d <;> first | rfl | exact absurd rfl (hni _)

theorem op_pan (h : Sim B a.tmps.toList w F ρ s rest osT osH) {x : Operand} {y : Src} (hop : o.op = .panic x) (hc : chkS x y = true)
    (hr : opRes c (nth s.t) s.h (.pan y) = some r) : OpOK P a o B w F ρ s rest osT osH r := by
  simp only [opRes] at hr
  split at hr
  · rename_i t v he
    simp only [Option.some.injEq] at hr
    subst hr
    obtain ⟨os, hrep, _⟩ := h.ev hc
    rw [he] at hrep
    have hD := hrep.data rfl
    have hx : ∃ cv', a.eval x = .iface t cv' ∧ RepD w F cv' v := by
      generalize a.eval x = cv at hD
      cases hD
      exact ⟨_, rfl, by assumption⟩
    obtain ⟨cv', hx, hv⟩ := hx
    exact ⟨rfl, .iface t cv', by simp [execOp, hop, hx, Instr.panic], .ifc _ _ _ hv⟩
  · cases hr
end
end Go.Am
