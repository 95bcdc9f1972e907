/- Structs and slices. -/
import Derived.Test.YtbnjembcmddjoaaAm11
import Derived.Laws.Append
set_option linter.unusedVariables false
set_option linter.unusedSimpArgs false
namespace Go.Am
open Go Go.RowKit

section
variable {P : Program} {a : Act} {o : Oper} {B : Nat} {w : World} {F : Nat → Nat} {ρ : List Nat} {s : St} {rest osT osH : List Nat} {c : CallF} {r : Rs}

theorem run_mapM_list {α β : Type} (f : α → Sem β) (g : α → β) : ∀ (l : List α), (∀ x ∈ l, (f x).run P w = .ok (g x) w) → (l.mapM f).run P w = .ok (l.map g) w
  | [], _ => by simp
  | x :: l, h => by
    have ih := run_mapM_list f g l (fun y hy => h y (List.mem_cons_of_mem _ hy))
    simp [List.mapM_cons, h x (List.mem_cons_self ..), ih]

theorem run_mapM {α β : Type} (f : α → Sem β) (g : α → β) (l : Array α) (h : ∀ x ∈ l, (f x).run P w = .ok (g x) w) : (l.mapM f).run P w = .ok (l.map g) w := by
  rw [Array.mapM_eq_mapM_toList]
  simp only [Sem.run_map]
  rw [run_mapM_list f g l.toList (fun x hx => h x (by simpa using hx))]
  simp only [Result.andThen_ok]
  congr 1
  apply Array.ext'
  simp

theorem fill_fold (off : Nat) : ∀ (vs : List Value) (k : Nat) (cells : Array Value), (vs.zipIdx k).foldl (fun cs (c, j) => cs.setIfInBounds (off + j) c) cells = setA cells (off + k) vs
  | [], k, cells => rfl
  | v :: vs, k, cells => by
    simp only [List.zipIdx_cons, List.foldl_cons, setA]
    rw [fill_fold off vs (k + 1)]
    rfl

theorem fill_fold_arr (off : Nat) (vs cells : Array Value) : vs.zipIdx.foldl (fun cs (x : Value × Nat) => cs.setIfInBounds (off + x.2) x.1) cells = setA cells off vs.toList := by
  rw [← Array.foldl_toList]
  have : vs.zipIdx.toList = vs.toList.zipIdx := by simp
  rw [this]
  exact fill_fold off vs.toList 0 cells

/-- The parts of a struct literal, held against the model's. -/
def chkParts (place : Nat → Option (Nat × Nat)) : List (Nat × Operand) → List (Nat × Nat × Src) → Bool
  | [], [] => true
  | (i, x) :: ps, (off, sz, y) :: qs => place i == some (off, sz) && chkS x y && chkParts place ps qs
  | _, _ => false

theorem fill_ok (h : Sim B a.tmps.toList w F ρ s rest osT osH) (place : Nat → Option (Nat × Nat)) : ∀ (ps : List (Nat × Operand)) (qs : List (Nat × Nat × Src)) (cells : Array Value) (cs cs' : List V), chkParts place ps qs = true →
    RepL (RepC w F) cells.toList cs [] → fill cs (nth s.t) qs = some cs' →
    ∃ cells', Instr.fill place cells (ps.map fun p => (p.1, a.eval p.2)) = some cells' ∧ RepL (RepC w F) cells'.toList cs' []
  | [], [], cells, cs, cs', _, hr, hf => by
    simp only [fill, Option.some.injEq] at hf
    subst hf
    exact ⟨cells, rfl, hr⟩
  | (i, x) :: ps, (off, sz, y) :: qs, cells, cs, cs', hc, hr, hf => by
    simp only [chkParts, Bool.and_eq_true, beq_iff_eq] at hc
    obtain ⟨⟨h1, h2⟩, h3⟩ := hc
    simp only [fill] at hf
    cases hd : dat (nth s.t) y with
    | none => rw [hd] at hf; cases hf
    | some v =>
      rw [hd] at hf
      simp only at hf
      split at hf
      · rename_i hl
        have hD := h.dat h2 hd
        have hcl := hD.cellsL
        have hsz : (a.eval x).cells.size = sz := by rw [← hl.1]; simpa using hcl.length
        have hlen : cells.size = cs.length := by simpa using hr.length
        obtain ⟨os', q1, q2⟩ := hcl.overlay hr (o := off) (by omega)
        have hos : os' = [] := by
          cases os' with
          | nil => rfl
          | cons b os' => have := q2 b; simp at this
        subst hos
        obtain ⟨cells', g1, g2⟩ := fill_ok h place ps qs _ _ _ h3 q1 hf
        refine ⟨cells', ?_, g2⟩
        simp only [List.map_cons, Instr.fill, h1]
        rw [if_neg (by simp [hsz]; omega)]
        rw [fill_fold_arr]
        exact g1
      · cases hf
  | [], _ :: _, _, _, _, hc, _, _ => by cases hc
  | _ :: _, [], _, _, _, hc, _, _ => by cases hc

/-- Cells without a share in anything are data. -/
theorem agg_of_cells {cvs : Array Value} {cs : List V} (h : RepL (RepC w F) cvs.toList cs []) (h1 : cs.all V.one = true) : RepD w F (.agg cvs) (.agg cs) := by
  have hl : cvs.size = cs.length := by simpa using h.length
  refine .agg _ _ hl (fun j hj => all_nth h1 hj) (fun j hj => ?_)
  obtain ⟨cv, os, g1, g2⟩ := h.nth_getElem (d := j) (by omega)
  have : cvs[j] = cv := by
    have g1' : cvs[j]? = some cv := by simpa using g1
    rw [Array.getElem?_eq_getElem hj] at g1'
    simpa using g1'
  rw [this]
  exact (g2.1.data (V.one_data (all_nth h1 (by omega)))).1

def structPlace (P : Program) (fs : Array Field) (i : Nat) : Option (Nat × Nat) := (fs[i]?).bind fun f => (szT P f.type).map fun n => (f.offset, n)

theorem chkParts_congr {p q : Nat → Option (Nat × Nat)} : ∀ (ps : List (Nat × Operand)) (qs : List (Nat × Nat × Src)), (∀ i x, p i = some x → q i = some x) → chkParts p ps qs = true → chkParts q ps qs = true
  | [], [], _, _ => rfl
  | (i, x) :: ps, (off, sz, y) :: qs, hpq, h => by
    simp only [chkParts, Bool.and_eq_true, beq_iff_eq] at h ⊢
    exact ⟨⟨hpq _ _ h.1.1, h.1.2⟩, chkParts_congr ps qs hpq h.2⟩
  | [], _ :: _, _, h => by cases h
  | _ :: _, [], _, h => by cases h

theorem op_build_struct (h : Sim B a.tmps.toList w F ρ s rest osT osH) {t : TypeId} {ps : Array (Nat × Operand)} {qs : List (Nat × Nat × Src)} {zero : List V} {z : Value} {fs : Array Field} (hop : o.op = .build t ps) (hz : zeroT P t = some z)
    (hu : P.underlying t = some (.struct fs)) (hc : constL z.cells.toList zero = true) (hp : chkParts (structPlace P fs) ps.toList qs = true) (hall : fs.toList.all (fun f => (szT P f.type).isSome) = true)
    (hone : ∀ cs, fill zero (nth s.t) qs = some cs → cs.all V.one = true) (hr : opRes c (nth s.t) s.h (.build zero qs) = some r) : OpOK P a o B w F ρ s rest osT osH r := by
  simp only [opRes] at hr
  cases hf : fill zero (nth s.t) qs with
  | none => rw [hf] at hr; cases hr
  | some cs =>
    rw [hf] at hr
    simp only [Option.some.injEq] at hr
    subst hr
    have hm : (fs.mapM fun f => do pure (f.offset, ← sizeOf f.type) : Sem (Array (Nat × Nat))).run P w = .ok (fs.map fun f => (f.offset, (szT P f.type).getD 0)) w := by
      refine run_mapM _ _ fs (fun f hf => ?_)
      have := List.all_eq_true.1 hall f (by simpa using hf)
      obtain ⟨n, hn⟩ := Option.isSome_iff_exists.1 this
      simp [run_sizeOf hn, hn]
    obtain ⟨cells', g1, g2⟩ := fill_ok h (fun i => (fs.map fun f => (f.offset, (szT P f.type).getD 0))[i]?) ps.toList qs z.cells zero cs
      (chkParts_congr _ _ (fun i x hx => by
        unfold structPlace at hx
        cases hfi : fs[i]? with
        | none => rw [hfi] at hx; cases hx
        | some f =>
          rw [hfi] at hx
          simp only [Option.bind_some] at hx
          cases hs : szT P f.type with
          | none => rw [hs] at hx; cases hx
          | some n => rw [hs] at hx; simp only [Option.map_some, Option.some.injEq] at hx; simp [hfi, hs, hx]) hp) (constL_cells hc) hf
    refine OpOK.data h (cv := .agg cells') ?_ (agg_of_cells g2 (hone cs hf))
    have e1 : (ps.map fun (i, x) => (i, a.eval x)).toList = ps.toList.map fun p => (p.1, a.eval p.2) := by simp
    simp only [execOp, hop, Instr.build, Sem.run_bind, run_zeroValue hz, run_under hu, Result.andThen_ok, hm, e1, g1]
    simp

theorem op_build_array (h : Sim B a.tmps.toList w F ρ s rest osT osH) {t e : TypeId} {n k : Nat} {ps : Array (Nat × Operand)} {qs : List (Nat × Nat × Src)} {zero : List V} {z : Value} (hop : o.op = .build t ps) (hz : zeroT P t = some z)
    (hu : P.underlying t = some (.array n e)) (hk : szT P e = some k) (hc : constL z.cells.toList zero = true) (hp : chkParts (fun i => some (i * k, k)) ps.toList qs = true)
    (hone : ∀ cs, fill zero (nth s.t) qs = some cs → cs.all V.one = true) (hr : opRes c (nth s.t) s.h (.build zero qs) = some r) : OpOK P a o B w F ρ s rest osT osH r := by
  simp only [opRes] at hr
  cases hf : fill zero (nth s.t) qs with
  | none => rw [hf] at hr; cases hr
  | some cs =>
    rw [hf] at hr
    simp only [Option.some.injEq] at hr
    subst hr
    obtain ⟨cells', g1, g2⟩ := fill_ok h (fun i => some (i * k, k)) ps.toList qs z.cells zero cs hp (constL_cells hc) hf
    refine OpOK.data h (cv := .agg cells') ?_ (agg_of_cells g2 (hone cs hf))
    have e1 : (ps.map fun (i, x) => (i, a.eval x)).toList = ps.toList.map fun p => (p.1, a.eval p.2) := by simp
    simp only [execOp, hop, Instr.build, Sem.run_bind, run_zeroValue hz, run_under hu, Result.andThen_ok, run_sizeOf hk, e1, g1]
    simp

theorem all_upd {p : V → Bool} : ∀ {l : List V} {i : Nat} {v : V}, l.all p = true → p v = true → (upd l i v).all p = true
  | [], _, _, _, _ => rfl
  | x :: l, 0, v, h, hv => by simp only [upd, List.all_cons, Bool.and_eq_true] at h ⊢; exact ⟨hv, h.2⟩
  | x :: l, i + 1, v, h, hv => by simp only [upd, List.all_cons, Bool.and_eq_true] at h ⊢; exact ⟨h.1, all_upd h.2 hv⟩

theorem all_overlay {p : V → Bool} : ∀ {ws l : List V} {i : Nat}, l.all p = true → ws.all p = true → (overlay l i ws).all p = true
  | [], _, _, h, _ => h
  | x :: ws, l, i, h, hw => by
    simp only [List.all_cons, Bool.and_eq_true] at hw
    exact all_overlay (ws := ws) (all_upd h hw.1) hw.2

theorem RepD.all_one {cv : Value} {v : V} (h : RepD w F cv v) : v.cells.all V.one = true := by
  rw [List.all_eq_true]
  intro x hx
  obtain ⟨j, hj, rfl⟩ := List.getElem_of_mem hx
  obtain ⟨_, _, _, h3⟩ := h.cells_nth.2 j hj
  rwa [nth_eq_getElem hj] at h3

theorem fill_one (h : Sim B a.tmps.toList w F ρ s rest osT osH) {place : Nat → Option (Nat × Nat)} : ∀ {ps : List (Nat × Operand)} {qs : List (Nat × Nat × Src)} {cs cs' : List V}, chkParts place ps qs = true → cs.all V.one = true → fill cs (nth s.t) qs = some cs' → cs'.all V.one = true
  | [], [], cs, cs', _, h1, hf => by simp only [fill, Option.some.injEq] at hf; subst hf; exact h1
  | (i, x) :: ps, (off, sz, y) :: qs, cs, cs', hc, h1, hf => by
    simp only [chkParts, Bool.and_eq_true, beq_iff_eq] at hc
    simp only [fill] at hf
    cases hd : dat (nth s.t) y with
    | none => rw [hd] at hf; cases hf
    | some v =>
      rw [hd] at hf
      simp only at hf
      split at hf
      · exact fill_one h hc.2 (all_overlay h1 (h.dat hc.1.2 hd).all_one) hf
      · cases hf
  | [], _ :: _, _, _, hc, _, _ => by cases hc
  | _ :: _, [], _, _, hc, _, _ => by cases hc

theorem op_fld (h : Sim B a.tmps.toList w F ρ s rest osT osH) {x : Operand} {y : Src} {t : TypeId} {fi off n : Nat} {ag : Bool} {fs : Array Field} {f : Field} (hop : o.op = .field t x fi) (hc : chkS x y = true)
    (hu : P.underlying t = some (.struct fs)) (hf : fs[fi]? = some f) (ho : f.offset = off) (hn : if ag then aggT P f.type = true ∧ szT P f.type = some n else oneT P f.type = true)
    (hr : opRes c (nth s.t) s.h (.fld y off n ag) = some r) : OpOK P a o B w F ρ s rest osT osH r := by
  subst ho
  simp only [opRes] at hr
  split at hr
  · rename_i cs he
    obtain ⟨os, hrep, _⟩ := h.ev hc
    rw [he] at hrep
    obtain ⟨cvs, hx, h1, h2, h3⟩ := hrep.agg_inv
    split at hr
    · rename_i hl
      cases ag with
      | true =>
        simp only [if_true] at hn hr
        simp only [Option.some.injEq] at hr
        subst hr
        have hlen : ((cs.drop f.offset).take n).length = n := by rw [List.length_take, List.length_drop]; omega
        refine OpOK.data h (cv := .agg (cvs.extract f.offset (f.offset + n))) ?_ (.agg _ _ (by simp; omega) (fun j hj => ?_) (fun j hj => ?_))
        · simp [execOp, hop, hx, Instr.field, run_under hu, hf, asAgg, part, run_isAgg hn.1, run_sizeOf hn.2]
        · rw [hlen] at hj
          rw [nth_take _ _ _ hj, nth_drop]
          exact h2 _ (by omega)
        · simp at hj
          rw [nth_take _ _ _ (by omega), nth_drop]
          have := h3 (f.offset + j) (by omega)
          simpa using this
      | false =>
        simp only [Bool.false_eq_true, if_false] at hn hr
        split at hr
        · rename_i hn1
          simp only [Option.some.injEq] at hr
          subst hr
          have hlt : f.offset < cvs.size := by omega
          refine OpOK.data h (cv := cvs[f.offset]) ?_ (h3 _ hlt)
          simp [execOp, hop, hx, Instr.field, run_under hu, hf, asAgg, run_part hn (show cvs[f.offset]? = some cvs[f.offset] by simp [hlt])]
        · cases hr
    · cases hr
  · cases hr

theorem op_idx_arr (h : Sim B a.tmps.toList w F ρ s rest osT osH) {x i : Operand} {y j : Src} {t e : TypeId} {m n : Nat} {ag : Bool} (hop : o.op = .index t x i) (hc : chkS x y = true) (hj : chkS i j = true)
    (hu : P.underlying t = some (.array m e)) (hsz : szT P e = some n) (hn0 : 0 < n) (hn : if ag then aggT P e = true else oneT P e = true)
    (hr : opRes c (nth s.t) s.h (.idx y j (some m) n ag) = some r) : OpOK P a o B w F ρ s rest osT osH r := by
  simp only [opRes] at hr
  cases hi : intOf (nth s.t) j with
  | none => rw [hi] at hr; cases hr
  | some k =>
    rw [hi] at hr
    simp only at hr
    obtain ⟨kk, hik⟩ := h.int hj hi
    split at hr
    · rename_i cs m' he hm
      obtain rfl : m = m' := by simpa using hm
      obtain ⟨os, hrep, _⟩ := h.ev hc
      rw [he] at hrep
      obtain ⟨cvs, hx, h1, h2, h3⟩ := hrep.agg_inv
      split at hr
      · rename_i hl
        have hsucc : k.toNat * n + n ≤ cs.length := by
          have := hl.2.2
          rw [Nat.succ_mul] at this
          exact this
        have hk : 0 ≤ k ∧ k < (m : Int) := ⟨hl.1, hl.2.1⟩
        cases ag with
        | true =>
          simp only [if_true] at hn hr
          simp only [Option.some.injEq] at hr
          subst hr
          have hl2 : ((cs.drop (k.toNat * n)).take n).length = n := by rw [List.length_take, List.length_drop]; omega
          refine OpOK.data h (cv := .agg (cvs.extract (k.toNat * n) (k.toNat * n + n))) ?_ (.agg _ _ (by simp; omega) (fun j hj => ?_) (fun j hj => ?_))
          · simp [execOp, hop, hx, hik, Instr.index, run_under hu, asIntOf, hk.1, hk.2, part, run_isAgg hn, run_sizeOf hsz]
          · rw [hl2] at hj
            rw [nth_take _ _ _ hj, nth_drop]
            exact h2 _ (by omega)
          · simp at hj
            rw [nth_take _ _ _ (by omega), nth_drop]
            have := h3 (k.toNat * n + j) (by omega)
            simpa using this
        | false =>
          simp only [Bool.false_eq_true, if_false] at hn hr
          split at hr
          · rename_i hn1
            subst hn1
            simp only [Option.some.injEq] at hr
            subst hr
            have hlt : k.toNat < cvs.size := by omega
            refine OpOK.data h (cv := cvs[k.toNat]) ?_ (h3 _ hlt)
            have hp := run_part (P := P) (w := w) hn (show cvs[k.toNat * 1]? = some cvs[k.toNat] by simp [hlt])
            simp only [Nat.mul_one] at hp
            simp [execOp, hop, hx, hik, Instr.index, run_under hu, asIntOf, hk.1, hk.2, run_sizeOf hsz, hp]
          · cases hr
      · cases hr
    · rename_i hm; cases hm
    · cases hr

theorem op_idx_str (h : Sim B a.tmps.toList w F ρ s rest osT osH) {x i : Operand} {y j : Src} {t : TypeId} {n : Nat} {ag : Bool} (hop : o.op = .index t x i) (hc : chkS x y = true) (hj : chkS i j = true)
    (hu : P.underlying t = some .string) (hr : opRes c (nth s.t) s.h (.idx y j none n ag) = some r) : OpOK P a o B w F ρ s rest osT osH r := by
  simp only [opRes] at hr
  cases hi : intOf (nth s.t) j with
  | none => rw [hi] at hr; cases hr
  | some k =>
    rw [hi] at hr
    simp only at hr
    obtain ⟨kk, hik⟩ := h.int hj hi
    split at hr
    · rename_i hm; cases hm
    · rename_i l he _
      obtain ⟨os, hrep, _⟩ := h.ev hc
      rw [he] at hrep
      obtain ⟨sb, hx, rfl⟩ := hrep.str_inv
      split at hr
      · rename_i hk
        simp only [Option.some.injEq] at hr
        subst hr
        have hlt : k.toNat < sb.size := by
          have : sb.data.toList.length = sb.size := rfl
          omega
        have hg : sb[k.toNat]? = some sb[k.toNat] := by simp [hlt]
        have hd : sb.data.toList[k.toNat]? = some sb[k.toNat] := by
          rw [List.getElem?_eq_getElem (by simpa using hlt)]
          rfl
        refine OpOK.data h (cv := .int .u8 (sb[k.toNat]).toNat) ?_ (by rw [hd]; exact .int _ _)
        simp [execOp, hop, hx, hik, Instr.index, run_under hu, asIntOf, hk.1, hg]
      · cases hr
    · cases hr

theorem op_ext (h : Sim B a.tmps.toList w F ρ s rest osT osH) {j i : Nat} (hop : o.op = .extract (.tmp j) i) (hr : opRes c (nth s.t) s.h (.ext j i) = some r) : OpOK P a o B w F ρ s rest osT osH r := by
  simp only [opRes] at hr
  split at hr
  · rename_i vs hj
    split at hr
    · rename_i hi
      have hjl : j < s.t.length := nth_lt (fun hh => by rw [hh] at hj; cases hj)
      obtain ⟨cv, o1, od, o2, g1, g2, g3, g4⟩ := h.tmps.at hjl
      rw [hj] at g3
      have hx := eval_tmp a rfl j g1
      cases g3 with
      | e _ _ _ g3 => cases g3 with | d _ _ g3 => cases g3
      | tup cvs _ os g3 =>
        obtain ⟨cv', p1, po, p2, q1, q2, q3, q4⟩ := g3.at hi
        have hrun : (execOp a.eval o).run P w = .ok (.value cv') w := by
          have : cvs.toArray[i]? = some cv' := by simpa using q1
          simp [execOp, hop, hx, Instr.extract, this]
        have hal : isAl (nth vs i) = false := by
          cases hz : nth vs i <;> first | rfl | (rw [hz] at q3; cases q3 with | d _ _ r => cases r)
        split at hr
        · rename_i hlin
          simp only [Option.some.injEq] at hr
          subst hr
          have hset := q4 (RepE w F) cv' .undef [] (fun _ _ _ r _ => r) (.undef _)
          rw [list_set_self q1] at hset
          have hT := g4 (RepV w F ρ) (.tuple cvs.toArray) (.tup (upd vs i .undef)) (p1 ++ [] ++ p2) (fun _ _ _ r _ => r) (.tup _ _ _ hset)
          rw [list_set_self g1] at hT
          refine ⟨cv', w, F, ρ, _, osH, po, .inl hrun, Ext.refl h.fresh, fun _ _ x => x, ⟨hT, h.heap, h.alias.view (fl := false) rfl (.inr ⟨(fun ⟨cs, hh⟩ => by rw [hj] at hh; cases hh), (fun ⟨sz, xs, hh⟩ => by rw [hj] at hh; cases hh)⟩),
            .e _ _ _ q3, aliasV_of hal, fun b => ?_, fun b hb => ?_, h.fresh, h.base⟩, fun b hb => .inl ?_⟩
          · have := h.once b
            rw [g2, q2] at this
            simp only [List.count_append, List.count_nil] at this ⊢
            omega
          · refine h.inb b ?_
            rw [g2, q2]
            simp only [List.mem_append] at hb ⊢
            rcases hb with ((((hb | ((hb | hb) | hb)) | hb) | hb) | hb) | hb <;> first | (simp [hb]; done) | cases hb
          · rw [g2, q2]
            simp only [List.mem_append] at hb ⊢
            rcases hb with (((hb | ((hb | hb) | hb)) | hb) | hb) | hb <;> first | (simp [hb]; done) | cases hb
        · rename_i hlin
          simp only [Option.some.injEq] at hr
          subst hr
          have hrv : RepV w F ρ cv' (nth vs i) po := .e _ _ _ q3
          have := hrv.os_nil (by simpa using hlin)
          subst this
          exact OpOK.pure h hrun hrv (aliasV_of hal)
    · cases hr
  · cases hr

theorem op_tas (h : Sim B a.tmps.toList w F ρ s rest osT osH) {x : Operand} {y : Src} {t t' : TypeId} {ok : Bool} {zero : V} {z : Value} {d : TypeDesc} (hop : o.op = .typeAssert x t' t ok) (hc : chkS x y = true) (hu : P.underlying t = some d)
    (hd : ∀ ms, d ≠ .interface ms) (hz : zeroT P t = some z) (hcz : constOK z zero = true) (hr : opRes c (nth s.t) s.h (.tas y t ok zero) = some r) : OpOK P a o B w F ρ s rest osT osH r := by
  simp only [opRes] at hr
  split at hr
  · rename_i t'' v he
    obtain ⟨os, hrep, _⟩ := h.ev hc
    rw [he] at hrep
    have hD := hrep.data rfl
    have hx : ∃ cv', a.eval x = .iface t'' cv' ∧ RepD w F cv' v := by
      generalize a.eval x = cv at hD
      cases hD
      exact ⟨_, rfl, by assumption⟩
    obtain ⟨cv', hx, hv⟩ := hx
    have hmatch : ∀ {v2 : Value} {w2 : World}, (if t'' = t then (Pure.pure (if ok then .tuple #[cv', .bool true] else cv') : Sem Value) else (if ok then do Pure.pure (.tuple #[← zeroValue t, .bool false]) else runtimePanic (.typeAssertion (some t') (some t'') t ""))).run P w = .ok v2 w2 →
        (execOp a.eval o).run P w = .ok (.value v2) w2 := by
      intro v2 w2 hh
      have : (Instr.typeAssert (.iface t'' cv') t' t ok).run P w = .ok v2 w2 := by
        rw [← hh]
        simp only [Instr.typeAssert, Sem.run_bind, run_under hu, Result.andThen_ok]
      simp [execOp, hop, hx, this]
    split at hr
    · rename_i ht
      simp only [Option.some.injEq] at hr
      subst hr
      cases ok with
      | true =>
        refine OpOK.pure h (cv := .tuple #[cv', .bool true]) (hmatch (by simp [ht])) ?_ trivial
        have := RepL.cons (R := RepE w F) cv' v [.bool true] [.bool true] [] [] (.d _ _ hv) (.cons _ _ _ _ [] [] (.d _ _ (.bool true)) .nil)
        exact .tup _ _ _ this
      | false => exact OpOK.data h (hmatch (by simp [ht])) hv
    · rename_i ht
      split at hr
      · rename_i hok
        simp only [Option.some.injEq] at hr
        subst hr
        subst hok
        refine OpOK.pure h (cv := .tuple #[z, .bool false]) (hmatch (by simp [ht, run_zeroValue hz])) ?_ trivial
        have := RepL.cons (R := RepE w F) z zero [.bool false] [.bool false] [] [] (constOK_rep hcz w F) (.cons _ _ _ _ [] [] (.d _ _ (.bool false)) .nil)
        exact .tup _ _ _ this
      · cases hr
  · cases hr

theorem op_mkf (h : Sim B a.tmps.toList w F ρ s rest osT osH) {f : FuncId} {xs : Array Operand} {ys : List Src} (hop : o.op = .makeFunc (.func f) #[] xs) (hl : xs.size = ys.length) (hc : ∀ j (hj : j < xs.size), ∃ y, ys[j]? = some y ∧ chkS xs[j] y = true)
    (hr : opRes c (nth s.t) s.h (.mkf f ys) = some r) : OpOK P a o B w F ρ s rest osT osH r := by
  simp only [opRes] at hr
  cases hcap : capsOf (nth s.t) ys with
  | none => rw [hcap] at hr; cases hr
  | some vs =>
    rw [hcap] at hr
    simp only [Option.some.injEq] at hr
    subst hr
    have key : ∀ (ys : List Src) (vs : List V), capsOf (nth s.t) ys = some vs → vs.length = ys.length ∧ ∀ (j : Nat) (y : Src), ys[j]? = some y → ∃ id off, nth vs j = .ptr id off ∧ Am.ev (nth s.t) y = .ptr id off := by
      intro ys
      induction ys with
      | nil => intro vs hv; simp only [capsOf, Option.some.injEq] at hv; subst hv; exact ⟨rfl, fun j y hy => by simp at hy⟩
      | cons y ys ih =>
        intro vs hv
        simp only [capsOf] at hv
        split at hv
        · rename_i id off vs' e1 e2
          simp only [Option.some.injEq] at hv
          subst hv
          obtain ⟨i1, i2⟩ := ih _ e2
          refine ⟨by simp [i1], fun j y' hy => ?_⟩
          cases j with
          | zero => simp at hy; subst hy; exact ⟨id, off, rfl, e1⟩
          | succ j => exact i2 j y' (by simpa using hy)
        · cases hv
    obtain ⟨k1, k2⟩ := key ys vs hcap
    refine OpOK.pure h (cv := .func (.func f) #[] (xs.map a.eval)) (by simp [execOp, hop, Instr.makeFunc]) (.fn f _ _ (by simp [k1, hl]) (fun j hj => ?_)) trivial
    have hjx : j < xs.size := by omega
    obtain ⟨y, hy, hcy⟩ := hc j hjx
    obtain ⟨id, off, e1, e2⟩ := k2 j y hy
    obtain ⟨os, hrep, _⟩ := h.ev hcy
    rw [e2] at hrep
    generalize hcv : a.eval xs[j] = cv at hrep
    cases hrep with
    | e _ _ _ g2 => cases g2 with | d _ _ g2 => cases g2
    | ptr _ _ b g => exact ⟨id, off, b, e1, g, by simp [hjx, hcv]⟩

theorem run_len_op {x : Operand} {t ty : TypeId} {v : Value} (hop : o.op = .call ⟨.builtin .len, #[x], #[t]⟩) (hr : (Builtin.len_ #[t] o.type #[a.eval x]).run P w = .ok v w) : (execOp a.eval o).run P w = .ok (.value v) w := by
  simp [execOp, hop, resolve, invoke, builtin, hr]
end
end Go.Am
