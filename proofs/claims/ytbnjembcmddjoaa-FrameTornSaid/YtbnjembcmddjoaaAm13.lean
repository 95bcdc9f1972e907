/- Slices. -/
import Derived.Test.YtbnjembcmddjoaaAm12
import Derived.Laws.NewBlocks
import Derived.Laws.IdiomStrings
import Derived.Laws.MakeOwn
set_option linter.unusedVariables false
set_option linter.unusedSimpArgs false
namespace Go.Am
open Go Go.RowKit

section
variable {P : Program} {a : Act} {o : Oper} {B : Nat} {w : World} {F : Nat → Nat} {ρ : List Nat} {s : St} {rest osT osH : List Nat} {c : CallF} {r : Rs}

/-- A slice's elements, wherever they lie: own, shared, or by another slot. -/
structure Reads (w : World) (F : Nat → Nat) (b off len sz : Nat) (xs : List V) : Prop where
  hlen : len = xs.length
  elem : ∀ i, i < xs.length → (nth xs i).cells.length = sz ∧ (nth xs i).data = true
  cell : ∀ i j, i < xs.length → j < sz → ∃ cv, w.cell? ⟨b, off + i * sz + j, none⟩ = some cv ∧ RepD w F cv (nth (nth xs i).cells j) ∧ (nth (nth xs i).cells j).one = true

theorem OwnSl.reads {b len cap sz : Nat} {xs : List V} (h : OwnSl w F b len cap sz xs) : Reads w F b 0 len sz xs :=
  ⟨h.hlen, h.elem, fun i j hi hj => by have := h.cell i j hi hj; simpa using this⟩

theorem RepV.slice {cv : Value} {own : Bool} {sz : Nat} {xs : List V} {os : List Nat} (h : RepV w F ρ cv (.sl own sz xs) os) :
    ((∃ p, cv = .slice p 0 0) ∧ xs = []) ∨ ∃ b off cap, cv = .slice (some ⟨b, off, none⟩) xs.length cap ∧ Reads w F b off xs.length sz xs := by
  cases own with
  | false =>
    rcases sl_inv (h.data rfl) with h | ⟨b, off, cap, cvf, g1, g2, g3, g4, g5, g6, g7⟩
    · exact .inl h
    · exact .inr ⟨b, off, cap, g1, rfl, g4, fun i j hi hj => ⟨_, g5 i j hi hj, g7 i j hi hj, g6 i j hi hj⟩⟩
  | true =>
    cases h with
    | e _ _ _ h =>
      cases h with
      | d _ _ h => cases h
      | ownnil => exact .inl ⟨⟨none, rfl⟩, rfl⟩
      | own b len cap _ _ h =>
        have hl := h.hlen
        subst hl
        exact .inr ⟨b, 0, cap, rfl, h.reads⟩

theorem Sim.rdsl (h : Sim B a.tmps.toList w F ρ s rest osT osH) {x : Operand} {y : Src} {b : Option Nat} {sz : Nat} {xs : List V} (hc : chkS x y = true) (hr : rdsl (nth s.t) y b = some (sz, xs)) :
    ((∃ p, a.eval x = .slice p 0 0) ∧ xs = []) ∨ ∃ b off cap, a.eval x = .slice (some ⟨b, off, none⟩) xs.length cap ∧ Reads w F b off xs.length sz xs := by
  unfold Am.rdsl at hr
  split at hr
  · rename_i own sz' xs' he
    simp only [Option.some.injEq, Prod.mk.injEq] at hr
    obtain ⟨rfl, rfl⟩ := hr
    obtain ⟨os, hrep, _⟩ := h.ev hc
    rw [he] at hrep
    exact hrep.slice
  · rename_i d he
    split at hr
    · split at hr
      · split at hr
        · rename_i own sz' xs' hd
          simp only [Option.some.injEq, Prod.mk.injEq] at hr
          obtain ⟨rfl, rfl⟩ := hr
          cases y with
          | t i =>
            simp only [Am.ev] at he
            have hi : i < s.t.length := nth_lt (fun hh => by rw [hh] at he; cases he)
            obtain ⟨cv, od, g1, g2, _⟩ := h.tmps.get hi
            have ha := h.alias i cv g1
            rw [he] at ha
            obtain ⟨_, ha⟩ := ha
            have hd' : d < s.t.length := nth_lt (fun hh => by rw [hh] at hd; cases hd)
            obtain ⟨cv', od', q1, q2, _⟩ := h.tmps.get hd'
            rw [hd] at q2
            rw [q1] at ha
            simp only [Option.some.injEq] at ha
            subst ha
            have hx : a.eval x = cv' := by
              cases x with
              | tmp t => simp only [chkS, beq_iff_eq] at hc; subst hc; exact eval_tmp a rfl t g1
              | _ => cases hc
            rw [hx]
            exact q2.slice
          | c v =>
            simp only [Am.ev] at he
            subst he
            cases x <;> simp [chkS] at hc
            rename_i cv
            cases cv <;> simp [constOK, constOK1] at hc
          | f g => cases he
        · cases hr
      · cases hr
    · cases hr
  · cases hr

theorem op_len (h : Sim B a.tmps.toList w F ρ s rest osT osH) {x : Operand} {y : Src} {t : TypeId} {b : Option Nat} (hop : o.op = .call ⟨.builtin .len, #[x], #[t]⟩) (hc : chkS x y = true)
    {st : Bool} (hu : if st then P.underlying t = some .string else ∃ e, P.underlying t = some (.slice e)) (hr : opRes c (nth s.t) s.h (.len st y b) = some r) : OpOK P a o B w F ρ s rest osT osH r := by
  simp only [opRes] at hr
  cases st with
  | true =>
    simp only [if_true] at hr hu
    split at hr
    · rename_i l he
      simp only [Option.some.injEq] at hr
      subst hr
      obtain ⟨os, hrep, _⟩ := h.ev hc
      rw [he] at hrep
      obtain ⟨sb, hx, rfl⟩ := hrep.str_inv
      exact OpOK.data h (cv := .int .i64 sb.data.toList.length) (run_len_op (ty := t) hop (by rw [hx]; simp [Builtin.len_, run_under hu, goInt])) (.int _ _)
    · cases hr
  | false =>
    simp only [Bool.false_eq_true, if_false] at hr hu
    cases hrd : rdsl (nth s.t) y b with
    | none => rw [hrd] at hr; cases hr
    | some q =>
      obtain ⟨sz, xs⟩ := q
      rw [hrd] at hr
      simp only [Option.some.injEq] at hr
      subst hr
      obtain ⟨e, hus⟩ := hu
      rcases h.rdsl hc hrd with ⟨⟨p, hx⟩, rfl⟩ | ⟨b', off, cap, hx, _⟩
      · exact OpOK.data h (cv := .int .i64 0) (run_len_op (ty := t) hop (by rw [hx]; simp [Builtin.len_, run_under hus, goInt])) (.int _ _)
      · exact OpOK.data h (cv := .int .i64 xs.length) (run_len_op (ty := t) hop (by rw [hx]; simp [Builtin.len_, run_under hus, goInt])) (.int _ _)

/-- The flat row of a slice's cells. -/
def cellAt (w : World) (b off : Nat) (j : Nat) : Value := (w.cell? ⟨b, off + j, none⟩).getD undef

theorem divmod_lt {j n sz : Nat} (h : j < n * sz) : j / sz < n ∧ j % sz < sz ∧ j = j / sz * sz + j % sz := by
  have hs : 0 < sz := by
    rcases Nat.eq_zero_or_pos sz with h0 | h0
    · subst h0; simp at h
    · exact h0
  refine ⟨(Nat.div_lt_iff_lt_mul hs).2 h, Nat.mod_lt _ hs, ?_⟩
  have := Nat.div_add_mod j sz
  rw [Nat.mul_comm] at this
  omega

theorem Reads.cellAt {b off len sz : Nat} {xs : List V} (h : Reads w F b off len sz xs) {j : Nat} (hj : j < xs.length * sz) :
    w.cell? ⟨b, off + j, none⟩ = some (Am.cellAt w b off j) ∧ RepD w F (Am.cellAt w b off j) (nth (nth xs (j / sz)).cells (j % sz)) ∧ (nth (nth xs (j / sz)).cells (j % sz)).one = true := by
  obtain ⟨h1, h2, h3⟩ := divmod_lt hj
  obtain ⟨cv, g1, g2, g3⟩ := h.cell _ _ h1 h2
  rw [Nat.add_assoc, ← h3] at g1
  have : Am.cellAt w b off j = cv := by simp [Am.cellAt, g1]
  rw [this]
  exact ⟨g1, g2, g3⟩

theorem byteOf_data {cv : Value} {v : V} (h : RepD w F cv v) (hu : isU8 v = true) : ∃ n, v = .int .u8 n ∧ cv = .int .u8 n := by
  unfold isU8 at hu
  split at hu
  · cases h; exact ⟨_, rfl, rfl⟩
  · cases hu

theorem op_cvs (h : Sim B a.tmps.toList w F ρ s rest osT osH) {x : Operand} {y : Src} {t t' e : TypeId} {b : Option Nat} (hop : o.op = .convert t t' x) (hc : chkS x y = true) (hu : P.underlying t = some (.slice e)) (hue : P.underlying e = some (.int .u8))
    (hu' : P.underlying t' = some .string) (hr : opRes c (nth s.t) s.h (.cvs y b) = some r) : OpOK P a o B w F ρ s rest osT osH r := by
  simp only [opRes] at hr
  split at hr
  · rename_i xs hrd
    split at hr
    · rename_i hall
      simp only [Option.some.injEq] at hr
      subst hr
      have hrun : ∀ cv v, (Conv.bytesToString (a.eval x)).run P w = .ok cv w → (∃ p l cc, a.eval x = .slice p l cc) → RepD w F cv v → OpOK P a o B w F ρ s rest osT osH (.val [] v s.h) := fun cv v hh ⟨p, l, cc, hx⟩ hD => by
        refine OpOK.data h (cv := cv) ?_ hD
        have := run_convert_bytes_string (P := P) w t t' e p l cc hu hue hu'
        rw [← hx, hh] at this
        simp [execOp, hop, this]
      rcases h.rdsl hc hrd with ⟨⟨p, hx⟩, rfl⟩ | ⟨b', off, cap, hx, hR⟩
      · exact hrun (.string .empty) _ (by rw [hx]; cases p with
          | none => simp [Conv.bytesToString]
          | some a0 => exact run_bytesToString (P := P) w a0 0 0 [] (by simpa using run_loadCells_list (P := P) w a0 [] (by simp))) ⟨_, _, _, hx⟩ (.str _ _ rfl)
      · have hcell : ∀ j, j < xs.length → ∃ n, nth xs j = .int .u8 n ∧ w.cell? ⟨b', off + j, none⟩ = some (.int .u8 n) := fun j hj => by
          obtain ⟨cv, g1, g2, g3⟩ := hR.cell j 0 hj (by omega)
          have hu8 := all_nth hall hj
          have h1 : (nth xs j).cells = [nth xs j] := by
            unfold isU8 at hu8
            split at hu8
            · rename_i hh; rw [hh]; rfl
            · cases hu8
          rw [h1] at g2
          obtain ⟨n, e1, e2⟩ := byteOf_data g2 hu8
          exact ⟨n, e1, by rw [← e2]; simpa using g1⟩
        let num : V → Int := fun v => match v with | .int _ n => n | _ => 0
        have hl : (loadCells ⟨b', off, none⟩ xs.length).run P w = .ok ((xs.map num).map (Value.int .u8)).toArray w := by
          have := run_loadCells_list (P := P) w ⟨b', off, none⟩ ((xs.map num).map (Value.int .u8)) (fun j v hj => by
            rw [addr_add]
            by_cases hjl : j < xs.length
            · obtain ⟨n, e1, e2⟩ := hcell j hjl
              rw [e2, ← hj]
              rw [nth_eq_getElem hjl] at e1
              simp [hjl, e1, num]
            · rw [List.getElem?_eq_none (by simp; omega)] at hj; cases hj)
          simpa using this
        have hb := run_bytesToString (P := P) w ⟨b', off, none⟩ xs.length cap (xs.map num) hl
        refine hrun _ _ (by rw [hx]; exact hb) ⟨_, _, _, hx⟩ (.str _ _ ?_)
        have key : ∀ (ys : List V) (acc : ByteArray), ys.all isU8 = true → ((ys.map num).foldl (fun r n => r.push (UInt8.ofNat n.toNat)) acc).data.toList = acc.data.toList ++ ys.map byteOf := by
          intro ys
          induction ys with
          | nil => intro acc _; simp
          | cons v ys ih =>
            intro acc hv
            simp only [List.all_cons, Bool.and_eq_true] at hv
            simp only [List.map_cons, List.foldl_cons]
            rw [ih _ hv.2]
            cases v <;> simp [isU8] at hv
            simp [num, byteOf, ByteArray.push]
        have := key xs ByteArray.empty hall
        simpa using this
    · cases hr
  · cases hr

/-- New own memory with a given row of cells. -/
theorem OwnSl.new {cur : Array Value} {e : TypeId} {fr : Nat × Nat} {len cap sz : Nat} {xs : List V} {w1 : World} {F1 : Nat → Nat} {b : Nat} (hb : w1.heap[b]? = some (.cells cur e fr)) (hF : F1 b = 0) (hfr : ∀ o, o < cur.size → w1.frozen? ⟨b, o, none⟩ = false)
    (hl : len = xs.length) (hlc : len ≤ cap) (hsz : cap * sz ≤ cur.size) (he : ∀ i, i < xs.length → (nth xs i).cells.length = sz ∧ (nth xs i).data = true)
    (hc : ∀ i j, i < xs.length → j < sz → ∃ cv, cur[i * sz + j]? = some cv ∧ RepD w1 F1 cv (nth (nth xs i).cells j) ∧ (nth (nth xs i).cells j).one = true) : OwnSl w1 F1 b len cap sz xs := by
  refine ⟨hl, hlc, hF, ⟨cur, e, fr, hb, hsz, hfr⟩, he, fun i j hi hj => ?_⟩
  obtain ⟨cv, g1, g2, g3⟩ := hc i j hi hj
  refine ⟨cv, ?_, g2, g3⟩
  simp only [World.cell?, hb, Option.isSome_none, Bool.false_eq_true, if_false]
  exact g1

theorem op_cvb (h : Sim B a.tmps.toList w F ρ s rest osT osH) {x : Operand} {y : Src} {t t' e : TypeId} (hop : o.op = .convert t t' x) (hc : chkS x y = true) (hu : P.underlying t = some .string) (hu' : P.underlying t' = some (.slice e)) (hue : P.underlying e = some (.int .u8))
    (hr : opRes c (nth s.t) s.h (.cvb y) = some r) : OpOK P a o B w F ρ s rest osT osH r := by
  simp only [opRes] at hr
  split at hr
  · rename_i l he
    split at hr
    · simp only [Option.some.injEq] at hr
      subst hr
      obtain ⟨os, hrep, _⟩ := h.ev hc
      rw [he] at hrep
      obtain ⟨sb, hx, rfl⟩ := hrep.str_inv
      have hrun := run_bytes_of_string (P := P) w t t' e sb hu hu' hue
      have hcap : sb.size ≤ grownCap w sb.size 0 e := by unfold grownCap; simp only [Question.cut]; omega
      generalize hC : bytesRow sb (grownCap w sb.size 0 e) = C at hrun
      have hE := (Ext.drew (B := B) (w := w) h.fresh).transF (Ext.alloc (B := B) (w := w.drew) h.base h.fresh (.cells C e (C.size, C.size + 1)) 0)
      have hCs : C.size = grownCap w sb.size 0 e := by
        rw [← hC]
        simp only [bytesRow, Array.size_append, Array.size_map, Array.size_replicate]
        have : sb.data.size = sb.size := rfl
        omega
      have hBl : (Am.B sb.data.toList).length = sb.size := by simp [Am.B]
      have hnth : ∀ i, i < sb.size → nth (Am.B sb.data.toList) i = .int .u8 (sb.data.toList[i]?.getD 0).toNat := fun i hi => by
        have hi' : i < sb.data.toList.length := by simpa using hi
        rw [nth_eq_getElem (by simp [Am.B]; exact hi)]
        simp [Am.B, List.getElem?_eq_getElem hi']
      have hown : OwnSl (w.drew.alloc (.cells C e (C.size, C.size + 1))) (setF F w.heap.size 0) w.heap.size sb.size (grownCap w sb.size 0 e) 1 (Am.B sb.data.toList) := by
        refine OwnSl.new (heap_alloc_new w.drew _) (setF_self F _ _) (fun o ho => ?_) hBl.symm hcap (by omega) (fun i hi => ?_) (fun i j hi hj => ?_)
        · show World.frozen? (w.drew.alloc _) ⟨w.drew.heap.size, o, none⟩ = false
          simp only [World.frozen?, heap_alloc_new]
          simp
          omega
        · rw [hnth i (by omega)]; exact ⟨rfl, rfl⟩
        · obtain rfl : j = 0 := by omega
          have hi' : i < sb.size := by omega
          rw [hnth i hi']
          refine ⟨.int .u8 (sb.data.toList[i]?.getD 0).toNat, ?_, .int _ _, rfl⟩
          rw [← hC]
          have hs : sb.data.size = sb.size := rfl
          simp [bytesRow, Array.getElem?_append, hs, hi']
      refine ⟨.slice (some ⟨w.heap.size, 0, none⟩) sb.size (grownCap w sb.size 0 e), _, _, ρ, osT, osH, [w.heap.size], .inl ?_, hE.weaken (fun _ _ x => x.elim), fun _ _ x => x, h.new hE (.e _ _ _ (.own _ _ _ _ _ hown)) trivial (fun b hb => ?_) (fun b => ?_), fun b hb => ?_⟩
      · simp [execOp, hop, hx, hrun]
      · obtain rfl := List.mem_singleton.1 hb
        exact ⟨Nat.le_refl _, by simp, setF_self F _ _⟩
      · simp only [List.count_singleton]; split <;> omega
      · simp only [List.mem_append, List.mem_singleton] at hb
        rcases hb with hb | hb
        · exact .inl (by simpa using hb)
        · exact .inr (Nat.le_of_eq hb.symm)
    · cases hr
  · cases hr
end
end Go.Am
