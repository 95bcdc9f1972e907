/- The abstract machine. -/
import Derived.Test.YtcjglgeamdfpmaaGreatXAmA
import Derived.Laws.NewBlocks
import Derived.Laws.IdiomStrings
import Derived.Laws.MakeOwn
import Derived.Laws.Append
import Derived.Laws.AppendOwn
import Derived.Laws.IdiomCopy
import Derived.Tactics
import Derived.LoopN
set_option linter.unusedVariables false
set_option linter.unusedSimpArgs false
namespace Go.Am
open Go Go.RowKit
section
variable {P : Program} {a : Act} {o : Oper} {B : Nat} {w : World} {F : Nat → Nat} {ρ : List Nat} {s : St} {rest osT osH : List Nat} {c : CallF} {r : Rs}
structure Reads (w : World) (F : Nat → Nat) (b off len sz : Nat) (xs : List V) : Prop where
 hlen : len = xs.length
 elem : ∀ i, i < xs.length → (nth xs i).cells.length = sz ∧ (nth xs i).data = true
 cell : ∀ i j, i < xs.length → j < sz → ∃ cv, w.cell? ⟨b, off + i * sz + j, none⟩ = some cv ∧ RepD w F cv (nth (nth xs i).cells j) ∧ (nth (nth xs i).cells j).one = true
theorem OwnSl.reads {b len cap sz : Nat} {xs : List V} (h : OwnSl w F b len cap sz xs) : Reads w F b 0 len sz xs :=
 ⟨h.hlen, h.elem, fun i j hi hj => by have := h.cell i j hi hj; simpa using this⟩
theorem RepV.slice {cv : Value} {own : Bool} {sz : Nat} {xs : List V} {os : List Nat} (h : RepV w F ρ cv (.sl own sz xs) os) :
    ((∃ p, cv = .slice p 0 0) ∧ xs = []) ∨ ∃ b off cap, cv = .slice (some ⟨b, off, none⟩) xs.length cap ∧ Reads w F b off xs.length sz xs := by
  cases own with
  | false =>
    rcases sl_inv (h.data rfl) with h | ⟨b, off, cap, cvf, g1, _, g2, g3, g4, g5, g6, g7⟩
    · exact .inl h
    · exact .inr ⟨b, off, cap, g1, rfl, g4, fun i j hi hj => ⟨_, g5 i j hi hj, g7 i j hi hj, g6 i j hi hj⟩⟩
  | true =>
    cases h with
    | e _ _ _ h =>
      cases h with
      | d _ _ h => cases h
      | ownnil => exact .inl ⟨⟨none, rfl⟩, rfl⟩
      | own b len cap _ _ h =>
        have hl := h.hlen
        subst hl
        exact .inr ⟨b, 0, cap, rfl, h.reads⟩
theorem Sim.rdsl (h : Sim B a.tmps.toList w F ρ s rest osT osH) {x : Operand} {y : Src} {b : Option Nat} {sz : Nat} {xs : List V} (hc : chkS x y = true) (hr : rdsl (nth s.t) y b = some (sz, xs)) :
    ((∃ p, a.eval x = .slice p 0 0) ∧ xs = []) ∨ ∃ b off cap, a.eval x = .slice (some ⟨b, off, none⟩) xs.length cap ∧ Reads w F b off xs.length sz xs := by
  unfold Am.rdsl at hr
  split at hr
  · rename_i own sz' xs' he
    simp only [Option.some.injEq, Prod.mk.injEq] at hr
    obtain ⟨rfl, rfl⟩ := hr
    obtain ⟨os, hrep, _⟩ := h.ev hc
    rw [he] at hrep
    exact hrep.slice
  · rename_i d he
    split at hr
    · split at hr
      · split at hr
        · rename_i own sz' xs' hd
          simp only [Option.some.injEq, Prod.mk.injEq] at hr
          obtain ⟨rfl, rfl⟩ := hr
          cases y with
          | t i =>
            simp only [Am.ev] at he
            have hi : i < s.t.length := nth_lt (fun hh => by rw [hh] at he; cases he)
            obtain ⟨cv, od, g1, g2, _⟩ := h.tmps.get hi
            have ha := h.alias i cv g1
            rw [he] at ha
            obtain ⟨_, ha⟩ := ha
            have hd' : d < s.t.length := nth_lt (fun hh => by rw [hh] at hd; cases hd)
            obtain ⟨cv', od', q1, q2, _⟩ := h.tmps.get hd'
            rw [hd] at q2
            rw [q1] at ha
            simp only [Option.some.injEq] at ha
            subst ha
            have hx : a.eval x = cv' := by
              cases x with
              | tmp t => simp only [chkS, beq_iff_eq] at hc; subst hc; exact eval_tmp a rfl t g1
              | _ => cases hc
            rw [hx]
            exact q2.slice
          | c v =>
            simp only [Am.ev] at he
            subst he
            cases x <;> simp [chkS] at hc
            rename_i cv
            cases cv <;> simp [constOK, constOK1] at hc
          | f g => cases he
        · cases hr
      · cases hr
    · cases hr
  · cases hr
theorem op_len (h : Sim B a.tmps.toList w F ρ s rest osT osH) {x : Operand} {y : Src} {t : TypeId} {b : Option Nat} (hop : o.op = .call ⟨.builtin .len, #[x], #[t]⟩) (hc : chkS x y = true)
    {st : Bool} (hu : if st then P.underlying t = some .string else ∃ e, P.underlying t = some (.slice e)) (hr : opRes c (nth s.t) s.h (.len st y b) = some r) : OpOK P a o B w F ρ s rest osT osH r := by
  simp only [opRes] at hr
  cases st with
  | true =>
    simp only [if_true] at hr hu
    split at hr
    · rename_i l he
      simp only [Option.some.injEq] at hr
      subst hr
      obtain ⟨os, hrep, _⟩ := h.ev hc
      rw [he] at hrep
      obtain ⟨sb, hx, rfl⟩ := hrep.str_inv
      exact OpOK.data h (cv := .int .i64 sb.data.toList.length) (run_len_op (ty := t) hop (by rw [hx]; simp [Builtin.len_, run_under hu, goInt])) (.int _ _)
    · cases hr
  | false =>
    simp only [Bool.false_eq_true, if_false] at hr hu
    cases hrd : rdsl (nth s.t) y b with
    | none => rw [hrd] at hr; cases hr
    | some q =>
      obtain ⟨sz, xs⟩ := q
      rw [hrd] at hr
      simp only [Option.some.injEq] at hr
      subst hr
      obtain ⟨e, hus⟩ := hu
      rcases h.rdsl hc hrd with ⟨⟨p, hx⟩, rfl⟩ | ⟨b', off, cap, hx, _⟩
      · exact OpOK.data h (cv := .int .i64 0) (run_len_op (ty := t) hop (by rw [hx]; simp [Builtin.len_, run_under hus, goInt])) (.int _ _)
      · exact OpOK.data h (cv := .int .i64 xs.length) (run_len_op (ty := t) hop (by rw [hx]; simp [Builtin.len_, run_under hus, goInt])) (.int _ _)
def cellAt (w : World) (b off : Nat) (j : Nat) : Value := (w.cell? ⟨b, off + j, none⟩).getD undef
theorem divmod_lt {j n sz : Nat} (h : j < n * sz) : j / sz < n ∧ j % sz < sz ∧ j = j / sz * sz + j % sz := by
 have hs : 0 < sz := by
  rcases Nat.eq_zero_or_pos sz with h0 | h0
  ·subst h0; simp at h
  ·exact h0
 refine ⟨(Nat.div_lt_iff_lt_mul hs).2 h, Nat.mod_lt _ hs, ?_⟩
 have := Nat.div_add_mod j sz
 rw [Nat.mul_comm] at this
 omega
theorem Reads.cellAt {b off len sz : Nat} {xs : List V} (h : Reads w F b off len sz xs) {j : Nat} (hj : j < xs.length * sz) :
    w.cell? ⟨b, off + j, none⟩ = some (Am.cellAt w b off j) ∧ RepD w F (Am.cellAt w b off j) (nth (nth xs (j / sz)).cells (j % sz)) ∧ (nth (nth xs (j / sz)).cells (j % sz)).one = true := by
  obtain ⟨h1, h2, h3⟩ := divmod_lt hj
  obtain ⟨cv, g1, g2, g3⟩ := h.cell _ _ h1 h2
  rw [Nat.add_assoc, ← h3] at g1
  have : Am.cellAt w b off j = cv := by simp [Am.cellAt, g1]
  rw [this]
  exact ⟨g1, g2, g3⟩
theorem byteOf_data {cv : Value} {v : V} (h : RepD w F cv v) (hu : isU8 v = true) : ∃ n, v = .int .u8 n ∧ cv = .int .u8 n := by
 unfold isU8 at hu
 split at hu
 ·cases h; exact ⟨_, rfl, rfl⟩
 ·cases hu
theorem op_cvs (h : Sim B a.tmps.toList w F ρ s rest osT osH) {x : Operand} {y : Src} {t t' e : TypeId} {b : Option Nat} (hop : o.op = .convert t t' x) (hc : chkS x y = true) (hu : P.underlying t = some (.slice e)) (hue : P.underlying e = some (.int .u8))
    (hu' : P.underlying t' = some .string) (hr : opRes c (nth s.t) s.h (.cvs y b) = some r) : OpOK P a o B w F ρ s rest osT osH r := by
  simp only [opRes] at hr
  split at hr
  · rename_i xs hrd
    split at hr
    · rename_i hall
      simp only [Option.some.injEq] at hr
      subst hr
      have hrun : ∀ cv v, (Conv.bytesToString (a.eval x)).run P w = .ok cv w → (∃ p l cc, a.eval x = .slice p l cc) → RepD w F cv v → OpOK P a o B w F ρ s rest osT osH (.val [] v s.h) := fun cv v hh ⟨p, l, cc, hx⟩ hD => by
        refine OpOK.data h (cv := cv) ?_ hD
        have := run_convert_bytes_string (P := P) w t t' e p l cc hu hue hu'
        rw [← hx, hh] at this
        simp [execOp, hop, this]
      rcases h.rdsl hc hrd with ⟨⟨p, hx⟩, rfl⟩ | ⟨b', off, cap, hx, hR⟩
      · exact hrun (.string .empty) _ (by rw [hx]; cases p with
          | none => simp [Conv.bytesToString]
          | some a0 => exact run_bytesToString (P := P) w a0 0 0 [] (by simpa using run_loadCells_list (P := P) w a0 [] (by simp))) ⟨_, _, _, hx⟩ (.str _ _ rfl)
      · have hcell : ∀ j, j < xs.length → ∃ n, nth xs j = .int .u8 n ∧ w.cell? ⟨b', off + j, none⟩ = some (.int .u8 n) := fun j hj => by
          obtain ⟨cv, g1, g2, g3⟩ := hR.cell j 0 hj (by omega)
          have hu8 := all_nth hall hj
          have h1 : (nth xs j).cells = [nth xs j] := by
            unfold isU8 at hu8
            split at hu8
            · rename_i hh; rw [hh]; rfl
            · cases hu8
          rw [h1] at g2
          obtain ⟨n, e1, e2⟩ := byteOf_data g2 hu8
          exact ⟨n, e1, by rw [← e2]; simpa using g1⟩
        let num : V → Int := fun v => match v with | .int _ n => n | _ => 0
        have hl : (loadCells ⟨b', off, none⟩ xs.length).run P w = .ok ((xs.map num).map (Value.int .u8)).toArray w := by
          have := run_loadCells_list (P := P) w ⟨b', off, none⟩ ((xs.map num).map (Value.int .u8)) (fun j v hj => by
            rw [addr_add]
            by_cases hjl : j < xs.length
            · obtain ⟨n, e1, e2⟩ := hcell j hjl
              rw [e2, ← hj]
              rw [nth_eq_getElem hjl] at e1
              simp [hjl, e1, num]
            · rw [List.getElem?_eq_none (by simp; omega)] at hj; cases hj)
          simpa using this
        have hb := run_bytesToString (P := P) w ⟨b', off, none⟩ xs.length cap (xs.map num) hl
        refine hrun _ _ (by rw [hx]; exact hb) ⟨_, _, _, hx⟩ (.str _ _ ?_)
        have key : ∀ (ys : List V) (acc : ByteArray), ys.all isU8 = true → ((ys.map num).foldl (fun r n => r.push (UInt8.ofNat n.toNat)) acc).data.toList = acc.data.toList ++ ys.map byteOf := by
          intro ys
          induction ys with
          | nil => intro acc _; simp
          | cons v ys ih =>
            intro acc hv
            simp only [List.all_cons, Bool.and_eq_true] at hv
            simp only [List.map_cons, List.foldl_cons]
            rw [ih _ hv.2]
            cases v <;> simp [isU8] at hv
            simp [num, byteOf, ByteArray.push]
        have := key xs ByteArray.empty hall
        simpa using this
    · cases hr
  · cases hr
theorem OwnSl.new {cur : Array Value} {e : TypeId} {fr : Nat × Nat} {len cap sz : Nat} {xs : List V} {w1 : World} {F1 : Nat → Nat} {b : Nat} (hb : w1.heap[b]? = some (.cells cur e fr)) (hF : F1 b = 0) (hfr : ∀ o, o < cur.size → w1.frozen? ⟨b, o, none⟩ = false)
    (hz : sz ≠ 0) (hl : len = xs.length) (hlc : len ≤ cap) (hsz : cap * sz ≤ cur.size) (he : ∀ i, i < xs.length → (nth xs i).cells.length = sz ∧ (nth xs i).data = true)
    (hc : ∀ i j, i < xs.length → j < sz → ∃ cv, cur[i * sz + j]? = some cv ∧ RepD w1 F1 cv (nth (nth xs i).cells j) ∧ (nth (nth xs i).cells j).one = true) : OwnSl w1 F1 b len cap sz xs := by
  refine ⟨hl, hlc, hF, ⟨cur, e, fr, hb, hsz, hfr⟩, he, fun i j hi hj => ?_, hz⟩
  obtain ⟨cv, g1, g2, g3⟩ := hc i j hi hj
  refine ⟨cv, ?_, g2, g3⟩
  simp only [World.cell?, hb, Option.isSome_none, Bool.false_eq_true, if_false]
  exact g1
theorem op_cvb (h : Sim B a.tmps.toList w F ρ s rest osT osH) {x : Operand} {y : Src} {t t' e : TypeId} (hop : o.op = .convert t t' x) (hc : chkS x y = true) (hu : P.underlying t = some .string) (hu' : P.underlying t' = some (.slice e)) (hue : P.underlying e = some (.int .u8))
    (hr : opRes c (nth s.t) s.h (.cvb y) = some r) : OpOK P a o B w F ρ s rest osT osH r := by
  simp only [opRes] at hr
  split at hr
  · rename_i l he
    split at hr
    · simp only [Option.some.injEq] at hr
      subst hr
      obtain ⟨os, hrep, _⟩ := h.ev hc
      rw [he] at hrep
      obtain ⟨sb, hx, rfl⟩ := hrep.str_inv
      have hrun := run_bytes_of_string (P := P) w t t' e sb hu hu' hue
      have hcap : sb.size ≤ grownCap w sb.size 0 e := by unfold grownCap; simp only [Question.cut]; omega
      generalize hC : bytesRow sb (grownCap w sb.size 0 e) = C at hrun
      have hE := (Ext.drew (B := B) (w := w) h.fresh).transF (Ext.alloc (B := B) (w := w.drew) h.base h.fresh (.cells C e (C.size, C.size + 1)) 0)
      have hCs : C.size = grownCap w sb.size 0 e := by
        rw [← hC]
        simp only [bytesRow, Array.size_append, Array.size_map, Array.size_replicate]
        have : sb.data.size = sb.size := rfl
        omega
      have hBl : (Am.B sb.data.toList).length = sb.size := by simp [Am.B]
      have hnth : ∀ i, i < sb.size → nth (Am.B sb.data.toList) i = .int .u8 (sb.data.toList[i]?.getD 0).toNat := fun i hi => by
        have hi' : i < sb.data.toList.length := by simpa using hi
        rw [nth_eq_getElem (by simp [Am.B]; exact hi)]
        simp [Am.B, List.getElem?_eq_getElem hi']
      have hown : OwnSl (w.drew.alloc (.cells C e (C.size, C.size + 1))) (setF F w.heap.size 0) w.heap.size sb.size (grownCap w sb.size 0 e) 1 (Am.B sb.data.toList) := by
        refine OwnSl.new (heap_alloc_new w.drew _) (setF_self F _ _) (fun o ho => ?_) (by decide) hBl.symm hcap (by omega) (fun i hi => ?_) (fun i j hi hj => ?_)
        · show World.frozen? (w.drew.alloc _) ⟨w.drew.heap.size, o, none⟩ = false
          simp only [World.frozen?, heap_alloc_new]
          simp
          omega
        · rw [hnth i (by omega)]; exact ⟨rfl, rfl⟩
        · obtain rfl : j = 0 := by omega
          have hi' : i < sb.size := by omega
          rw [hnth i hi']
          refine ⟨.int .u8 (sb.data.toList[i]?.getD 0).toNat, ?_, .int _ _, rfl⟩
          rw [← hC]
          have hs : sb.data.size = sb.size := rfl
          simp [bytesRow, Array.getElem?_append, hs, hi']
      refine ⟨.slice (some ⟨w.heap.size, 0, none⟩) sb.size (grownCap w sb.size 0 e), _, _, ρ, osT, osH, [w.heap.size], .inl ?_, hE.weaken (fun _ _ x => x.elim), fun _ _ x => x, h.new hE (.e _ _ _ (.own _ _ _ _ _ hown)) trivial (fun b hb => ?_) (fun b => ?_), fun b hb => ?_⟩
      · simp [execOp, hop, hx, hrun]
      · obtain rfl := List.mem_singleton.1 hb
        exact ⟨Nat.le_refl _, by simp, setF_self F _ _⟩
      · simp only [List.count_singleton]; split <;> omega
      · simp only [List.mem_append, List.mem_singleton] at hb
        rcases hb with hb | hb
        · exact .inl (by simpa using hb)
        · exact .inr (Nat.le_of_eq hb.symm)
    · cases hr
  · cases hr
end
end Go.Am
namespace Go.Am
open Go Go.RowKit
section
variable {P : Program} {a : Act} {o : Oper} {B : Nat} {w w' : World} {F F' : Nat → Nat} {ρ : List Nat} {s : St} {rest osT osH : List Nat} {c : CallF} {r : Rs} {T : Nat → Prop}
theorem SimV.replace {cvs : List Value} {t : List V} {hp : Heap} {cv cv' : Value} {v v' : V} {osV osV' : List Nat} (g : SimV B cvs w F ρ t hp cv v rest osT osH osV) (e : Ext B w F w' F' T) (hT : ∀ b ∈ osT ++ osH ++ rest, ¬ T b)
    (hv : RepV w' F' ρ cv' v' osV') (ha : isAl v' = false) (hsub : ∀ b ∈ osV', (b ∈ osV ∨ w.heap.size ≤ b) ∧ b < w'.heap.size ∧ F' b = 0) (h1 : ∀ b, osV'.count b ≤ 1) : SimV B cvs w' F' ρ t hp cv' v' rest osT osH osV' := by
  have hlt : ∀ b ∈ osT ++ osH ++ rest, b < w.heap.size := fun b hb => (g.inb b (by simp only [List.mem_append] at hb ⊢; rcases hb with (hb | hb) | hb <;> simp [hb])).2.1
  refine ⟨g.tmps.ext e (fun _ _ x => x) (fun b hb => hlt b (by simp [hb])) (fun b hb => hT b (by simp [hb])), g.heap.ext e (fun b hb => hT b (by simp [hb])), g.alias, hv, aliasV_of ha, fun b => ?_, fun b hb => ?_, e.fresh, Nat.le_trans g.base e.size⟩
  · have a1 := g.once b
    have a2 := h1 b
    simp only [List.count_append] at a1 ⊢
    by_cases hb : b ∈ osV'
    · rcases (hsub b hb).1 with h' | h'
      · have := List.count_pos_iff.2 h'
        omega
      · have : ∀ l : List Nat, (∀ c ∈ l, c < w.heap.size) → l.count b = 0 := fun l hl => List.count_eq_zero.2 fun hm => by have := hl b hm; omega
        have e1 := this osT fun c hc => hlt c (by simp [hc])
        have e2 := this osH fun c hc => hlt c (by simp [hc])
        have e3 := this rest fun c hc => hlt c (by simp [hc])
        omega
    · have := List.count_eq_zero.2 hb
      omega
  · have old : b ∈ osT ++ osH ++ rest → B ≤ b ∧ b < w'.heap.size ∧ F' b = 0 := fun hm => by
      obtain ⟨b1, b2, b3⟩ := g.inb b (by simp only [List.mem_append] at hm ⊢; rcases hm with (hm | hm) | hm <;> simp [hm])
      exact ⟨b1, Nat.lt_of_lt_of_le b2 e.size, ((e.keep b (hT b hm) b2).2).trans b3⟩
    simp only [List.mem_append] at hb
    rcases hb with ((hb | hb) | hb) | hb
    · exact old (by simp [hb])
    · exact old (by simp [hb])
    · obtain ⟨c1, c2, c3⟩ := hsub b hb
      refine ⟨?_, c2, c3⟩
      rcases c1 with c1 | c1
      · exact (g.inb b (by simp [c1])).1
      · exact Nat.le_trans g.base c1
    · exact old (by simp [hb])
theorem OpOK.own (h : Sim B a.tmps.toList w F ρ s rest osT osH) {w1 : World} (hw : w1 = w ∨ w1 = w.drew) {C : Array Value} {e : TypeId} {fr : Nat × Nat} {len cap sz : Nat} {xs : List V}
    (hr : (execOp a.eval o).run P w = .ok (.value (.slice (some ⟨w.heap.size, 0, none⟩) len cap)) (w1.alloc (.cells C e fr)))
    (ho : OwnSl (w1.alloc (.cells C e fr)) (setF F w.heap.size 0) w.heap.size len cap sz xs) : OpOK P a o B w F ρ s rest osT osH (.val [] (.sl true sz xs) s.h) := by
  have hE : Ext B w F (w1.alloc (.cells C e fr)) (setF F w.heap.size 0) (fun _ => False) := by
    rcases hw with rfl | rfl
    · exact Ext.alloc h.base h.fresh _ 0
    · exact (Ext.drew (B := B) (w := w) h.fresh).transF (Ext.alloc (B := B) (w := w.drew) h.base h.fresh _ 0)
  have hsz : w.heap.size < (w1.alloc (.cells C e fr)).heap.size := by rcases hw with rfl | rfl <;> simp
  refine ⟨_, _, _, ρ, osT, osH, [w.heap.size], .inl hr, hE.weaken (fun _ _ x => x.elim), fun _ _ x => x, h.new hE (.e _ _ _ (.own _ _ _ _ _ ho)) trivial (fun b hb => ?_) (fun b => ?_), fun b hb => ?_⟩
  · obtain rfl := List.mem_singleton.1 hb
    exact ⟨Nat.le_refl _, hsz, setF_self F _ _⟩
  · simp only [List.count_singleton]; split <;> omega
  · simp only [List.mem_append, List.mem_singleton] at hb
    rcases hb with hb | hb
    · exact .inl (by simpa using hb)
    · exact .inr (Nat.le_of_eq hb.symm)
theorem mul_add_lt {i j n sz : Nat} (hi : i < n) (hj : j < sz) : i * sz + j < n * sz := by
 have := mul_lt_of (sz := sz) hi
 omega
theorem nth_replicate {n i : Nat} (h : i < n) (v : V) : nth (List.replicate n v) i = v := by
 rw [nth_eq_getElem (by simpa using h)]
 simp
theorem madeCells_get {z : Array Value} {n j : Nat} (hj : j < n) (hz : 0 < z.size) : (madeCells z n)[j]? = some (z[j % z.size]'(Nat.mod_lt _ hz)) := by
 simp [madeCells, hj, Nat.mod_lt _ hz]
theorem mul_add_mod' {i j sz : Nat} (hj : j < sz) : (i * sz + j) % sz = j := by
 rw [Nat.mul_comm, Nat.mul_add_mod]
 exact Nat.mod_eq_of_lt hj
structure ZeroE (P : Program) (e : TypeId) (sz : Nat) (z : V) (zv : Value) : Prop where
 size : szT P e = some sz
 zero : zeroT P e = some zv
 rep : ∀ (w : World) (F : Nat → Nat), RepD w F zv z
 cells : z.cells.length = sz
theorem ZeroE.get {e : TypeId} {sz : Nat} {z : V} {zv : Value} (h : ZeroE P e sz z zv) {n i j : Nat} (hi : i < n) (hj : j < sz) (w : World) (F : Nat → Nat) :
    ∃ cv, (madeCells zv.cells (n * sz))[i * sz + j]? = some cv ∧ RepD w F cv (nth z.cells j) ∧ (nth z.cells j).one = true := by
  obtain ⟨h1, h2⟩ := (h.rep w F).cells_nth
  rw [h.cells] at h1 h2
  obtain ⟨cc, q1, q2, q3⟩ := h2 j hj
  refine ⟨cc, ?_, q2, q3⟩
  rw [madeCells_get (mul_add_lt hi hj) (by omega)]
  simp only [h1, mul_add_mod' hj]
  rw [Array.getElem?_eq_getElem (by omega)] at q1
  exact q1
theorem op_mk (h : Sim B a.tmps.toList w F ρ s rest osT osH) {x1 x2 : Operand} {y1 y2 : Src} {t e : TypeId} {sz bytes : Nat} {z : V} {zv : Value} {i : TypeInfo} (hop : o.op = .makeSlice t x1 x2) (h1 : chkS x1 y1 = true) (h2 : chkS x2 y2 = true)
    (hu : P.underlying t = some (.slice e)) (hi : P.info? e = some i) (hb : i.bytes = bytes) (hz0 : sz ≠ 0) (hZ : ZeroE P e sz z zv) (hr : opRes c (nth s.t) s.h (.mk sz bytes z y1 y2) = some r) : OpOK P a o B w F ρ s rest osT osH r := by
  simp only [opRes] at hr
  split at hr
  · rename_i l cc e1 e2
    split at hr
    · rename_i hk
      obtain ⟨k1, k2, k3, k4⟩ := hk
      simp only [Option.some.injEq] at hr
      subst hr
      obtain ⟨kk1, q1⟩ := h.int h1 e1
      obtain ⟨kk2, q2⟩ := h.int h2 e2
      have hisz : i.size = sz := by have := hZ.size; simp only [szT, hi, Option.map_some, Option.some.injEq] at this; exact this
      have hiz : i.zero = some zv := by have := hZ.zero; simp only [zeroT, hi, Option.bind_some] at this; exact this
      have hrun := run_make w t e i zv hu hi hiz kk1 kk2 l cc k1 k2 (by rw [hb]; exact k3) k4
      rw [hisz] at hrun
      refine OpOK.own h (.inl rfl) (fr := (0, 0)) (C := madeCells zv.cells (cc.toNat * sz)) (e := e) (len := l.toNat) (cap := cc.toNat) (by simp [execOp, hop, q1, q2, hrun]) ?_
      refine OwnSl.new (heap_alloc_new w _) (setF_self F _ _) (fun o _ => frozen_new w _ _ o) hz0 (by simp) (by omega) (by rw [size_madeCells]; exact Nat.le_refl _) (fun i hi => ?_) (fun i j hi hj => ?_)
      · simp only [List.length_replicate] at hi
        rw [nth_replicate hi]
        exact ⟨hZ.cells, (hZ.rep w F).data⟩
      · simp only [List.length_replicate] at hi
        rw [nth_replicate hi]
        exact hZ.get (by omega) hj _ _
    · cases hr
  · cases hr
def chkPartsE : List (Nat × Operand) → List (Nat × Src) → Bool
 | [], [] => true
 | (i, x) :: ps, (k, y) :: qs => i == k && chkS x y && chkPartsE ps qs
 | _, _ => false
def RowE (w : World) (F : Nat → Nat) (sz : Nat) (C : Array Value) (xs : List V) : Prop :=
 C.size = xs.length * sz ∧ (∀ i, i < xs.length → (nth xs i).cells.length = sz ∧ (nth xs i).data = true) ∧
  ∀ i j, i < xs.length → j < sz → ∃ cv, C[i * sz + j]? = some cv ∧ RepD w F cv (nth (nth xs i).cells j) ∧ (nth (nth xs i).cells j).one = true
theorem setA_out (vs : List Value) : ∀ (cur : Array Value) (o k : Nat), (k < o ∨ o + vs.length ≤ k) → (setA cur o vs)[k]? = cur[k]? := by
 induction vs with
 | nil => intro cur o k _; rfl
 | cons v r ih =>
  intro cur o k hk
  simp only [setA]
  simp only [List.length_cons] at hk
  rw [ih _ _ _ (by omega)]
  rw [Array.getElem?_setIfInBounds_ne (by omega)]
theorem setA_in (vs : List Value) : ∀ (cur : Array Value) (o j : Nat), o + vs.length ≤ cur.size → (hj : j < vs.length) → (setA cur o vs)[o + j]? = some vs[j] := by
 induction vs with
 | nil => intro cur o j _ hj; simp at hj
 | cons v r ih =>
  intro cur o j ho hj
  simp only [List.length_cons] at ho
  simp only [setA]
  cases j with
  | zero =>
   rw [setA_out r _ _ _ (by omega)]
   simp [show o < cur.size by omega]
  | succ j =>
   have := ih (cur.setIfInBounds o v) (o + 1) j (by simp; omega) (by simpa using hj)
   rw [show o + (j + 1) = o + 1 + j by omega, this]
   simp
theorem RowE.set {sz i : Nat} {C : Array Value} {xs : List V} {cv : Value} {v : V} (h : RowE w F sz C xs) (hi : i < xs.length) (hv : RepD w F cv v) (hl : v.cells.length = sz) : RowE w F sz (setA C (i * sz) cv.cells.toList) (upd xs i v) := by
 obtain ⟨h1, h2, h3⟩ := h
 obtain ⟨c1, c2⟩ := hv.cells_nth
 rw [hl] at c1 c2
 have hin := mul_lt_of (sz := sz) hi
 refine ⟨by rw [setA_size, upd_length]; exact h1, fun k hk => ?_, fun k j hk hj => ?_⟩
 ·rw [upd_length] at hk
  by_cases hik : i = k
  ·subst hik; rw [nth_upd_self hi]; exact ⟨hl, hv.data⟩
  ·rw [nth_upd_ne hik]; exact h2 k hk
 ·rw [upd_length] at hk
  by_cases hik : i = k
  ·subst hik
   rw [nth_upd_self hi]
   obtain ⟨cc, q1, q2, q3⟩ := c2 j hj
   refine ⟨cc, ?_, q2, q3⟩
   rw [setA_in _ _ _ j (by simp; omega) (by simp; omega)]
   rw [Array.getElem?_eq_getElem (by omega)] at q1
   simpa using q1
  ·rw [nth_upd_ne hik]
   obtain ⟨cc, q1, q2, q3⟩ := h3 k j hk hj
   refine ⟨cc, ?_, q2, q3⟩
   rw [setA_out _ _ _ _ ?_]
   ·exact q1
   ·simp only [Array.length_toList, c1]
    rcases Nat.lt_or_ge k i with h' | h'
    ·left
     have := mul_add_lt (sz := sz) (show k < k + 1 by omega) hj
     have h4 := Nat.mul_le_mul_right sz (show k + 1 ≤ i by omega)
     omega
    ·right
     have := mul_lt_of (sz := sz) (show i < k by omega)
     omega
theorem fillE_ok (h : Sim B a.tmps.toList w F ρ s rest osT osH) {sz n : Nat} : ∀ (ps : List (Nat × Operand)) (qs : List (Nat × Src)) (C : Array Value) (xs xs' : List V), chkPartsE ps qs = true →
  RowE w F sz C xs → fillE sz xs (nth s.t) qs = some xs' →
  ∃ C', Instr.fill (fun i => some (i * sz, sz)) C (ps.map fun p => (p.1, a.eval p.2)) = some C' ∧ RowE w F sz C' xs' ∧ xs'.length = xs.length
 | [], [], C, xs, xs', _, hr, hf => by
  simp only [fillE, Option.some.injEq] at hf
  subst hf
  exact ⟨C, rfl, hr, rfl⟩
 | (i, x) :: ps, (k, y) :: qs, C, xs, xs', hc, hr, hf => by
  simp only [chkPartsE, Bool.and_eq_true, beq_iff_eq] at hc
  obtain ⟨⟨rfl, h2⟩, h3⟩ := hc
  simp only [fillE] at hf
  cases hd : dat (nth s.t) y with
  | none => rw [hd] at hf; cases hf
  | some v =>
   rw [hd] at hf
   simp only at hf
   split at hf
   ·rename_i hl
    have hD := h.dat h2 hd
    have hsz : (a.eval x).cells.size = sz := by rw [← hl.1]; exact hD.cells_nth.1
    have hin := mul_lt_of (sz := sz) hl.2
    have hCs := hr.1
    obtain ⟨C', g1, g2, g3⟩ := fillE_ok h (n := n) ps qs _ _ _ h3 (hr.set hl.2 hD hl.1) hf
    refine ⟨C', ?_, g2, by rw [g3, upd_length]⟩
    simp only [List.map_cons, Instr.fill]
    rw [if_neg (by simp [hsz]; omega)]
    rw [fill_fold_arr]
    exact g1
   ·cases hf
 | [], _ :: _, _, _, _, hc, _, _ => by cases hc
 | _ :: _, [], _, _, _, hc, _, _ => by cases hc
theorem op_bsl (h : Sim B a.tmps.toList w F ρ s rest osT osH) {t e : TypeId} {sz n : Nat} {z : V} {zv : Value} {ps : Array (Nat × Operand)} {qs : List (Nat × Src)} (hop : o.op = .buildSlice t n ps) (hu : P.underlying t = some (.slice e))
    (hz0 : sz ≠ 0) (hZ : ZeroE P e sz z zv) (hlim : n * sz ≤ 2 ^ 24) (hc : chkPartsE ps.toList qs = true) (hr : opRes c (nth s.t) s.h (.bsl sz n z qs) = some r) : OpOK P a o B w F ρ s rest osT osH r := by
  simp only [opRes] at hr
  cases hf : fillE sz (List.replicate n z) (nth s.t) qs with
  | none => rw [hf] at hr; cases hr
  | some xs =>
    rw [hf] at hr
    simp only [Option.some.injEq] at hr
    subst hr
    have hrow : RowE w F sz (madeCells (if n * sz = 0 then #[] else zv.cells) (n * sz)) (List.replicate n z) := by
      refine ⟨by rw [size_madeCells]; simp, fun i hi => ?_, fun i j hi hj => ?_⟩
      · simp only [List.length_replicate] at hi
        rw [nth_replicate hi]
        exact ⟨hZ.cells, (hZ.rep w F).data⟩
      · simp only [List.length_replicate] at hi
        rw [nth_replicate hi]
        have := mul_add_lt hi hj
        rw [if_neg (by omega)]
        exact hZ.get hi hj _ _
    obtain ⟨C', g1, g2, g3⟩ := fillE_ok h (n := n) ps.toList qs _ _ _ hc hrow hf
    simp only [List.length_replicate] at g3
    have hrun : (execOp a.eval o).run P w = .ok (.value (.slice (some ⟨w.heap.size, 0, none⟩) n n)) (w.alloc (.cells C' e)) := by
      have e1 : (ps.map fun (i, x) => (i, a.eval x)).toList = ps.toList.map fun p => (p.1, a.eval p.2) := by simp
      have hlim' : ¬ n * sz > 2 ^ 24 := by omega
      simp only [execOp, hop, Instr.buildSlice, Sem.run_bind, run_under hu, Result.andThen_ok, run_sizeOf hZ.size, if_neg hlim']
      by_cases h0 : n * sz = 0
      · simp only [h0, if_true] at g1 ⊢
        have g1' : Instr.fill (fun i => some (i * sz, sz)) #[] (ps.toList.map fun p => (p.1, a.eval p.2)) = some C' := by
          rw [show madeCells (#[] : Array Value) 0 = #[] by simp [madeCells]] at g1
          exact g1
        simp [e1, show (Array.range 0) = #[] from rfl, g1', newRow]
      · simp only [if_neg h0] at g1 ⊢
        simp only [madeCells] at g1
        simp [run_zeroValue hZ.zero, e1, g1, newRow]
    refine OpOK.own h (.inl rfl) hrun ?_
    obtain ⟨r1, r2, r3⟩ := g2
    have hE := Ext.alloc (B := B) h.base h.fresh (.cells C' e) 0
    refine OwnSl.new (heap_alloc_new w _) (setF_self F _ _) (fun o _ => frozen_new w _ _ o) hz0 g3.symm (Nat.le_refl _) (by rw [r1, g3]; exact Nat.le_refl _) r2 (fun i j hi hj => ?_)
    obtain ⟨cv, q1, q2, q3⟩ := r3 i j hi hj
    exact ⟨cv, q1, q2.ext hE, q3⟩
end
end Go.Am
namespace Go.Am
open Go Go.RowKit
theorem run_firstCells_empty {P : Program} {w : World} {sz : Nat} (p : Option Addr) : (Builtin.firstCells sz 0 (.slice p 0 0)).run P w = .ok ([] : List Value).toArray w := by
 cases p with
 | none => simp [Builtin.firstCells]
 | some a0 =>
  have := run_loadCells_list (P := P) w a0 [] (by simp)
  simp only [List.length_nil] at this
  simp only [Builtin.firstCells, Nat.zero_mul]
  exact this
theorem nth_append_left {xs ys : List V} {i : Nat} (h : i < xs.length) : nth (xs ++ ys) i = nth xs i := by
 rw [nth_eq_getElem (by simp; omega), nth_eq_getElem h, List.getElem_append_left h]
theorem nth_append_right {xs ys : List V} {i : Nat} (h : i < ys.length) : nth (xs ++ ys) (xs.length + i) = nth ys i := by
 rw [nth_eq_getElem (by simp; omega), nth_eq_getElem h, List.getElem_append_right (by omega)]
 simp
def listT (P : Program) (t : TypeId) : Bool := match P.underlying t with
 | some (.slice _) => true
 | some .string => true
 | _ => false
section
variable {P : Program} {a : Act} {o : Oper} {B : Nat} {w : World} {F : Nat → Nat} {ρ : List Nat} {s : St} {rest osT osH : List Nat} {c : CallF} {r : Rs}
def Second (P : Program) (w : World) (sz n : Nat) (x : Value) (news : List Value) : Prop :=
 news.length = n * sz ∧ ∀ w1, (w1 = w ∨ w1 = w.drew) → (Builtin.lenOf x).run P w1 = .ok n w1 ∧ (Builtin.firstCells sz n x).run P w1 = .ok news.toArray w1
theorem run_app_none {t t2 ty e : TypeId} {i : TypeInfo} (ht : P.underlying t = some (.slice e)) (h2 : listT P t2 = true) (hi : P.info? e = some i) {x : Value} {news : List Value} (hx : Second P w i.size 0 x news) :
    (Builtin.append_ #[t, t2] ty #[.slice none 0 0, x]).run P w = .ok (.slice none 0 0) w := by
  obtain ⟨_, h1⟩ := hx
  obtain ⟨h3, h4⟩ := h1 w (.inl rfl)
  unfold listT at h2
  split at h2
  · rename_i e' hu; simp [Builtin.append_, run_underlying ht, run_underlying hu, sizeOf, typeInfo, hi, h3, h4]
  · rename_i hu; simp [Builtin.append_, run_underlying ht, run_underlying hu, sizeOf, typeInfo, hi, h3, h4]
  · cases h2
theorem run_app_room {t t2 ty e : TypeId} {i : TypeInfo} (ht : P.underlying t = some (.slice e)) (h2 : listT P t2 = true) (hi : P.info? e = some i) {x : Value} {news : List Value} {n : Nat} (hx : Second P w i.size n x news)
    {g sLen sCap : Nat} (hroom : sLen + n ≤ sCap) (hst : (storeCells ⟨g, sLen * i.size, none⟩ news).run P w = .ok () (w.setCells g (sLen * i.size) news)) :
    (Builtin.append_ #[t, t2] ty #[.slice (some ⟨g, 0, none⟩) sLen sCap, x]).run P w = .ok (.slice (some ⟨g, 0, none⟩) (sLen + n) sCap) (w.setCells g (sLen * i.size) news) := by
  obtain ⟨_, h1⟩ := hx
  obtain ⟨h3, h4⟩ := h1 w (.inl rfl)
  unfold listT at h2
  split at h2
  · rename_i e' hu; simp [Builtin.append_, run_underlying ht, run_underlying hu, sizeOf, typeInfo, hi, h3, h4, hroom, addr_add, hst]
  · rename_i hu; simp [Builtin.append_, run_underlying ht, run_underlying hu, sizeOf, typeInfo, hi, h3, h4, hroom, addr_add, hst]
  · cases h2
theorem run_app_grow {t t2 ty e : TypeId} {i : TypeInfo} {z : Value} (ht : P.underlying t = some (.slice e)) (h2 : listT P t2 = true) (hi : P.info? e = some i) (hz : i.zero = some z) {x : Value} {news olds : List Value} {n : Nat} (hx : Second P w i.size n x news)
    {base : Option Addr} {sLen sCap : Nat} (ho : ∀ w1, (w1 = w ∨ w1 = w.drew) → (Builtin.firstCells i.size sLen (.slice base sLen sCap)).run P w1 = .ok olds.toArray w1) (hg : sCap < sLen + n)
    (h63 : ((sLen + n : Nat) : Int) ≤ 9223372036854775807) (hfit : Builtin.nextslicecap (sLen + n) sCap * i.bytes ≤ 281474976710656) :
    (Builtin.append_ #[t, t2] ty #[.slice base sLen sCap, x]).run P w = .ok (.slice (some ⟨w.heap.size, 0, none⟩) (sLen + n) (grownCap w (sLen + n) sCap e))
      (w.drew.alloc (.cells (olds.toArray ++ news.toArray ++ Builtin.zeroCells z.cells (grownCap w (sLen + n) sCap e - (sLen + n))) e)) := by
  obtain ⟨_, h1⟩ := hx
  obtain ⟨h3, h4⟩ := h1 w (.inl rfl)
  obtain ⟨h5, h6⟩ := h1 w.drew (.inr rfl)
  have h7 := ho w.drew (.inr rfl)
  have hn : ¬ (sLen + n ≤ sCap) := by omega
  have h63' : ¬ (9223372036854775807 < ((sLen : Int) + (n : Int))) := by omega
  have h48' : ¬ (281474976710656 < Builtin.nextslicecap (sLen + n) sCap * i.bytes) := by omega
  unfold listT at h2
  split at h2
  · rename_i e' hu
    simp [Builtin.append_, run_underlying ht, run_underlying hu, sizeOf, typeInfo, zeroValue, hi, hz, h3, hn, h63', h48', Question.forced, h6, h7, newRow, grownCap]
    congr 2
    apply Array.ext'
    simp [List.append_assoc]
  · rename_i hu
    simp [Builtin.append_, run_underlying ht, run_underlying hu, sizeOf, typeInfo, zeroValue, hi, hz, h3, hn, h63', h48', Question.forced, h6, h7, newRow, grownCap]
    congr 2
    apply Array.ext'
    simp [List.append_assoc]
  · cases h2
theorem Reads.row {b off len sz : Nat} {xs : List V} (h : Reads w F b off len sz xs) : ∃ cs : List Value, cs.length = xs.length * sz ∧ RowE w F sz cs.toArray xs ∧ ∀ j v, cs[j]? = some v → w.cell? ⟨b, off + j, none⟩ = some v := by
 refine ⟨(List.range (xs.length * sz)).map (Am.cellAt w b off), by simp, ⟨by simp, h.elem, fun i j hi hj => ?_⟩, fun j v hj => ?_⟩
 ·have hlt := mul_add_lt (sz := sz) hi hj
  obtain ⟨g1, g2, g3⟩ := h.cellAt hlt
  have e1 : (i * sz + j) / sz = i := by
   rw [Nat.mul_comm, Nat.mul_add_div (by omega), Nat.div_eq_of_lt hj]; rfl
  have e2 : (i * sz + j) % sz = j := mul_add_mod' hj
  rw [e1, e2] at g2 g3
  exact ⟨_, by simp [hlt], g2, g3⟩
 ·by_cases hl : j < xs.length * sz
  ·simp [hl] at hj
   rw [← hj]
   exact (h.cellAt hl).1
  ·rw [List.getElem?_eq_none (by simp; omega)] at hj
   cases hj
theorem app_second (h : Sim B a.tmps.toList w F ρ s rest osT osH) {x : Operand} {y : Src} {b : Option Nat} {sz : Nat} {ys : List V} (hc : chkS x y = true)
    (hr : (match Am.ev (nth s.t) y with | .str l => some (1, Am.B l) | _ => Am.rdsl (nth s.t) y b) = some (sz, ys)) :
    ∃ news : List Value, Second P w sz ys.length (a.eval x) news ∧ RowE w F sz news.toArray ys ∧ ∀ v ∈ news, v.oneCell' = true := by
  have one : ∀ (news : List Value), RowE w F sz news.toArray ys → ∀ v ∈ news, v.oneCell' = true := by
    intro news hR v hv
    obtain ⟨j, hj, hjv⟩ := List.getElem_of_mem hv
    have hs := hR.1
    simp only [List.size_toArray] at hs
    obtain ⟨h1, h2, h3⟩ := divmod_lt (show j < ys.length * sz by omega)
    obtain ⟨cv, g1, g2, g3⟩ := hR.2.2 _ _ h1 h2
    rw [← h3] at g1
    simp [hj] at g1
    rw [← hjv, g1]
    exact g2.oneCell g3
  have gen : ((∃ p, a.eval x = .slice p 0 0) ∧ ys = []) ∨ (∃ b off cap, a.eval x = .slice (some ⟨b, off, none⟩) ys.length cap ∧ Reads w F b off ys.length sz ys) →
      ∃ news : List Value, Second P w sz ys.length (a.eval x) news ∧ RowE w F sz news.toArray ys ∧ ∀ v ∈ news, v.oneCell' = true := by
    rintro (⟨⟨p, hx⟩, rfl⟩ | ⟨b', off, cap, hx, hR⟩)
    · have hR : RowE w F sz ([] : List Value).toArray [] := ⟨by simp, fun i hi => by simp at hi, fun i j hi => by simp at hi⟩
      exact ⟨[], ⟨by simp, fun w1 _ => by rw [hx]; exact ⟨by simp [Builtin.lenOf], run_firstCells_empty p⟩⟩, hR, one _ hR⟩
    · obtain ⟨cs, c1, c2, c3⟩ := hR.row
      refine ⟨cs, ⟨c1, fun w1 hw => ?_⟩, c2, one _ c2⟩
      have hcell : ∀ j v, cs[j]? = some v → w1.cell? ⟨b', off + j, none⟩ = some v := fun j v hj => by
        rcases hw with rfl | rfl
        · exact c3 j v hj
        · exact c3 j v hj
      have := run_firstCells_some (P := P) w1 sz ys.length ⟨b', off, none⟩ ys.length cap cs c1 (fun j v hj => by rw [addr_add]; exact hcell j v hj)
      rw [hx]
      exact ⟨by simp [Builtin.lenOf], this⟩
  split at hr
  · rename_i l he
    simp only [Option.some.injEq, Prod.mk.injEq] at hr
    obtain ⟨rfl, rfl⟩ := hr
    obtain ⟨os, hrep, _⟩ := h.ev hc
    rw [he] at hrep
    obtain ⟨sb, hx, rfl⟩ := hrep.str_inv
    have hl : (Am.B sb.data.toList).length = sb.size := by simp [Am.B]
    have hR : RowE w F 1 (sb.data.toList.map fun b => Value.int .u8 (b.toNat : Int)).toArray (Am.B sb.data.toList) := by
      have hn : ∀ i, i < (Am.B sb.data.toList).length → nth (Am.B sb.data.toList) i = .int .u8 (sb.data.toList[i]?.getD 0).toNat := fun i hi => by
        have hi' : i < sb.data.toList.length := by simpa [Am.B] using hi
        rw [nth_eq_getElem hi]
        simp [Am.B, List.getElem?_eq_getElem hi']
      refine ⟨by simp [Am.B], fun i hi => by rw [hn i hi]; exact ⟨rfl, rfl⟩, fun i j hi hj => ?_⟩
      obtain rfl : j = 0 := by omega
      have hi' : i < sb.data.toList.length := by simpa [Am.B] using hi
      rw [hn i hi]
      refine ⟨.int .u8 (sb.data.toList[i]?.getD 0).toNat, ?_, .int _ _, rfl⟩
      simp [List.getElem?_eq_getElem hi']
    refine ⟨_, ⟨by simp [Am.B], fun w1 _ => ?_⟩, hR, one _ hR⟩
    rw [hx, hl]
    refine ⟨by simp [Builtin.lenOf], ?_⟩
    have he : sb.extract 0 sb.size = sb := by
      apply ByteArray.ext
      rw [ByteArray.data_extract, show sb.size = sb.data.size from rfl, Array.extract_size]
    simp only [Builtin.firstCells, he, Sem.run_pure]
    congr 1
    apply Array.ext'
    simp
  · exact gen (h.rdsl hc hr)
theorem OwnSl.append {blk len cap sz : Nat} {xs ys : List V} {news : List Value} (h : OwnSl w F blk len cap sz xs) (hR : RowE w F sz news.toArray ys) (hroom : len + ys.length ≤ cap) (hB : B ≤ blk) (hf : ∀ b, w.heap.size ≤ b → F b = 0) :
    OwnSl (w.setCells blk (len * sz) news) F blk (len + ys.length) cap sz (xs ++ ys) ∧ (∀ j, j < news.length → (w.cell? ⟨blk, len * sz + j, none⟩).isSome = true) ∧ (∀ j, j < news.length → w.frozen? ⟨blk, len * sz + j, none⟩ = false) := by
  obtain ⟨cur, e, fr, b1, b2, b3⟩ := h.block
  obtain ⟨r1, r2, r3⟩ := hR
  simp only [List.size_toArray] at r1
  have hE := Ext.setCells (B := B) (w := w) (F := F) (o := len * sz) news hB h.zero hf
  have hlen := h.hlen
  have hfit : len * sz + news.length ≤ cur.size := by
    have := Nat.mul_le_mul_right sz hroom
    rw [Nat.add_mul] at this
    omega
  have hsome : ∀ j, j < cur.size → (w.cell? ⟨blk, j, none⟩).isSome = true := fun j hj => by
    simp only [World.cell?, b1, Option.isSome_none, Bool.false_eq_true, if_false]
    simp [hj]
  refine ⟨⟨by simp; omega, hroom, h.zero, ⟨_, e, fr, setCells_block news _ w cur e fr b1, by rw [setA_size]; exact b2, fun o ho => ?_⟩, fun i hi => ?_, fun i j hi hj => ?_, h.hsz⟩, fun j hj => hsome _ (by omega), fun j hj => b3 _ (by omega)⟩
  · rw [setA_size] at ho
    rw [World.frozen?_setCells]
    exact b3 o ho
  · by_cases hx : i < xs.length
    · rw [nth_append_left hx]; exact h.elem i hx
    · obtain ⟨k, rfl⟩ := Nat.exists_eq_add_of_le (Nat.le_of_not_lt hx)
      simp only [List.length_append] at hi
      rw [nth_append_right (by omega)]
      exact r2 k (by omega)
  · by_cases hx : i < xs.length
    · rw [nth_append_left hx]
      obtain ⟨cv, c1, c2, c3⟩ := h.cell i j hx hj
      refine ⟨cv, ?_, c2.ext hE, c3⟩
      have := mul_add_lt (sz := sz) hx hj
      rw [World.cell?_setCells_out blk news (len * sz) w _ (fun _ _ => .inl (show i * sz + j < len * sz by rw [hlen]; exact this))]
      exact c1
    · obtain ⟨k, rfl⟩ := Nat.exists_eq_add_of_le (Nat.le_of_not_lt hx)
      simp only [List.length_append] at hi
      rw [nth_append_right (by omega)]
      obtain ⟨cv, c1, c2, c3⟩ := r3 k j (by omega) hj
      refine ⟨cv, ?_, c2.ext hE, c3⟩
      have hk := mul_add_lt (sz := sz) (show k < ys.length by omega) hj
      have := World.cell?_setCells_in blk news (len * sz) w (fun j hj => hsome _ (by omega)) (k * sz + j) (by omega)
      have hidx : (xs.length + k) * sz + j = len * sz + (k * sz + j) := by rw [Nat.add_mul, hlen]; omega
      rw [hidx, this]
      have c1 : news[k * sz + j]? = some cv := by simpa using c1
      rw [List.getElem?_eq_getElem (by omega)] at c1
      exact c1
theorem op_app (h : Sim B a.tmps.toList w F ρ s rest osT osH) {x1 x2 : Operand} {y1 y2 : Src} {t t2 ty e : TypeId} {b : Option Nat} {sz bytes : Nat} {i : TypeInfo} {z : Value} (hop : o.op = .call ⟨.builtin .append, #[x1, x2], #[t, t2]⟩) (hty : o.type = ty) (hc1 : chkS x1 y1 = true) (hc2 : chkS x2 y2 = true)
    (hu : P.underlying t = some (.slice e)) (h2 : listT P t2 = true) (hi : P.info? e = some i) (hz0 : sz ≠ 0) (hsz : i.size = sz) (hby : i.bytes = bytes) (hz : i.zero = some z) (hzs : z.cells.size = sz) (hr : opRes c (nth s.t) s.h (.app sz bytes y1 y2 b) = some r) : OpOK P a o B w F ρ s rest osT osH r := by
  simp only [opRes] at hr
  split at hr
  · rename_i own sz' xs he
    split at hr
    · rename_i sz'' ys hsec
      split at hr
      · rename_i hk
        obtain ⟨k0, rfl, k3, k4⟩ := hk
        simp only [Option.some.injEq] at hr
        subst hr
        subst hsz
        obtain ⟨news, n1, n2, n3⟩ := app_second (P := P) h hc2 hsec
        obtain ⟨osT', osV, g1, g2⟩ := h.take hc1 (by rw [he]; rfl)
        rw [he] at g1
        have hrunop : ∀ cv w', (Builtin.append_ #[t, t2] ty #[a.eval x1, a.eval x2]).run P w = .ok cv w' → (execOp a.eval o).run P w = .ok (.value cv) w' := fun cv w' hh => by
          subst hty; simp [execOp, hop, resolve, invoke, builtin, hh]
        have hneed : (xs.length + ys.length) ≤ 140737488355328 := by
          have := Nat.le_mul_of_pos_right (xs.length + ys.length) (Nat.pos_of_ne_zero k4)
          omega
        have grow : ∀ (base : Option Addr) (cap : Nat) (olds : List Value), a.eval x1 = .slice base xs.length cap → xs.length ≤ cap → cap < xs.length + ys.length → olds.length = xs.length * i.size →
            (∀ w1, (w1 = w ∨ w1 = w.drew) → (Builtin.firstCells i.size xs.length (.slice base xs.length cap)).run P w1 = .ok olds.toArray w1) → RowE w F i.size olds.toArray xs →
            OpOK P a o B w F ρ s rest osT osH (.val (mvUps (nth s.t) y1) (.sl true i.size (xs ++ ys)) s.h) := by
          intro base cap olds hx hcl hgr hol hfc hRo
          have hrun := run_app_grow (P := P) (ty := ty) hu h2 hi hz n1 hfc hgr (by omega) (growslice_fits hgr (by rw [hby]; exact k3))
          rw [← hx] at hrun
          have hcap : xs.length + ys.length ≤ grownCap w (xs.length + ys.length) cap e := by unfold grownCap; simp only [Question.cut]; omega
          generalize grownCap w (xs.length + ys.length) cap e = C at hrun hcap
          generalize hzc : Builtin.zeroCells z.cells (C - (xs.length + ys.length)) = Z at hrun
          have hZs : Z.size = (C - (xs.length + ys.length)) * i.size := by rw [← hzc, size_zeroCells, hzs]
          have hE := (Ext.drew (B := B) (w := w) h.fresh).transF (Ext.alloc (B := B) (w := w.drew) h.base h.fresh (.cells (olds.toArray ++ news.toArray ++ Z) e) 0)
          have hnl := n1.1
          have hown : OwnSl (w.drew.alloc (.cells (olds.toArray ++ news.toArray ++ Z) e)) (setF F w.heap.size 0) w.heap.size (xs.length + ys.length) C i.size (xs ++ ys) := by
            refine OwnSl.new (heap_alloc_new w.drew _) (setF_self F _ _) (fun o _ => frozen_new w.drew _ _ o) hz0 (by simp) hcap ?_ (fun k hk => ?_) (fun k j hk hj => ?_)
            · simp only [Array.size_append, List.size_toArray, hZs, hol, hnl, ← Nat.add_mul]
              exact Nat.mul_le_mul_right _ (by omega)
            · by_cases hx : k < xs.length
              · rw [nth_append_left hx]; exact hRo.2.1 k hx
              · obtain ⟨m, rfl⟩ := Nat.exists_eq_add_of_le (Nat.le_of_not_lt hx)
                simp only [List.length_append] at hk
                rw [nth_append_right (by omega)]
                exact n2.2.1 m (by omega)
            · by_cases hx : k < xs.length
              · rw [nth_append_left hx]
                obtain ⟨cv, q1, q2, q3⟩ := hRo.2.2 k j hx hj
                refine ⟨cv, ?_, q2.ext hE, q3⟩
                have := mul_add_lt (sz := i.size) hx hj
                have q1 : olds[k * i.size + j]? = some cv := by simpa using q1
                simp only [Array.getElem?_append, List.size_toArray, Array.size_append, hol, List.getElem?_toArray]
                rw [if_pos (by omega), if_pos this, q1]
              · obtain ⟨m, rfl⟩ := Nat.exists_eq_add_of_le (Nat.le_of_not_lt hx)
                simp only [List.length_append] at hk
                rw [nth_append_right (by omega)]
                obtain ⟨cv, q1, q2, q3⟩ := n2.2.2 m j (by omega) hj
                refine ⟨cv, ?_, q2.ext hE, q3⟩
                have := mul_add_lt (sz := i.size) (show m < ys.length by omega) hj
                have q1 : news[m * i.size + j]? = some cv := by simpa using q1
                have hidx : (xs.length + m) * i.size + j = xs.length * i.size + (m * i.size + j) := by rw [Nat.add_mul]; omega
                simp only [Array.getElem?_append, List.size_toArray, Array.size_append, hol, hnl, List.getElem?_toArray]
                rw [hidx, if_pos (by omega), if_neg (by omega), show xs.length * i.size + (m * i.size + j) - xs.length * i.size = m * i.size + j by omega, q1]
          refine ⟨_, _, _, ρ, osT', osH, [w.heap.size], .inl (hrunop _ _ hrun), hE.weaken (fun _ _ x => x.elim), fun _ _ x => x, g1.replace hE (fun _ _ x => x) (.e _ _ _ (.own _ _ _ _ _ hown)) rfl (fun b hb => ?_) (fun b => ?_), fun b hb => ?_⟩
          · obtain rfl := List.mem_singleton.1 hb
            exact ⟨.inr (Nat.le_refl _), by simp, setF_self F _ _⟩
          · simp only [List.count_singleton]; split <;> omega
          · simp only [List.mem_append, List.mem_singleton] at hb
            rcases hb with (hb | hb) | hb
            · exact .inl (by simp [g2 b (by simp [hb])])
            · exact .inl (by simp [hb])
            · exact .inr (Nat.le_of_eq hb.symm)
        rcases k0 with ⟨rfl, rfl⟩ | ⟨rfl, rfl, kx, ky⟩
        case inr =>
          obtain rfl : xs = [] := by simpa using kx
          have h0 : 0 < ys.length := by
            cases ys with
            | nil => cases ky
            | cons y ys => simp
          generalize hcv : a.eval x1 = cv1 at g1
          have hval := g1.val
          cases hval with
          | e _ _ _ hv =>
            cases hv with
            | d _ _ hv =>
              cases hv with
              | slnil p => exact grow p 0 [] hcv (Nat.le_refl _) (by simpa using h0) (by simp) (fun w1 _ => by cases p <;> simp [Builtin.firstCells, loadCells, loadCellsFrom]) ⟨by simp, fun i hi => by simp at hi, fun i j hi => by simp at hi⟩
              | sl b off len cap _ _ cvf h0 => exact absurd rfl h0
        generalize hcv : a.eval x1 = cv1 at g1
        have hval := g1.val
        cases hval with
        | e _ _ _ hv =>
          cases hv with
          | d _ _ hv => cases hv
          | ownnil =>
            rcases Nat.eq_zero_or_pos ys.length with h0 | h0
            · have hy : ys = [] := List.length_eq_zero_iff.1 h0
              subst hy
              have hrun := run_app_none (P := P) (ty := ty) hu h2 hi n1
              rw [← hcv] at hrun
              refine ⟨_, w, F, ρ, osT', osH, [], .inl (hrunop _ _ hrun), Ext.refl h.fresh, fun _ _ x => x, by rw [hcv]; simpa using g1, fun b hb => .inl ?_⟩
              simp only [List.append_nil, List.mem_append] at hb ⊢
              rcases hb with hb | hb
              · exact .inl (g2 b (by simp [hb]))
              · exact .inr hb
            · exact grow none 0 [] hcv (Nat.le_refl _) (by simpa using h0) (by simp) (fun w1 _ => by simp [Builtin.firstCells]) ⟨by simp, fun i hi => by simp at hi, fun i j hi => by simp at hi⟩
          | own blk len cap _ _ hv =>
            have hlen := hv.hlen
            subst hlen
            by_cases hroom : xs.length + ys.length ≤ cap
            · have hinb := g1.inb blk (by simp)
              obtain ⟨q1, q2, q3⟩ := hv.append n2 hroom hinb.1 h.fresh
              have hst := run_storeCells_cells (P := P) blk (xs.length * i.size) news 0 w (by simpa using q2) (by simpa using q3) n3
              simp only [Nat.add_zero] at hst
              have hrun := run_app_room (P := P) (ty := ty) hu h2 hi n1 hroom hst
              rw [← hcv] at hrun
              have hE := Ext.setCells (B := B) (w := w) (F := F) (o := xs.length * i.size) news hinb.1 hinb.2.2 h.fresh
              have hone := g1.once blk
              simp only [List.count_append, List.count_cons_self, List.count_nil] at hone
              have hblk : blk ∈ osT := g2 blk (by simp)
              refine ⟨_, _, _, ρ, osT', osH, [blk], .inl (hrunop _ _ hrun), hE.weaken (fun b _ hb => ?_), fun _ _ x => x, g1.replace hE (fun b hb hbb => ?_) (.e _ _ _ (.own _ _ _ _ _ q1)) rfl (fun b hb => ?_) (fun b => ?_), fun b hb => .inl ?_⟩
              · subst hb; simp [hblk]
              · subst hbb
                have := List.count_pos_iff.2 hb
                simp only [List.count_append] at this
                omega
              · obtain rfl := List.mem_singleton.1 hb
                exact ⟨.inl hb, Nat.lt_of_lt_of_le hinb.2.1 hE.size, hinb.2.2⟩
              · simp only [List.count_singleton]; split <;> omega
              · simp only [List.mem_append, List.mem_singleton] at hb ⊢
                rcases hb with (hb | hb) | hb
                · exact .inl (g2 b (by simp [hb]))
                · exact .inr hb
                · subst hb; exact .inl hblk
            · obtain ⟨cs, c1, c2, c3⟩ := hv.reads.row
              exact grow _ cap cs hcv hv.hcap (by omega) c1 (fun w1 hw => run_firstCells_some (P := P) w1 i.size xs.length ⟨blk, 0, none⟩ xs.length cap cs c1 (fun j v hj => by
                rw [addr_add]
                rcases hw with rfl | rfl
                · exact c3 j v hj
                · exact c3 j v hj)) c2
      · cases hr
    · cases hr
  · cases hr
end
end Go.Am
namespace Go.Am
open Go Go.RowKit
def chkSO : Option Operand → Option Src → Bool
 | none, none => true
 | some x, some y => chkS x y
 | _, _ => false
def chkSL : List Operand → List Src → Bool
 | [], [] => true
 | x :: xs, y :: ys => chkS x y && chkSL xs ys
 | _, _ => false
theorem run_sliceBound {P : Program} {w : World} {x : Value} {k : IntKind} {n : Int} {m : Nat} {code : BoundsCode} (hx : x = .int k n) (h0 : 0 ≤ n) (h1 : n ≤ (m : Int)) : (Instr.sliceBound x m code).run P w = .ok n.toNat w := by
 subst hx
 simp [Instr.sliceBound, asIntOf, h0, h1]
section
variable {P : Program} {a : Act} {o : Oper} {B : Nat} {w : World} {F : Nat → Nat} {ρ : List Nat} {s : St} {rest osT osH : List Nat} {c : CallF} {r : Rs}
theorem Sim.bound (h : Sim B a.tmps.toList w F ρ s rest osT osH) {x : Option Operand} {y : Option Src} (hc : chkSO x y = true) {d n : Int} (hv : bound (nth s.t) y d = some n) :
    (x = none ∧ y = none ∧ n = d) ∨ ∃ x', x = some x' ∧ y.isSome = true ∧ ∃ k, a.eval x' = .int k n := by
  cases x with
  | none => cases y with
    | none => simp only [Am.bound, Option.some.injEq] at hv; exact .inl ⟨rfl, rfl, hv.symm⟩
    | some y => cases hc
  | some x => cases y with
    | none => cases hc
    | some y => exact .inr ⟨x, rfl, rfl, h.int hc hv⟩
theorem run_sliceBounds2 {isS : Bool} {len cap : Nat} {lo hi : Option Value} {l r : Int} (h0 : 0 ≤ l) (h1 : l ≤ r) (h2 : r ≤ (len : Int)) (hlc : len ≤ cap)
    (hlo : (lo = none ∧ l = 0) ∨ ∃ k, lo = some (.int k l)) (hhi : (hi = none ∧ r = (len : Int)) ∨ ∃ k, hi = some (.int k r)) : (Instr.sliceBounds isS len cap lo hi none).run P w = .ok (l.toNat, r.toNat, cap) w := by
  have hr : ∀ m : Nat, r ≤ (m : Int) → l ≤ ((r.toNat : Nat) : Int) := fun m _ => by omega
  rcases hhi with ⟨rfl, rfl⟩ | ⟨k, rfl⟩
  · rcases hlo with ⟨rfl, rfl⟩ | ⟨k', rfl⟩
    · simp [Instr.sliceBounds]
    · simp [Instr.sliceBounds, run_sliceBound (P := P) (w := w) rfl h0 h1]
  · have hb : ∀ code, (Instr.sliceBound (.int k r) cap code).run P w = .ok r.toNat w := fun code => run_sliceBound rfl (by omega) (by omega)
    rcases hlo with ⟨rfl, rfl⟩ | ⟨k', rfl⟩
    · cases isS <;> simp [Instr.sliceBounds, hb]
    · have hb2 : ∀ code, (Instr.sliceBound (.int k' l) r.toNat code).run P w = .ok l.toNat w := fun code => run_sliceBound rfl h0 (by omega)
      cases isS <;> simp [Instr.sliceBounds, hb, hb2]
theorem run_sliceBounds3 {len cap : Nat} {lo hi : Option Value} {l r m : Int} {km : IntKind} (h0 : 0 ≤ l) (h1 : l ≤ r) (h2 : r ≤ m) (h3 : m ≤ (cap : Int))
    (hlo : (lo = none ∧ l = 0) ∨ ∃ k, lo = some (.int k l)) (hhi : ∃ k, hi = some (.int k r)) : (Instr.sliceBounds true len cap lo hi (some (.int km m))).run P w = .ok (l.toNat, r.toNat, m.toNat) w := by
  have hm : ∀ code, (Instr.sliceBound (.int km m) cap code).run P w = .ok m.toNat w := fun code => run_sliceBound rfl (by omega) h3
  obtain ⟨k, rfl⟩ := hhi
  have hb : ∀ code, (Instr.sliceBound (.int k r) m.toNat code).run P w = .ok r.toNat w := fun code => run_sliceBound rfl (by omega) (by omega)
  rcases hlo with ⟨rfl, rfl⟩ | ⟨k', rfl⟩
  · simp [Instr.sliceBounds, hm, hb]
  · have hb2 : ∀ code, (Instr.sliceBound (.int k' l) r.toNat code).run P w = .ok l.toNat w := fun code => run_sliceBound rfl h0 (by omega)
    simp [Instr.sliceBounds, hm, hb, hb2]
theorem RepD.sub {b off len sz l r m : Nat} {xs : List V} {cvf : Nat → Nat → Value} (hz : sz ≠ 0) (hl : len = xs.length) (hoff : off + xs.length * sz ≤ F b) (he : ∀ i, i < xs.length → (nth xs i).cells.length = sz ∧ (nth xs i).data = true)
    (hc : ∀ i j, i < xs.length → j < sz → w.cell? ⟨b, off + i * sz + j, none⟩ = some (cvf i j)) (h1 : ∀ i j, i < xs.length → j < sz → (nth (nth xs i).cells j).one = true)
    (hd : ∀ i j, i < xs.length → j < sz → RepD w F (cvf i j) (nth (nth xs i).cells j)) (hlr : l ≤ r) (hrl : r ≤ xs.length) (hrm : r ≤ m) :
    RepD w F (.slice (some (if m = l then ⟨b, off, none⟩ else ⟨b, off + l * sz, none⟩)) (r - l) (m - l)) (.sl false sz ((xs.take r).drop l)) := by
  have hlen : ((xs.take r).drop l).length = r - l := by simp; omega
  have hn : ∀ i, i < r - l → nth ((xs.take r).drop l) i = nth xs (l + i) := fun i hi => by rw [nth_drop, nth_take _ _ _ (by omega)]
  have hls := Nat.mul_le_mul_right sz (show l ≤ xs.length by omega)
  split
  · rename_i hml
    refine .sl b off _ _ sz _ (fun i j => cvf (l + i) j) hz hlen.symm (by omega) (by rw [hlen, show r - l = 0 by omega]; omega) (fun i hi => by rw [hlen] at hi; omega) (fun i j hi _ => by rw [hlen] at hi; omega) (fun i j hi _ => by rw [hlen] at hi; omega) (fun i j hi _ => by rw [hlen] at hi; omega)
  · refine .sl b (off + l * sz) _ _ sz _ (fun i j => cvf (l + i) j) hz hlen.symm (by omega) ?_ (fun i hi => ?_) (fun i j hi hj => ?_) (fun i j hi hj => ?_) (fun i j hi hj => ?_)
    · rw [hlen]
      have := Nat.mul_le_mul_right sz hrl
      have e : (r - l) * sz + l * sz = r * sz := by rw [← Nat.add_mul, Nat.sub_add_cancel hlr]
      omega
    · rw [hlen] at hi; rw [hn i hi]; exact he _ (by omega)
    · rw [hlen] at hi
      have := hc (l + i) j (by omega) hj
      rw [Nat.add_mul, ← Nat.add_assoc] at this
      exact this
    · rw [hlen] at hi; rw [hn i hi]; exact h1 _ _ (by omega) hj
    · rw [hlen] at hi; rw [hn i hi]; exact hd _ _ (by omega) hj
theorem op_slc_str (h : Sim B a.tmps.toList w F ρ s rest osT osH) {x : Operand} {y : Src} {t : TypeId} {lo hi mx : Option Operand} {ylo yhi ymx : Option Src} (hop : o.op = .slice t x lo hi mx) (hc : chkS x y = true) (hlo : chkSO lo ylo = true) (hhi : chkSO hi yhi = true) (hmx : chkSO mx ymx = true)
    (hu : P.underlying t = some .string) (hr : opRes c (nth s.t) s.h (.slc none y ylo yhi ymx) = some r) : OpOK P a o B w F ρ s rest osT osH r := by
  simp only [opRes] at hr
  split at hr
  · rename_i l he _
    obtain ⟨os, hrep, _⟩ := h.ev hc
    rw [he] at hrep
    obtain ⟨sb, hx, rfl⟩ := hrep.str_inv
    split at hr
    · rename_i l1 r1 e1 e2
      split at hr
      · rename_i hk
        obtain ⟨k1, k2, k3⟩ := hk
        simp only [Option.some.injEq] at hr
        subst hr
        have hmn : mx = none := by cases mx with | none => rfl | some _ => cases hmx
        subst hmn
        have k3' : r1 ≤ (sb.size : Int) := k3
        have hb := run_sliceBounds2 (P := P) (w := w) (isS := false) (len := sb.size) (cap := sb.size) (lo := lo.map a.eval) (hi := hi.map a.eval) k1 k2 k3' (Nat.le_refl _)
          (by rcases h.bound hlo e1 with ⟨p, _, q⟩ | ⟨x', p, _, k, q⟩
              · exact .inl ⟨by rw [p]; rfl, q⟩
              · exact .inr ⟨k, by rw [p, ← q]; rfl⟩)
          (by rcases h.bound hhi e2 with ⟨p, _, q⟩ | ⟨x', p, _, k, q⟩
              · exact .inl ⟨by rw [p]; rfl, q⟩
              · exact .inr ⟨k, by rw [p, ← q]; rfl⟩)
        refine OpOK.data h (cv := .string (sb.extract l1.toNat r1.toNat)) ?_ (.str _ _ ?_)
        · simp [execOp, hop, hx, Instr.sliceAt, Instr.slice, run_under hu, hb]
        · rw [ByteArray.data_extract, Array.toList_extract, List.extract_eq_take_drop, List.drop_take]
      · cases hr
    · cases hr
  · rename_i hh; cases hh
  · cases hr
theorem op_slc (h : Sim B a.tmps.toList w F ρ s rest osT osH) {x : Operand} {y : Src} {t e : TypeId} {sz : Nat} {lo hi mx : Option Operand} {ylo yhi ymx : Option Src} (hop : o.op = .slice t x lo hi mx) (hc : chkS x y = true) (hlo : chkSO lo ylo = true) (hhi : chkSO hi yhi = true) (hmx : chkSO mx ymx = true)
    (hu : P.underlying t = some (.slice e)) (hs : szT P e = some sz) (hr : opRes c (nth s.t) s.h (.slc (some sz) y ylo yhi ymx) = some r) : OpOK P a o B w F ρ s rest osT osH r := by
  simp only [opRes] at hr
  split at hr
  · rename_i hh; cases hh
  · rename_i sz' xs sz'' he hh
    simp only [Option.some.injEq] at hh
    subst hh
    obtain ⟨os, hrep, _⟩ := h.ev hc
    rw [he] at hrep
    split at hr
    · rename_i l1 r1 m1 e1 e2 e3
      split at hr
      · rename_i hk
        obtain ⟨rfl, k1, k2, k3, k4, k5⟩ := hk
        simp only [Option.some.injEq] at hr
        subst hr
        have hlo' : (lo.map a.eval = none ∧ l1 = 0) ∨ ∃ k, lo.map a.eval = some (.int k l1) := by
          rcases h.bound hlo e1 with ⟨p, _, q⟩ | ⟨x', p, _, k, q⟩
          · exact .inl ⟨by rw [p]; rfl, q⟩
          · exact .inr ⟨k, by rw [p, ← q]; rfl⟩
        have hhi' : (hi.map a.eval = none ∧ r1 = (xs.length : Int)) ∨ ∃ k, hi.map a.eval = some (.int k r1) := by
          rcases h.bound hhi e2 with ⟨p, _, q⟩ | ⟨x', p, _, k, q⟩
          · exact .inl ⟨by rw [p]; rfl, q⟩
          · exact .inr ⟨k, by rw [p, ← q]; rfl⟩
        have hb : ∀ cap, xs.length ≤ cap → ∃ m : Nat, r1.toNat ≤ m ∧ (Instr.sliceBounds true xs.length cap (lo.map a.eval) (hi.map a.eval) (mx.map a.eval)).run P w = .ok (l1.toNat, r1.toNat, m) w := by
          intro cap hcap
          rcases h.bound hmx e3 with ⟨p, _, q⟩ | ⟨x', p, hy, k, q⟩
          · refine ⟨cap, by omega, ?_⟩
            rw [p]
            exact run_sliceBounds2 k1 k2 (by omega) hcap hlo' hhi'
          · refine ⟨m1.toNat, by omega, ?_⟩
            rw [p]
            simp only [Option.map_some, q]
            refine run_sliceBounds3 k1 k2 k3 (by omega) hlo' ?_
            rcases hhi' with ⟨p', _⟩ | hh
            · have hin : hi = none := by cases hi with | none => rfl | some _ => cases p'
              have : yhi = none := by rw [hin] at hhi; cases yhi with | none => rfl | some _ => cases hhi
              have := k5 this
              rw [this] at hy
              cases hy
            · exact hh
        have hlr : l1.toNat ≤ r1.toNat := by omega
        have hrl : r1.toNat ≤ xs.length := by omega
        rcases sl_inv (hrep.data rfl) with ⟨⟨p0, hx⟩, rfl⟩ | ⟨b, off, cap, cvf, hx, gz, g2, g3, g4, g5, g6, g7⟩
        · obtain ⟨m, hm, hbb⟩ := hb 0 (Nat.le_refl _)
          simp only [List.length_nil] at hrl hbb
          have e1 : r1.toNat = 0 := by omega
          have e2 : l1.toNat = 0 := by omega
          have em : m = 0 := by
            have h1 : m ≤ 0 := by
              rcases h.bound hmx e3 with ⟨p, _, q⟩ | ⟨x', p, hy, k, q⟩
              · rw [p] at hbb
                have := run_sliceBounds2 (P := P) (w := w) (isS := true) (len := 0) (cap := 0) k1 k2 (by simp at k4; omega) (Nat.le_refl _) hlo' hhi'
                simp only [Option.map_none] at hbb
                rw [this] at hbb
                simp only [Result.ok.injEq, Prod.mk.injEq, and_true] at hbb
                omega
              · rw [p] at hbb
                simp only [Option.map_some, q] at hbb
                simp only [List.length_nil] at k4
                have := run_sliceBounds3 (P := P) (w := w) (len := 0) (cap := 0) (km := k) k1 k2 k3 k4 hlo' (by
                  rcases hhi' with ⟨p', _⟩ | hh
                  · have hin : hi = none := by cases hi with | none => rfl | some _ => cases p'
                    have : yhi = none := by rw [hin] at hhi; cases yhi with | none => rfl | some _ => cases hhi
                    have := k5 this
                    rw [this] at hy
                    cases hy
                  · exact hh)
                rw [this] at hbb
                simp only [Result.ok.injEq, Prod.mk.injEq, and_true] at hbb
                omega
            omega
          rw [e1, e2, em] at hbb
          refine OpOK.data h (cv := .slice p0 0 0) ?_ (by simp; exact .slnil _ _)
          simp [execOp, hop, hx, Instr.sliceAt, Instr.slice, run_under hu, hbb, run_sizeOf hs]
        · obtain ⟨m, hm, hbb⟩ := hb cap g2
          refine OpOK.data h (cv := .slice (some (if m = l1.toNat then ⟨b, off, none⟩ else ⟨b, off + l1.toNat * sz', none⟩)) (r1.toNat - l1.toNat) (m - l1.toNat)) ?_ (RepD.sub gz rfl g3 g4 g5 g6 g7 hlr hrl hm)
          simp only [execOp, hop, hx, Instr.sliceAt, Instr.slice, Sem.run_bind, run_under hu, Result.andThen_ok, hbb, run_sizeOf hs, Sem.run_pure, Option.map_some, addr_add]
          split <;> simp
      · cases hr
    · cases hr
  · cases hr
theorem ints_ok (h : Sim B a.tmps.toList w F ρ s rest osT osH) : ∀ {xs : List Operand} {ys : List Src}, chkSL xs ys = true → ∀ {k : IntKind} {ns : List Int}, ints (nth s.t) ys = some (k, ns) → ns ≠ [] → xs.map a.eval = ns.map (Value.int k)
 | [], [], _, k, ns, hi, hn => by simp only [ints, Option.some.injEq, Prod.mk.injEq] at hi; exact (hn hi.2.symm).elim
 | [x], [y], hc, k, ns, hi, hn => by
  simp only [chkSL, Bool.and_true] at hc
  simp only [ints] at hi
  split at hi
  ·rename_i k' n he
   simp only [Option.some.injEq, Prod.mk.injEq] at hi
   obtain ⟨rfl, rfl⟩ := hi
   simp [h.int' hc he]
  ·cases hi
 | x :: x2 :: xs, y :: y2 :: ys, hc, k, ns, hi, hn => by
  rw [chkSL, Bool.and_eq_true] at hc
  simp only [ints] at hi
  split at hi
  ·rename_i k1 n k2 ns' he hr
   split at hi
   ·rename_i hk
    subst hk
    simp only [Option.some.injEq, Prod.mk.injEq] at hi
    obtain ⟨rfl, rfl⟩ := hi
    have hne : ns' ≠ [] := by
     rintro rfl
     cases ys with
     | nil =>
      simp only [ints] at hr
      split at hr <;> simp at hr
     | cons y3 ys =>
      simp only [ints] at hr
      split at hr
      ·split at hr
       ·simp at hr
       ·cases hr
      ·cases hr
    have := ints_ok h hc.2 hr hne
    rw [List.map_cons, this, h.int' hc.1 he]
    rfl
   ·cases hi
  ·cases hi
 | [], _ :: _, hc, _, _, _, _ => by cases hc
 | _ :: _, [], hc, _, _, _, _ => by cases hc
 | [_], _ :: _ :: _, hc, _, _, _, _ => by simp [chkSL] at hc
 | _ :: _ :: _, [_], hc, _, _, _, _ => by simp [chkSL] at hc
theorem run_min {k : IntKind} : ∀ (ns : List Int) (m : Int), ((ns.map (Value.int k)).foldlM Builtin.min2 (.int k m)).run P w = .ok (.int k (ns.foldl (fun a b => if b < a then b else a) m)) w
 | [], m => by simp
 | n :: ns, m => by
  simp only [List.map_cons, List.foldlM_cons, List.foldl_cons, Sem.run_bind, Builtin.min2, Sem.run_pure, Result.andThen_ok]
  exact run_min ns _
theorem op_min (h : Sim B a.tmps.toList w F ρ s rest osT osH) {xs : Array Operand} {ts : Array TypeId} {ys : List Src} (hop : o.op = .call ⟨.builtin .min, xs, ts⟩) (hc : chkSL xs.toList ys = true)
    (hr : opRes c (nth s.t) s.h (.min ys) = some r) : OpOK P a o B w F ρ s rest osT osH r := by
  simp only [opRes] at hr
  split at hr
  · rename_i k ns hi
    split at hr
    · rename_i m hm
      simp only [Option.some.injEq] at hr
      subst hr
      cases ns with
      | nil => cases hm
      | cons n ns =>
        simp only [minL, Option.some.injEq] at hm
        subst hm
        have := ints_ok h hc hi (by simp)
        refine OpOK.data h (cv := .int k _) ?_ (.int _ _)
        have e : (xs.map a.eval).toList = Value.int k n :: ns.map (Value.int k) := by simpa using this
        have hm : (Builtin.min_ ts o.type (xs.map a.eval)).run P w = .ok (.int k (ns.foldl (fun a b => if b < a then b else a) n)) w := by
          unfold Builtin.min_
          rw [e]
          exact run_min ns n
        simp [execOp, hop, resolve, invoke, builtin, hm]
    · cases hr
  · cases hr
theorem op_range (h : Sim B a.tmps.toList w F ρ s rest osT osH) {x : Operand} {y : Src} {t : TypeId} (hop : o.op = .range t x) (hc : chkS x y = true) (hu : P.underlying t = some .string)
    (hr : opRes c (nth s.t) s.h (.range y) = some r) : OpOK P a o B w F ρ s rest osT osH r := by
  simp only [opRes] at hr
  split at hr
  · rename_i l he
    simp only [Option.some.injEq] at hr
    subst hr
    obtain ⟨os, hrep, _⟩ := h.ev hc
    rw [he] at hrep
    obtain ⟨sb, hx, rfl⟩ := hrep.str_inv
    exact OpOK.new h (cv := .pointer (some ⟨w.heap.size, 0, none⟩)) (ob := .stringIter sb 0) (k := 0) (osV := [w.heap.size]) (by simp [execOp, hop, hx, Instr.range, run_under hu])
      (.iter _ sb _ _ (setF_self F _ _) rfl (heap_alloc_new w _)) rfl (.inr ⟨rfl, rfl⟩)
  · cases hr
theorem Ext.setIter {blk : Nat} {ob : Obj} (hB : B ≤ blk) (h0 : F blk = 0) (hf : ∀ b, w.heap.size ≤ b → F b = 0) :
    Ext B w F { w with heap := w.heap.setIfInBounds blk ob } F (fun b => b = blk) := by
  have hother : ∀ k, k ≠ blk → (w.heap.setIfInBounds blk ob)[k]? = w.heap[k]? := fun k hk => Array.getElem?_setIfInBounds_ne (Ne.symm hk)
  refine ⟨⟨rfl, rfl, rfl, by simp, fun k hk => hother k (by omega)⟩, by simp, fun b o ho => cell_of_block (hother b ?_), fun _ => Nat.le_refl _, fun b hb _ => ⟨hother b hb, rfl⟩, fun b hb => hf b (by simpa using hb)⟩
  rintro rfl
  rw [h0] at ho
  omega
theorem op_next (h : Sim B a.tmps.toList w F ρ s rest osT osH) {d d' : Nat} (hop : o.op = .next (.tmp d) true) (hdd : d' = d)
    (hr : opRes c (nth s.t) s.h (.next d') = some r) : OpOK P a o B w F ρ s rest osT osH r := by
  subst hdd
  simp only [opRes] at hr
  split at hr
  · rename_i l pos he
    have hi : d' < s.t.length := nth_lt (fun hh => by rw [hh] at he; cases he)
    obtain ⟨cv, o1, od, o2, g1, g2, g3, g4⟩ := h.tmps.at hi
    rw [he] at g3
    have hx := eval_tmp a rfl d' g1
    cases g3 with
    | e _ _ _ g3 => cases g3 with | d _ _ g3 => cases g3
    | iter b sb _ _ f1 f2 f3 =>
      have hbT : b ∈ osT := by rw [g2]; simp
      have hinb := h.inb b (by simp [hbT])
      have hget : (getObj b).run P w = .ok (.stringIter sb pos) w := by simp [getObj, Sem.run, f3]
      have hl : l.length = sb.size := by rw [← f2]; rfl
      have hbytes : (⟨l.toArray⟩ : ByteArray) = sb := by subst f2; simp
      split at hr
      · rename_i hp
        simp only [Option.some.injEq] at hr
        subst hr
        have hset : ∀ ob, (setObj b ob).run P w = .ok () { w with heap := w.heap.setIfInBounds b ob } := fun ob => by simp [setObj, Sem.run, f3]
        rw [hbytes]
        have hE := Ext.setIter (B := B) (w := w) (F := F) (ob := .stringIter sb (pos + (Utf8.decode sb pos).2)) hinb.1 hinb.2.2 h.fresh
        have hone := h.once b
        rw [g2] at hone
        simp only [List.count_append, List.count_cons_self, List.count_nil] at hone
        have hlt : b < w.heap.size := hinb.2.1
        have hT := g4 (RepV { w with heap := w.heap.setIfInBounds b (.stringIter sb (pos + (Utf8.decode sb pos).2)) } F ρ) (.pointer (some ⟨b, 0, none⟩)) (.iter l (pos + (Utf8.decode sb pos).2)) [b]
          (fun cv v o r hm => r.ext hE (fun _ _ x => x)
            (fun x hx => (h.inb x (by rw [g2]; have := hm x hx; simp only [List.mem_append] at this ⊢; rcases this with y | y <;> simp [y])).2.1)
            (fun x hxo hxb => by
              subst hxb
              have := List.count_pos_iff.2 (hm x hxo)
              simp only [List.count_append] at this
              omega)) (.iter _ sb _ _ f1 f2 (by simp [hlt]))
        rw [← g2] at hT
        have e0 : a.tmps.toList.set d' (.pointer (some ⟨b, 0, none⟩)) = a.tmps.toList := list_set_self g1
        rw [e0] at hT
        refine ⟨.tuple #[.bool true, .int .i64 pos, .int .i32 (Utf8.decode sb pos).1], _, F, ρ, osT, osH, [], .inl ?_, hE.weaken (fun x _ hx => by subst hx; simp [hbT]), fun _ _ x => x,
          ⟨hT, h.heap.ext hE (fun x hxo hxb => ?_), h.alias.view (fl := false) rfl (.inr ⟨(fun ⟨cs, hh⟩ => by rw [he] at hh; cases hh), (fun ⟨sz, xs, hh⟩ => by rw [he] at hh; cases hh)⟩), ?_, trivial, fun x => ?_, fun x hx => ?_, hE.fresh, Nat.le_trans h.base hE.size⟩, fun x hx => .inl (by simpa using hx)⟩
        · have hp' : pos < sb.size := by omega
          simp [execOp, hop, hx, Instr.next, hget, hp', hset, goInt]
        · subst hxb
          have := List.count_pos_iff.2 hxo
          omega
        · refine .tup [.bool true, .int .i64 pos, .int .i32 (Utf8.decode sb pos).1] _ [] ?_
          exact .cons _ _ _ _ [] [] (.d _ _ (.bool _)) (.cons _ _ _ _ [] [] (.d _ _ (.int _ _)) (.cons _ _ _ _ [] [] (.d _ _ (.int _ _)) .nil))
        · simpa using h.once x
        · obtain ⟨b1, b2, b3⟩ := h.inb x (by simpa using hx)
          exact ⟨b1, Nat.lt_of_lt_of_le b2 hE.size, b3⟩
      · rename_i hp
        simp only [Option.some.injEq] at hr
        subst hr
        have hp' : ¬ pos < sb.size := by omega
        refine ⟨.tuple #[.bool false], w, F, ρ, osT, osH, [], .inl ?_, Ext.refl h.fresh, fun _ _ x => x, h.val ?_ trivial, fun x hx => .inl (by simpa using hx)⟩
        · simp [execOp, hop, hx, Instr.next, hget, hp']
        · exact .tup [.bool false] _ [] (.cons _ _ _ _ [] [] (.d _ _ (.bool _)) .nil)
  · cases hr
end
end Go.Am
namespace Go.Am
open Go Go.RowKit
def PsOK (cvs : List Value) (B : Nat) (w : World) (F : Nat → Nat) (ρ : List Nat) (s : St) (rest osT osH : List Nat) (t' : List V) (h' : Heap) : Prop :=
 ∃ F' osT' osH', Ext B w F w F' (fun b => b ∈ osT ++ osH) ∧ Sim B cvs w F' ρ ⟨t', h'⟩ rest osT' osH' ∧ ∀ b ∈ osT' ++ osH', b ∈ osT ++ osH
section
variable {P : Program} {a : Act} {o : Oper} {B : Nat} {w w' : World} {F F' : Nat → Nat} {ρ : List Nat} {s : St} {rest osT osH : List Nat} {c : CallF} {r : Rs} {cvs : List Value}
theorem Ext.freeze {b k : Nat} (h0 : F b = 0) (hb : b < w.heap.size) (hf : ∀ b, w.heap.size ≤ b → F b = 0) : Ext B w F w (setF F b k) (fun x => x = b) := by
 refine ⟨Below.refl _ _, Nat.le_refl _, fun _ _ _ => rfl, fun x => ?_, fun x hx _ => ⟨rfl, setF_ne F hx⟩, fun x hx => ?_⟩
 ·by_cases h : x = b
  ·subst h; rw [h0]; exact Nat.zero_le _
  ·rw [setF_ne F h]; exact Nat.le_refl _
 ·rw [setF_ne F (by omega)]; exact hf x hx
theorem Sim.slotChange (h : Sim B cvs w F ρ s rest osT osH) {d : Nat} {v' : V} {fl : Bool} {os' : List Nat} {cv : Value} {o1 od o2 : List Nat} (g1 : cvs[d]? = some cv) (g2 : osT = o1 ++ od ++ o2)
    (g4 : ∀ (R' : Value → V → List Nat → Prop) cv' v' os', (∀ cv v o, RepV w F ρ cv v o → (∀ b ∈ o, b ∈ o1 ++ o2) → R' cv v o) → R' cv' v' os' → RepL R' (cvs.set d cv') (upd s.t d v') (o1 ++ os' ++ o2))
    (e : Ext B w F w' F' (fun b => b ∈ od)) (hv : RepV w' F' ρ cv v' os') (hsub : ∀ b, os'.count b ≤ od.count b) (hz : ∀ b ∈ os', F' b = 0) (hal : isAl v' = false)
    (hk : fl = true ∨ (((∃ cs, nth s.t d = .box cs) → ∃ cs, v' = .box cs) ∧ ((∃ sz xs, nth s.t d = .sl true sz xs) → ∃ sz xs, v' = .sl true sz xs))) :
    Sim B cvs w' F' ρ ⟨ups1 s.t (d, v', fl), s.h⟩ rest (o1 ++ os' ++ o2) osH ∧ Ext B w F w' F' (fun b => b ∈ osT ++ osH) ∧ ∀ b ∈ (o1 ++ os' ++ o2) ++ osH, b ∈ osT ++ osH := by
  have hcount : ∀ b, (o1 ++ od ++ o2).count b + osH.count b + rest.count b ≤ 1 := fun b => by
    have := h.once b
    rw [g2] at this
    simp only [List.count_append] at this ⊢
    omega
  have hmem : ∀ b, b ∈ os' → b ∈ od := fun b hb => List.count_pos_iff.1 (Nat.lt_of_lt_of_le (List.count_pos_iff.2 hb) (hsub b))
  have hdis : ∀ b, b ∈ o1 ++ o2 ++ osH ++ rest → b ∉ od := fun b hb hbd => by
    have h1 := hcount b
    have h2 := List.count_pos_iff.2 hb
    have h3 := List.count_pos_iff.2 hbd
    simp only [List.count_append] at h1 h2
    omega
  have hT := g4 (RepV w' F' ρ) cv v' os' (fun cv v o r hm => r.ext e (fun _ _ x => x) (fun b hb => (h.inb b (by rw [g2]; have := hm b hb; simp only [List.mem_append] at this ⊢; rcases this with y | y <;> simp [y])).2.1)
    (fun b hb => hdis b (by have := hm b hb; simp only [List.mem_append] at this ⊢; rcases this with y | y <;> simp [y]))) hv
  refine ⟨⟨RepL.view hal g1 hT, h.heap.ext e (fun b hb => hdis b (by simp [hb])), h.alias.view hal hk, fun b => ?_, fun b hb => ?_, e.fresh, Nat.le_trans h.base e.size⟩, e.weaken (fun b _ hb => by rw [g2]; simp [hb]), fun b hb => ?_⟩
  · have h1 := hcount b
    have h2 := hsub b
    simp only [List.count_append] at h1 ⊢
    omega
  · simp only [List.mem_append] at hb
    have old : b ∈ o1 ++ o2 ++ osH ++ rest → B ≤ b ∧ b < w'.heap.size ∧ F' b = 0 := fun hm => by
      obtain ⟨b1, b2, b3⟩ := h.inb b (by rw [g2]; simp only [List.mem_append] at hm ⊢; rcases hm with ((y | y) | y) | y <;> simp [y])
      exact ⟨b1, Nat.lt_of_lt_of_le b2 e.size, ((e.keep b (hdis b hm) b2).2).trans b3⟩
    rcases hb with ((((hb | hb) | hb)) | hb) | hb
    · exact old (by simp [hb])
    · obtain ⟨b1, b2, _⟩ := h.inb b (by rw [g2]; simp [hmem b hb])
      exact ⟨b1, Nat.lt_of_lt_of_le b2 e.size, hz b hb⟩
    · exact old (by simp [hb])
    · exact old (by simp [hb])
    · exact old (by simp [hb])
  · rw [g2]
    simp only [List.mem_append] at hb ⊢
    rcases hb with ((hb | hb) | hb) | hb
    · simp [hb]
    · simp [hmem b hb]
    · simp [hb]
    · simp [hb]
theorem OwnSl.share {b len cap sz : Nat} {xs : List V} (h : OwnSl w F b len cap sz xs) (hf : ∀ b, w.heap.size ≤ b → F b = 0) : RepD w (setF F b (xs.length * sz)) (.slice (some ⟨b, 0, none⟩) len cap) (.sl false sz xs) := by
 have hE := Ext.freeze (B := 0) (k := xs.length * sz) h.zero h.lt hf
 refine .sl b 0 len cap sz xs (fun i j => (w.cell? ⟨b, i * sz + j, none⟩).getD undef) h.hsz h.hlen h.hcap (by rw [setF_self]; omega) h.elem (fun i j hi hj => ?_) (fun i j hi hj => ?_) (fun i j hi hj => ?_)
 ·obtain ⟨cv, c1, _, _⟩ := h.cell i j hi hj
  simp [c1]
 ·obtain ⟨cv, _, _, c3⟩ := h.cell i j hi hj
  exact c3
 ·obtain ⟨cv, c1, c2, _⟩ := h.cell i j hi hj
  simp only [c1, Option.getD_some]
  exact c2.ext hE
theorem RepE.share {cv : Value} {v : V} {os : List Nat} (h : RepE w F cv v os) (hB : ∀ b ∈ os, F b = 0 ∧ b < w.heap.size) (hf : ∀ b, w.heap.size ≤ b → F b = 0) : ∃ F', Ext B w F w F' (fun b => b ∈ os) ∧ RepE w F' cv v.sh [] := by
 cases h with
 | d _ _ h =>
  refine ⟨F, Ext.refl hf, ?_⟩
  have : v.sh = v := by cases h <;> rfl
  rw [this]
  exact .d _ _ h
 | undef => exact ⟨F, Ext.refl hf, .undef _⟩
 | ownnil sz => exact ⟨F, Ext.refl hf, .d _ _ (.slnil none sz)⟩
 | own b len cap sz xs h =>
  exact ⟨_, (Ext.freeze (B := B) h.zero h.lt hf).weaken (fun x _ hx => by subst hx; simp), .d _ _ (h.share hf)⟩
theorem OpOK.sh {P : Program} {a : Act} {o : Oper} {s : St} {rest osT osH : List Nat} {sz : Nat} {xs : List V} {h' : Heap} (hk : OpOK P a o B w F ρ s rest osT osH (.val [] (.sl true sz xs) h')) : OpOK P a o B w F ρ s rest osT osH (.val [] (.sl false sz xs) h') := by
 obtain ⟨cv, w', F', ρ', osT', osH', osV, hrun, hE, hm, hS, hown⟩ := hk
 have hv := hS.val
 cases hv with
 | e _ _ _ g =>
  obtain ⟨F2, e2, r2⟩ := g.share (B := B) (fun b hb => by
   have := hS.inb b (by simp [hb])
   exact ⟨this.2.2, this.2.1⟩) hS.fresh
  have hsim : Sim B a.tmps.toList w' F' ρ' ⟨ups s.t [], h'⟩ rest osT' osH' := ⟨hS.tmps, hS.heap, hS.alias, fun b => by
   have := hS.once b
   simp only [List.count_append] at this ⊢
   omega, fun b hb => hS.inb b (by simp only [List.mem_append] at hb ⊢; rcases hb with (hb | hb) | hb <;> simp [hb]), hS.fresh, hS.base⟩
  have h2 := hsim.ext e2 (fun b hb hbv => by
   have h1 := hS.once b
   have h3 := List.count_pos_iff.2 hb
   have h4 := List.count_pos_iff.2 hbv
   simp only [List.count_append] at h1 h3
   omega)
  refine ⟨cv, w', F2, ρ', osT', osH', [], hrun, (hE.trans e2).weaken (fun b hb hx => ?_), hm, h2.val (.e _ _ _ r2) trivial, fun b hb => hown b (by simp only [List.mem_append] at hb ⊢; simp at hb; rcases hb with hb | hb <;> simp [hb])⟩
  rcases hx with hx | hx
  ·exact hx
  ·rcases hown b (by simp [hx]) with h5 | h5
   ·exact h5
   ·omega
theorem RepL.share {cvs : List Value} {cs : List V} {os : List Nat} (h : RepL (RepC w F) cvs cs os) : (∀ b, os.count b ≤ 1) → (∀ b ∈ os, F b = 0 ∧ b < w.heap.size) → (∀ b, w.heap.size ≤ b → F b = 0) →
  ∃ F', Ext B w F w F' (fun b => b ∈ os) ∧ RepL (RepC w F') cvs (cs.map V.sh) [] := by
 intro h1 hB hf
 generalize hG : F = G at h
 induction h generalizing F with
 | nil => subst hG; exact ⟨F, Ext.refl hf, .nil⟩
 | cons cv v cvs vs os os' a r ih =>
  subst hG
  obtain ⟨F1, e1, r1⟩ := a.1.share (B := B) (fun b hb => hB b (by simp [hb])) hf
  have hdis : ∀ b ∈ os', b ∉ os := fun b hb hbd => by
   have := h1 b
   have h2 := List.count_pos_iff.2 hb
   have h3 := List.count_pos_iff.2 hbd
   simp only [List.count_append] at this
   omega
  obtain ⟨F2, e2, r2⟩ := ih (F := F) (fun b => by have := h1 b; simp only [List.count_append] at this; omega) (fun b hb => hB b (by simp [hb])) hf rfl
  refine ⟨fun b => if b ∈ os then F1 b else F2 b, ?_, ?_⟩
  ·refine ⟨Below.refl _ _, Nat.le_refl _, fun _ _ _ => rfl, fun b => ?_, fun b hb hs => ⟨rfl, ?_⟩, fun b hb => ?_⟩
   ·by_cases hbo : b ∈ os
    ·simp only [hbo, if_true]; exact e1.mono b
    ·simp only [hbo, if_false]; exact e2.mono b
   ·simp only [List.mem_append, not_or] at hb
    simp only [hb.1, if_false]
    exact (e2.keep b hb.2 hs).2
   ·by_cases hbo : b ∈ os
    ·simp only [hbo, if_true]; exact e1.fresh b hb
    ·simp only [hbo, if_false]; exact e2.fresh b hb
  ·have up1 : ∀ b, F1 b ≤ (fun b => if b ∈ os then F1 b else F2 b) b := fun b => by
    by_cases hbo : b ∈ os
    ·simp only [hbo, if_true]; exact Nat.le_refl _
    ·simp only [hbo, if_false]
     by_cases hs : b < w.heap.size
     ·rw [(e1.keep b hbo hs).2]; exact e2.mono b
     ·rw [e1.fresh b (by omega)]; exact Nat.zero_le _
   have up2 : ∀ b, F2 b ≤ (fun b => if b ∈ os then F1 b else F2 b) b := fun b => by
    by_cases hbo : b ∈ os
    ·simp only [hbo, if_true]
     by_cases hs : b < w.heap.size
     ·rw [(e2.keep b (fun hb' => hdis b hb' hbo) hs).2]; exact e1.mono b
     ·rw [e2.fresh b (by omega)]; exact Nat.zero_le _
    ·simp only [hbo, if_false]; exact Nat.le_refl _
   have mono : ∀ {G G' : Nat → Nat}, (∀ b, G b ≤ G' b) → ∀ cv v, RepC w G cv v [] → RepC w G' cv v [] := by
    intro G G' hG cv v hc
    refine ⟨?_, hc.2⟩
    generalize hos : ([] : List Nat) = os0 at hc
    obtain ⟨hc, _⟩ := hc
    cases hc with
    | d _ _ hc => exact .d _ _ (hc.mono (fun _ _ _ => rfl) hG)
    | undef => exact .undef _
    | ownnil sz => exact .ownnil sz
    | own => cases hos
   have hone : v.sh.data = true → v.sh.one = true := fun hd => by
    cases v with
    | sl o sz xs => rfl
    | _ => exact a.2.2 hd
   have hrest : ∀ {cvs : List Value} {vs : List V} {o : List Nat}, RepL (RepC w F2) cvs vs o → o = [] → RepL (RepC w (fun b => if b ∈ os then F1 b else F2 b)) cvs vs [] := by
    intro cvs vs o r ho
    induction r with
    | nil => exact .nil
    | cons cv v cvs vs o1 o2 ha _ ih =>
     simp only [List.append_eq_nil_iff] at ho
     obtain ⟨rfl, rfl⟩ := ho
     exact .cons _ _ _ _ [] [] (mono up2 _ _ ha) (ih rfl)
   exact .cons _ _ _ _ [] [] (mono up1 _ _ ⟨r1, a.2.1, hone⟩) (hrest r2 rfl)
theorem OwnCells.share {b : Nat} {cs : List V} {os : List Nat} (h : OwnCells w F b cs os) (h1 : ∀ b, os.count b ≤ 1) (hb : b ∉ os) (hB : ∀ b ∈ os, F b = 0 ∧ b < w.heap.size) (hf : ∀ b, w.heap.size ≤ b → F b = 0) :
    ∃ F', Ext B w F w F' (fun b => b ∈ os) ∧ OwnCells w F' b (cs.map V.sh) [] := by
  have hlt := h.lt
  obtain ⟨z, cur, e, fr, c1, c2, c3⟩ := h
  obtain ⟨F', e1, r1⟩ := c3.share (B := B) h1 hB hf
  exact ⟨F', e1, ((e1.keep b hb hlt).2).trans z, cur, e, fr, c1, c2, r1⟩
theorem upd_self (t : List V) (d : Nat) : upd t d (nth t d) = t := by
 induction t generalizing d with
 | nil => rfl
 | cons x t ih => cases d with
  | zero => rfl
  | succ d => simp only [upd, nth]; rw [ih]
theorem Sim.psrefl (h : Sim B cvs w F ρ s rest osT osH) : PsOK cvs B w F ρ s rest osT osH s.t s.h := ⟨F, osT, osH, Ext.refl h.fresh, h, fun _ x => x⟩
theorem ps_cm (h : Sim B cvs w F ρ s rest osT osH) (d : Nat) : PsOK cvs B w F ρ s rest osT osH (ups1 s.t (d, (nth s.t d).sh, (nth s.t d).owner)) s.h := by
 by_cases hd : d < s.t.length
 ·obtain ⟨cv, o1, od, o2, g1, g2, g3, g4⟩ := h.tmps.at hd
  by_cases ho : (nth s.t d).owner = true
  ·have hod : ∀ b ∈ od, F b = 0 ∧ b < w.heap.size := fun b hb => by
    have := h.inb b (by rw [g2]; simp [hb])
    exact ⟨this.2.2, this.2.1⟩
   cases hv : nth s.t d with
   | sl own sz xs =>
    rw [hv] at ho g3
    cases own with
    | false => cases ho
    | true =>
     cases g3 with
     | e _ _ _ g3 =>
      obtain ⟨F', e1, r1⟩ := g3.share (B := B) hod h.fresh
      obtain ⟨q1, q2, q3⟩ := h.slotChange (fl := true) (v' := .sl false sz xs) (os' := []) g1 g2 g4 e1 (.e _ _ _ r1) (fun b => by simp) (fun b hb => by cases hb) rfl (.inl rfl)
      exact ⟨F', _, _, q2, q1, q3⟩
   | box cs =>
    rw [hv] at g3
    obtain ⟨q1, q2, q3⟩ := h.slotChange (fl := true) (v' := .box cs) (os' := od) g1 g2 g4 (Ext.refl h.fresh) g3 (fun b => Nat.le_refl _) (fun b hb => (hod b hb).1) rfl (.inl rfl)
    exact ⟨F, _, _, q2, q1, q3⟩
   | _ => rw [hv] at ho; cases ho
  ·have ho' : (nth s.t d).owner = false := by simpa using ho
   have hsh : (nth s.t d).sh = nth s.t d := by
    cases hv : nth s.t d with
    | sl own sz xs =>
     rw [hv] at ho'
     cases own with
     | false => rfl
     | true => cases ho'
    | _ => rfl
   rw [ho', hsh]
   simp only [ups1]
   rw [upd_self]
   exact h.psrefl
 ·have hn : nth s.t d = .undef := nth_out (Nat.le_of_not_lt hd)
  rw [hn]
  simp only [V.sh, V.owner, ups1]
  rw [upd_out (Nat.le_of_not_lt hd)]
  exact h.psrefl
theorem ps_cmb (h : Sim B cvs w F ρ s rest osT osH) {d : Nat} {cs : List V} (hb : nth s.t d = .box cs) : PsOK cvs B w F ρ s rest osT osH (ups1 s.t (d, .box (cs.map V.sh), false)) s.h := by
 have hd : d < s.t.length := nth_lt (fun hh => by rw [hh] at hb; cases hb)
 obtain ⟨cv, o1, od, o2, g1, g2, g3, g4⟩ := h.tmps.at hd
 rw [hb] at g3
 cases g3 with
 | e _ _ _ g3 => cases g3 with | d _ _ g3 => cases g3
 | box b _ os g3 =>
  have hone : ∀ x, (b :: os).count x ≤ 1 := fun x => by
   have := h.once x
   rw [g2] at this
   simp only [List.count_append] at this
   omega
  have hbo : b ∉ os := fun hm => by
   have := hone b
   have h2 := List.count_pos_iff.2 hm
   simp only [List.count_cons_self] at this
   omega
  have hin : ∀ x ∈ b :: os, F x = 0 ∧ x < w.heap.size := fun x hx => by
   have := h.inb x (by rw [g2]; simp only [List.mem_append]; exact .inl (.inl (.inl (.inr hx))))
   exact ⟨this.2.2, this.2.1⟩
  obtain ⟨F', e1, r1⟩ := g3.share (B := B) (fun x => by have := hone x; simp only [List.count_cons] at this; omega) hbo (fun x hx => hin x (by simp [hx])) h.fresh
  obtain ⟨q1, q2, q3⟩ := h.slotChange (fl := false) (v' := .box (cs.map V.sh)) (os' := [b]) g1 g2 g4 (e1.weaken fun x _ hx => by simp [hx]) (.box _ _ _ r1) (fun x => by simp only [List.count_cons, List.count_nil]; omega)
   (fun x hx => by obtain rfl := List.mem_singleton.1 hx; exact r1.1) rfl (.inr ⟨fun _ => ⟨_, rfl⟩, fun ⟨sz, xs, hh⟩ => (by rw [hb] at hh; cases hh)⟩)
  exact ⟨F', _, _, q2, q1, q3⟩
theorem ps_cmh (h : Sim B cvs w F ρ s rest osT osH) {id : Nat} (hid : id < s.h.length) : PsOK cvs B w F ρ s rest osT osH s.t (hupd s.h id ((hnth s.h id).map V.sh)) := by
 obtain ⟨b, o1, ob, o2, g1, g2, g3, g4⟩ := h.heap.at hid
 have hcount : ∀ x, osT.count x + (o1 ++ (b :: ob) ++ o2).count x + rest.count x ≤ 1 := fun x => by
  have := h.once x
  rw [g2] at this
  simp only [List.count_append] at this ⊢
  omega
 have hone : ∀ x, (b :: ob).count x ≤ 1 := fun x => by
  have := hcount x
  simp only [List.count_append] at this
  omega
 have hbo : b ∉ ob := fun hm => by
  have := hone b
  have h2 := List.count_pos_iff.2 hm
  simp only [List.count_cons_self] at this
  omega
 have hin : ∀ x ∈ b :: ob, F x = 0 ∧ x < w.heap.size := fun x hx => by
  have := h.inb x (by rw [g2]; simp only [List.mem_append]; exact .inl (.inr (.inl (.inr hx))))
  exact ⟨this.2.2, this.2.1⟩
 obtain ⟨F', e1, r1⟩ := g3.share (B := B) (fun x => by have := hone x; simp only [List.count_cons] at this; omega) hbo (fun x hx => hin x (by simp [hx])) h.fresh
 have hdis : ∀ x, x ∈ osT ++ (o1 ++ o2) ++ rest → x ∉ ob := fun x hx hxo => by
  have h1 := hcount x
  have h2 := List.count_pos_iff.2 hx
  have h3 := List.count_pos_iff.2 hxo
  simp only [List.count_append, List.count_cons] at h1 h2
  omega
 have hH := g4 w F' _ [] (fun b' cs o r hm => r.ext e1 (fun hb' => hdis b' (by have := hm b' (by simp); simp only [List.mem_append] at this ⊢; rcases this with y | y <;> simp [y]) hb')
  (fun x hx hxb => hdis x (by have := hm x (by simp [hx]); simp only [List.mem_append] at this ⊢; rcases this with y | y <;> simp [y]) hxb)) r1
 refine ⟨F', osT, o1 ++ [b] ++ o2, e1.weaken (fun x _ hx => by rw [g2]; simp [hx]), ⟨h.tmps.ext e1 (fun _ _ x => x) (fun x hx => (h.inb x (by simp [hx])).2.1) (fun x hx => hdis x (by simp [hx])), hH, h.alias, fun x => ?_, fun x hx => ?_, e1.fresh, h.base⟩, fun x hx => ?_⟩
 ·have := hcount x
  simp only [List.count_append, List.count_cons, List.count_nil] at this ⊢
  omega
 ·have hmem : x ∈ osT ++ osH ++ rest ∧ x ∉ ob := by
   simp only [List.mem_append, List.mem_singleton] at hx
   rcases hx with (hx | ((hx | hx) | hx)) | hx
   ·exact ⟨by simp [hx], hdis x (by simp [hx])⟩
   ·exact ⟨by rw [g2]; simp [hx], hdis x (by simp [hx])⟩
   ·subst hx; exact ⟨by rw [g2]; simp, hbo⟩
   ·exact ⟨by rw [g2]; simp [hx], hdis x (by simp [hx])⟩
   ·exact ⟨by simp [hx], hdis x (by simp [hx])⟩
  obtain ⟨b1, b2, b3⟩ := h.inb x hmem.1
  exact ⟨b1, b2, ((e1.keep x hmem.2 b2).2).trans b3⟩
 ·rw [g2]
  simp only [List.mem_append, List.mem_cons, List.not_mem_nil, or_false] at hx ⊢
  rcases hx with hx | ((hx | hx) | hx)
  ·exact .inl hx
  ·exact .inr (.inl (.inl hx))
  ·exact .inr (.inl (.inr (.inl hx)))
  ·exact .inr (.inr hx)
theorem op_slb (h : Sim B a.tmps.toList w F ρ s rest osT osH) {d d' n : Nat} {t e : TypeId} {lo hi : Option Operand} {ylo yhi : Option Src} (hop : o.op = .slice t (.tmp d) lo hi none) (hdd : d' = d) (hlo : chkSO lo ylo = true) (hhi : chkSO hi yhi = true)
    (hu : P.underlying t = some (.array n e)) (hs : szT P e = some 1) (hr : opRes c (nth s.t) s.h (.slb d' n ylo yhi) = some r) : OpOK P a o B w F ρ s rest osT osH r := by
  subst hdd
  simp only [opRes] at hr
  split at hr
  · rename_i cs hb
    split at hr
    · rename_i l1 r1 e1 e2
      split at hr
      · rename_i hk
        obtain ⟨k0, k1, k2, k3, k4⟩ := hk
        simp only [Option.some.injEq] at hr
        subst hr
        subst k0
        have hd : d' < s.t.length := nth_lt (fun hh => by rw [hh] at hb; cases hb)
        obtain ⟨cv, o1, od, o2, g1, g2, g3, g4⟩ := h.tmps.at hd
        have hx := eval_tmp a rfl d' g1
        rw [hb] at g3
        have hbs := run_sliceBounds2 (P := P) (w := w) (isS := false) (len := cs.length) (cap := cs.length) (lo := lo.map a.eval) (hi := hi.map a.eval) k1 k2 k3 (Nat.le_refl _)
          (by rcases h.bound hlo e1 with ⟨p, _, q⟩ | ⟨x', p, _, k, q⟩
              · exact .inl ⟨by rw [p]; rfl, q⟩
              · exact .inr ⟨k, by rw [p, ← q]; rfl⟩)
          (by rcases h.bound hhi e2 with ⟨p, _, q⟩ | ⟨x', p, _, k, q⟩
              · exact .inl ⟨by rw [p]; rfl, q⟩
              · exact .inr ⟨k, by rw [p, ← q]; rfl⟩)
        cases g3 with
        | e _ _ _ g3 => cases g3 with | d _ _ g3 => cases g3
        | box b _ os g3 =>
          have hin := h.inb b (by rw [g2]; simp)
          have hE := Ext.freeze (B := B) (k := cs.length) hin.2.2 hin.2.1 h.fresh
          let cvf : Nat → Value := fun j => (w.cell? ⟨b, j, none⟩).getD undef
          have hcf : ∀ j, j < cs.length → w.cell? ⟨b, j, none⟩ = some (cvf j) ∧ RepD w (setF F b cs.length) (cvf j) (nth cs j) ∧ (nth cs j).one = true := fun j hj => by
            obtain ⟨cv, c1, c2⟩ := g3.cell hj
            have h1 := all_nth k4 hj
            have hcv : cvf j = cv := by simp [cvf, c1]
            rw [hcv]
            exact ⟨c1, (c2 (V.one_data h1)).1.ext hE, h1⟩
          obtain ⟨q1, q2, q3⟩ := h.slotChange (fl := true) (v' := .rptr cs) (os' := []) g1 g2 g4 (hE.weaken fun x _ hx => by simp [hx])
            (.rptr b 0 cs cvf (by rw [setF_self]; omega) (fun j hj => by rw [Nat.zero_add]; exact (hcf j hj).1) (fun j hj => (hcf j hj).2)) (fun x => by simp) (fun x hx => by cases hx) rfl (.inl rfl)
          have hD := RepD.sub (w := w) (F := setF F b cs.length) (b := b) (off := 0) (sz := 1) (l := l1.toNat) (r := r1.toNat) (m := cs.length) (xs := cs) (cvf := fun i j => cvf i) (by decide) rfl (by rw [setF_self]; omega)
            (fun i hi => by have := (hcf i hi).2.2; rw [V.one_cells this]; exact ⟨rfl, V.one_data this⟩) (fun i j hi hj => by obtain rfl : j = 0 := (by omega); simpa using (hcf i hi).1)
            (fun i j hi hj => by obtain rfl : j = 0 := (by omega); rw [nth_cells_one (hcf i hi).2.2]; exact (hcf i hi).2.2) (fun i j hi hj => by obtain rfl : j = 0 := (by omega); rw [nth_cells_one (hcf i hi).2.2]; exact (hcf i hi).2.1) (by omega) (by omega) (by omega)
          refine ⟨_, w, _, ρ, _, osH, [], .inl ?_, q2, fun _ _ x => x, q1.val (.e _ _ _ (.d _ _ hD)) trivial, fun x hx => .inl (q3 x (by simpa using hx))⟩
          simp only [execOp, hop, hx, Instr.sliceAt, Instr.sureAddr, Sem.run_bind, run_under hu, Result.andThen_ok, hbs, run_sizeOf hs, Sem.run_pure, Option.map_none, addr_add]
      · cases hr
    · cases hr
  · cases hr
theorem Sim.alias_al (h : Sim B a.tmps.toList w F ρ s rest osT osH) {x : Operand} {y : Src} {d : Nat} (hc : chkS x y = true) (he : Am.ev (nth s.t) y = .al d) : a.tmps.toList[d]? = some (a.eval x) := by
 cases y with
 | t i =>
  simp only [Am.ev] at he
  have hi : i < s.t.length := nth_lt (fun hh => by rw [hh] at he; cases he)
  obtain ⟨cv, od, g1, g2, _⟩ := h.tmps.get hi
  have ha := h.alias i cv g1
  rw [he] at ha
  have hx : a.eval x = cv := by
   cases x with
   | tmp t => simp only [chkS, beq_iff_eq] at hc; subst hc; exact eval_tmp a rfl t g1
   | _ => cases hc
  rw [hx]
  exact ha.2
 | c v =>
  simp only [Am.ev] at he
  subst he
  cases x <;> simp [chkS] at hc
  rename_i cv
  cases cv <;> simp [constOK, constOK1] at hc
 | f g => cases he
theorem RowE.take {n : Nat} {news : List Value} {ys : List V} (h : RowE w F 1 news.toArray ys) (hn : n ≤ ys.length) : RowE w F 1 (news.take n).toArray (ys.take n) := by
 obtain ⟨h1, h2, h3⟩ := h
 simp only [List.size_toArray, Nat.mul_one] at h1
 refine ⟨by simp; omega, fun i hi => ?_, fun i j hi hj => ?_⟩
 ·simp only [List.length_take] at hi
  rw [nth_take _ _ _ (by omega)]
  exact h2 i (by omega)
 ·simp only [List.length_take] at hi
  rw [nth_take _ _ _ (by omega)]
  obtain ⟨cv, q1, q2⟩ := h3 i j (by omega) hj
  refine ⟨cv, ?_, q2⟩
  obtain rfl : j = 0 := by omega
  simp only [Nat.mul_one, Nat.add_zero, List.getElem?_toArray] at q1 ⊢
  rw [List.getElem?_take_of_lt (by omega)]
  exact q1
theorem copy_second (h : Sim B a.tmps.toList w F ρ s rest osT osH) {x : Operand} {y : Src} {b : Option Nat} {ys : List V} {n : Nat} (hc : chkS x y = true) (hn : n ≤ ys.length)
    (hr : (match Am.ev (nth s.t) y with | .str l => some (1, Am.B l) | _ => Am.rdsl (nth s.t) y b) = some (1, ys)) :
    ∃ news : List Value, news.length = n ∧ (Builtin.lenOf (a.eval x)).run P w = .ok ys.length w ∧ (Builtin.firstCells 1 n (a.eval x)).run P w = .ok news.toArray w ∧ RowE w F 1 news.toArray (ys.take n) ∧ ∀ v ∈ news, v.oneCell' = true := by
  obtain ⟨news, n1, n2, n3⟩ := app_second (P := P) h hc hr
  obtain ⟨h1, h2⟩ := n1.2 w (.inl rfl)
  have hl := n1.1
  simp only [Nat.mul_one] at hl
  refine ⟨news.take n, by simp; omega, h1, ?_, n2.take hn, fun v hv => n3 v (List.mem_of_mem_take hv)⟩
  split at hr
  · rename_i l he
    obtain ⟨os, hrep, _⟩ := h.ev hc
    rw [he] at hrep
    obtain ⟨sb, hx, rfl⟩ := hrep.str_inv
    rw [hx] at h2 ⊢
    simp only [Builtin.firstCells, Sem.run_pure, Result.ok.injEq, and_true] at h2 ⊢
    rw [← Array.toList_inj] at h2
    simp only [Option.some.injEq, Prod.mk.injEq, true_and] at hr
    subst hr
    have hlb : (Am.B sb.data.toList).length = sb.size := by simp [Am.B]
    rw [hlb] at h2 hn
    apply Array.ext'
    simp only [ByteArray.data_extract, Array.toList_map, Array.toList_extract, List.extract_eq_take_drop, List.drop_zero, Nat.sub_zero] at h2 ⊢
    rw [← h2, ← List.map_take, List.take_take, Nat.min_eq_left hn]
  · rcases h.rdsl hc hr with ⟨⟨p, hx⟩, rfl⟩ | ⟨b', off, cap, hx, hR⟩
    · simp only [List.length_nil] at hn hl
      have : news = [] := List.length_eq_zero_iff.1 hl
      subst this
      have : n = 0 := by omega
      subst this
      rw [hx]
      exact run_firstCells_empty p
    · rw [hx] at h2 ⊢
      have hread : ∀ j v, news[j]? = some v → w.cell? ⟨b', off + j, none⟩ = some v := fun j v hj => by
        have hjl : j < ys.length := by
          have := (List.getElem?_eq_some_iff.1 hj).1
          omega
        obtain ⟨cv, c1, _, _⟩ := hR.cell j 0 hjl (by omega)
        have := run_firstCells_some (P := P) w 1 ys.length ⟨b', off, none⟩ ys.length cap ((List.range ys.length).map (Am.cellAt w b' off)) (by simp) (fun k u hk => by
          by_cases hkl : k < ys.length
          · simp [hkl] at hk
            rw [addr_add, ← hk]
            exact (hR.cellAt (by omega)).1
          · rw [List.getElem?_eq_none (by simp; omega)] at hk; cases hk)
        rw [this] at h2
        simp only [Result.ok.injEq, and_true] at h2
        have h2 : (List.range ys.length).map (Am.cellAt w b' off) = news := by simpa using h2
        rw [← h2] at hj
        simp [hjl] at hj
        rw [← hj]
        exact (hR.cellAt (by omega)).1
      exact run_firstCells_some w 1 n _ _ _ (news.take n) (by simp; omega) (fun j v hj => by
        rw [addr_add]
        exact hread j v (by
          by_cases hjn : j < n
          · rwa [List.getElem?_take_of_lt hjn] at hj
          · rw [List.getElem?_eq_none (by simp; omega)] at hj; cases hj))
theorem OwnSl.write {blk len cap : Nat} {xs ys : List V} {news : List Value} (h : OwnSl w F blk len cap 1 xs) (hR : RowE w F 1 news.toArray ys) (hle : ys.length ≤ xs.length) (hB : B ≤ blk) (hf : ∀ b, w.heap.size ≤ b → F b = 0) :
    OwnSl (w.setCells blk 0 news) F blk len cap 1 (ys ++ xs.drop ys.length) ∧ (∀ j, j < news.length → (w.cell? ⟨blk, 0 + j, none⟩).isSome = true) ∧ (∀ j, j < news.length → w.frozen? ⟨blk, 0 + j, none⟩ = false) := by
  obtain ⟨cur, e, fr, b1, b2, b3⟩ := h.block
  obtain ⟨r1, r2, r3⟩ := hR
  simp only [List.size_toArray, Nat.mul_one] at r1
  have hE := Ext.setCells (B := B) (w := w) (F := F) (o := 0) news hB h.zero hf
  have hlen := h.hlen
  have hcap := h.hcap
  have hsome : ∀ j, j < cur.size → (w.cell? ⟨blk, j, none⟩).isSome = true := fun j hj => by
    simp only [World.cell?, b1, Option.isSome_none, Bool.false_eq_true, if_false]
    simp [hj]
  have hnth : ∀ i, i < xs.length → nth (ys ++ xs.drop ys.length) i = if i < ys.length then nth ys i else nth xs i := fun i hi => by
    split
    · rename_i hh; exact nth_append_left hh
    · rename_i hh
      obtain ⟨k, rfl⟩ := Nat.exists_eq_add_of_le (Nat.le_of_not_lt hh)
      rw [nth_append_right (by simp; omega), nth_drop]
  have hl' : (ys ++ xs.drop ys.length).length = xs.length := by simp; omega
  refine ⟨⟨by rw [hl']; exact hlen, hcap, h.zero, ⟨_, e, fr, setCells_block news _ w cur e fr b1, by rw [setA_size]; exact b2, fun o ho => ?_⟩, fun i hi => ?_, fun i j hi hj => ?_, by decide⟩, fun j hj => hsome _ (by omega), fun j hj => b3 _ (by omega)⟩
  · rw [setA_size] at ho
    rw [World.frozen?_setCells]
    exact b3 o ho
  · rw [hl'] at hi
    rw [hnth i hi]
    split
    · rename_i hh; exact r2 i hh
    · exact h.elem i hi
  · rw [hl'] at hi
    obtain rfl : j = 0 := by omega
    rw [hnth i hi]
    split
    · rename_i hh
      obtain ⟨cv, c1, c2, c3⟩ := r3 i 0 hh hj
      refine ⟨cv, ?_, c2.ext hE, c3⟩
      have := World.cell?_setCells_in blk news 0 w (fun j hj => hsome _ (by omega)) i (by omega)
      rw [Nat.zero_add] at this
      simp only [Nat.mul_one, Nat.add_zero, List.getElem?_toArray] at c1 ⊢
      rw [this, ← c1, List.getElem?_eq_getElem (by omega)]
    · obtain ⟨cv, c1, c2, c3⟩ := h.cell i 0 hi hj
      refine ⟨cv, ?_, c2.ext hE, c3⟩
      rw [World.cell?_setCells_out blk news 0 w _ (fun _ _ => .inr (show 0 + news.length ≤ i * 1 + 0 by omega))]
      exact c1
theorem op_copy (h : Sim B a.tmps.toList w F ρ s rest osT osH) {x1 x2 : Operand} {y1 y2 : Src} {t t2 e : TypeId} {d : Nat} {b : Option Nat} (hop : o.op = .call ⟨.builtin .copy, #[x1, x2], #[t, t2]⟩) (hc1 : chkS x1 y1 = true) (hc2 : chkS x2 y2 = true)
    (hu : P.underlying t = some (.slice e)) (hs : szT P e = some 1) (hr : opRes c (nth s.t) s.h (.copy d y1 y2 b) = some r) : OpOK P a o B w F ρ s rest osT osH r := by
  simp only [opRes] at hr
  split at hr
  · rename_i d' sz xs he hd0
    split at hr
    · rename_i sz' ys hsec
      split at hr
      · rename_i hk
        obtain ⟨rfl, rfl, rfl⟩ := hk
        simp only [Option.some.injEq] at hr
        subst hr
        have hd : d < s.t.length := nth_lt (fun hh => by rw [hh] at hd0; cases hd0)
        have hcv := h.alias_al hc1 he
        obtain ⟨cv, o1, od, o2, g1, g2, g3, g4⟩ := h.tmps.at hd
        rw [g1] at hcv
        simp only [Option.some.injEq] at hcv
        obtain ⟨news, n1, n2, n3, n4, n5⟩ := copy_second (P := P) (n := min ys.length xs.length) h hc2 (Nat.min_le_left _ _) hsec
        rw [hd0] at g3
        have hys : ys.take (min ys.length xs.length) = ys.take xs.length := by rw [Nat.min_comm, ← List.take_eq_take_min]
        rw [hys] at n4
        have hdrop : xs.drop ys.length = xs.drop (ys.take xs.length).length := by
          rw [List.length_take]
          by_cases hh : ys.length ≤ xs.length
          · rw [Nat.min_eq_right hh]
          · rw [Nat.min_eq_left (by omega), List.drop_eq_nil_of_le (by omega), List.drop_eq_nil_of_le (Nat.le_refl _)]
        rw [hdrop]
        have hrunop : ∀ cv w', (Builtin.copy_ #[t, t2] o.type #[a.eval x1, a.eval x2]).run P w = .ok cv w' → (execOp a.eval o).run P w = .ok (.value cv) w' := fun cv w' hh => by
          simp [execOp, hop, resolve, invoke, builtin, hh]
        cases g3 with
        | e _ _ _ g3 =>
          cases g3 with
          | d _ _ g3 => cases g3
          | ownnil =>
            have hn0 : news = [] := by simp at n1; exact n1
            subst hn0
            obtain ⟨q1, q2, q3⟩ := h.slotChange (fl := false) (v' := .sl true 1 (ys.take 0 ++ [])) (os' := []) g1 g2 g4 (Ext.refl h.fresh) (.e _ _ _ (by simp; exact .ownnil 1)) (fun x => by simp) (fun x hx => by cases hx) rfl (.inr ⟨(fun ⟨cs, hh⟩ => by rw [hd0] at hh; cases hh), fun _ => ⟨_, _, rfl⟩⟩)
            refine ⟨.int .i64 (min ys.length 0 : Nat), w, F, ρ, _, osH, [], .inl (hrunop _ _ ?_), q2, fun _ _ x => x, q1.val (.e _ _ _ (.d _ _ (.int _ _))) trivial, fun x hx => .inl (q3 x (by simpa using hx))⟩
            rw [← hcv]
            simp only [List.length_nil] at n3
            simp [Builtin.copy_, run_under hu, run_sizeOf hs, n2, Nat.min_def, goInt] at n3 ⊢
            simp [n3]
          | own blk len cap _ _ g3 =>
            have hinb := h.inb blk (by rw [g2]; simp)
            obtain ⟨w1, w2, w3⟩ := g3.write n4 (by simp; omega) hinb.1 h.fresh
            have hst := run_storeCells_cells (P := P) blk 0 news 0 w (by simpa using w2) (by simpa using w3) n5
            simp only [Nat.add_zero] at hst
            have hE := Ext.setCells (B := B) (w := w) (F := F) (o := 0) news hinb.1 hinb.2.2 h.fresh
            obtain ⟨q1, q2, q3⟩ := h.slotChange (fl := false) (v' := .sl true 1 (ys.take xs.length ++ xs.drop (ys.take xs.length).length)) (os' := [blk]) g1 g2 g4 (hE.weaken fun x _ hx => by simp [hx]) (.e _ _ _ (.own _ _ _ _ _ w1)) (fun x => Nat.le_refl _) (fun x hx => by obtain rfl := List.mem_singleton.1 hx; exact hinb.2.2) rfl (.inr ⟨(fun ⟨cs, hh⟩ => by rw [hd0] at hh; cases hh), fun _ => ⟨_, _, rfl⟩⟩)
            refine ⟨.int .i64 (min ys.length xs.length : Nat), _, F, ρ, _, osH, [], .inl (hrunop _ _ ?_), q2, fun _ _ x => x, q1.val (.e _ _ _ (.d _ _ (.int _ _))) trivial, fun x hx => .inl (q3 x (by simpa using hx))⟩
            rw [← hcv]
            have hlen := g3.hlen
            subst hlen
            have hm : Nat.min ys.length xs.length = min ys.length xs.length := rfl
            simp [Builtin.copy_, run_under hu, run_sizeOf hs, n2, hm, n3, hst, goInt]
      · cases hr
    · cases hr
  · cases hr
end
end Go.Am
namespace Go.Am
open Go Go.RowKit
section
variable (P : Program)
def chk1 (op : Op) (y : Src) : Bool := match op with
 | .move x => chkS x y
 | .assign x => chkS x y
 | _ => false
def chkAl (op : Op) (d : Nat) : Bool := match op with
 | .move (.tmp t) => t == d
 | _ => false
def chkPick (op : Op) (y1 y2 y3 : Src) : Bool := match op with
 | .pick x1 x2 x3 => chkS x1 y1 && chkS x2 y2 && chkS x3 y3
 | _ => false
def chkAlloc (op : Op) (cs : List V) : Bool := match op with
 | .alloc t => (match zeroT P t with | some z => constL z.cells.toList cs | none => false)
 | _ => false
def chkBox (op : Op) (y : Src) : Bool := match op with
 | .box _ x => chkS x y
 | _ => false
def chkBuild (op : Op) (zero : List V) (qs : List (Nat × Nat × Src)) : Bool := match op with
 | .build t ps => (match zeroT P t with
  | some z => constL z.cells.toList zero && zero.all V.one && (match P.underlying t with
   | some (.struct fs) => chkParts (structPlace P fs) ps.toList qs && fs.toList.all (fun f => (szT P f.type).isSome)
   | some (.array _ e) => (match szT P e with | some k => chkParts (fun i => some (i * k, k)) ps.toList qs | none => false)
   | _ => false)
  | none => false)
 | _ => false
def chkZero (e : TypeId) (sz : Nat) (z : V) : Bool := (szT P e == some sz) && z.cells.length == sz && z.data && (match zeroT P e with | some zv => constOK zv z | none => false)
def chkBsl (op : Op) (sz n : Nat) (z : V) (qs : List (Nat × Src)) : Bool := match op with
 | .buildSlice t m ps => (match P.underlying t with
  | some (.slice e) => m == n && chkZero P e sz z && decide (n * sz ≤ 2 ^ 24) && chkPartsE ps.toList qs
  | _ => false)
 | _ => false
def chkFa (op : Op) (y : Src) (off : Nat) : Bool := match op with
 | .fieldAddr t x fi => (match P.underlying t with
  | some (.struct fs) => (match fs[fi]? with
   | some f => chkS x y && f.offset == off && (match szT P f.type with | some n => n != 0 | none => false)
   | none => false)
  | _ => false)
 | _ => false
def chkIa (op : Op) (y j : Src) (sz : Nat) (len : Option Nat) : Bool := match op with
 | .indexAddr t x i => chkS x y && chkS i j && (match len, P.underlying t with
  | some m, some (.array m' e) => m' == m && szT P e == some sz
  | none, some (.slice e) => szT P e == some sz
  | _, _ => false)
 | _ => false
def chkLd (op : Op) (y : Src) (n : Option Nat) : Bool := match op with
 | .load t x => chkS x y && (match n with | none => oneT P t | some m => aggT P t && szT P t == some m)
 | _ => false
def chkSt (op : Op) (y z : Src) (n : Nat) : Bool := match op with
 | .store t x v => chkS x y && chkS v z && szT P t == some n
 | _ => false
def chkNck (op : Op) (y : Src) : Bool := match op with
 | .nilCheck x => chkS x y
 | _ => false
def chkBin (op : Op) (b : BinOp) (y1 y2 : Src) : Bool := match op with
 | .binOp b' _ x1 x2 _ => b' == b && chkS x1 y1 && chkS x2 y2
 | _ => false
def chkBeq (op : Op) (ne : Bool) (y1 y2 : Src) : Bool := match op with
 | .binOp b' t x1 x2 _ => b' == (if ne then .neq else .eql) && chkS x1 y1 && chkS x2 y2 && (match P.underlying t with | some .bool => true | _ => false)
 | _ => false
def chkEqs (op : Op) (ne : Bool) (ks : List Nat) (y1 y2 : Src) : Bool := match op with
 | .binOp b' t x1 x2 _ => b' == (if ne then .neq else .eql) && chkS x1 y1 && chkS x2 y2 && !P.stoodInHeld t && !P.eqGuardType P.depth t && (match P.underlying t with | some (.struct fs) => flatF P 0 fs.toList ks | _ => false)
 | _ => false
def chkUn (op : Op) (u : UnOp) (y : Src) : Bool := match op with
 | .unOp u' _ x => u' == u && !(u == .plus) && chkS x y
 | .binOp b t x1 x2 _ => b == .neq && u == .plus && chkS x1 y && (match P.underlying t with | some (.interface _) => (match x2 with | .const c => (match c with | .nilIface => true | _ => false) | _ => false) | _ => false)
 | _ => false
def chkCvi (op : Op) (k : IntKind) (y : Src) : Bool := match op with
 | .convert t t' x => chkS x y && (P.underlying t).isSome && (match P.underlying t' with | some (.int k') => k' == k | _ => false)
 | _ => false
def chkCvr (op : Op) (y : Src) : Bool := match op with
 | .convert t t' x => chkS x y && (match P.underlying t, P.underlying t' with | some (.int _), some .string => true | _, _ => false)
 | _ => false
def chkCvid (op : Op) (y : Src) : Bool := match op with
 | .convert t t' x => chkS x y && (match P.underlying t, P.underlying t' with | some .string, some .string => true | _, _ => false)
 | _ => false
def u8T (e : TypeId) : Bool := match P.underlying e with | some (.int .u8) => true | _ => false
def chkCvs (op : Op) (y : Src) : Bool := match op with
 | .convert t t' x => chkS x y && (match P.underlying t, P.underlying t' with | some (.slice e), some .string => u8T P e | _, _ => false)
 | _ => false
def chkCvb (op : Op) (y : Src) : Bool := match op with
 | .convert t t' x => chkS x y && (match P.underlying t, P.underlying t' with | some .string, some (.slice e) => u8T P e | _, _ => false)
 | _ => false
def plainT (t : TypeId) : Bool := match P.underlying t with | some (.interface _) => false | some _ => true | none => false
def chkMki (op : Op) (t : TypeId) (y : Src) : Bool := match op with
 | .makeInterface t' x => t' == t && chkS x y && plainT P t
 | _ => false
def chkMkf (op : Op) (f : FuncId) (ys : List Src) : Bool := match op with
 | .makeFunc (.func f') first xs => f' == f && first.isEmpty && chkSL xs.toList ys
 | _ => false
def chkMk (op : Op) (sz bytes : Nat) (z : V) (y1 y2 : Src) : Bool := match op with
 | .makeSlice t x1 x2 => chkS x1 y1 && chkS x2 y2 && (match P.underlying t with
  | some (.slice e) => chkZero P e sz z && (match P.info? e with | some i => i.bytes == bytes | none => false)
  | _ => false)
 | _ => false
def chkSlc (op : Op) (sz : Option Nat) (y : Src) (lo hi mx : Option Src) : Bool := match op with
 | .slice t x xl xh xm => chkS x y && chkSO xl lo && chkSO xh hi && chkSO xm mx && (match sz, P.underlying t with
  | none, some .string => true
  | some n, some (.slice e) => szT P e == some n
  | _, _ => false)
 | _ => false
def chkSlb (op : Op) (d n : Nat) (lo hi : Option Src) : Bool := match op with
 | .slice t (.tmp d') xl xh none => d == d' && chkSO xl lo && chkSO xh hi && (match P.underlying t with
  | some (.array m e) => m == n && szT P e == some 1
  | _ => false)
 | _ => false
def chkIdx (op : Op) (y j : Src) (len : Option Nat) (n : Nat) (ag : Bool) : Bool := match op with
 | .index t x i => chkS x y && chkS i j && (match len, P.underlying t with
  | some m, some (.array m' e) => m' == m && szT P e == some n && n != 0 && (if ag then aggT P e else oneT P e)
  | none, some .string => true
  | _, _ => false)
 | _ => false
def chkFld (op : Op) (y : Src) (off n : Nat) (ag : Bool) : Bool := match op with
 | .field t x fi => chkS x y && (match P.underlying t with
  | some (.struct fs) => (match fs[fi]? with
   | some f => f.offset == off && (if ag then aggT P f.type && szT P f.type == some n else oneT P f.type)
   | none => false)
  | _ => false)
 | _ => false
def chkExt (op : Op) (j i : Nat) : Bool := match op with
 | .extract (.tmp t) k => t == j && k == i
 | _ => false
def chkTas (op : Op) (y : Src) (t : TypeId) (ok : Bool) (zero : V) : Bool := match op with
 | .typeAssert x _ t' ok' => chkS x y && t' == t && ok' == ok && plainT P t && (match zeroT P t with | some z => constOK z zero | none => false)
 | _ => false
def chkLen (op : Op) (st : Bool) (y : Src) : Bool := match op with
 | .call ⟨.builtin .len, xs, ts⟩ => (match xs.toList, ts.toList with
  | [x], [t] => chkS x y && (match st, P.underlying t with
   | true, some .string => true
   | false, some (.slice _) => true
   | _, _ => false)
  | _, _ => false)
 | _ => false
def chkApp (op : Op) (sz bytes : Nat) (y1 y2 : Src) : Bool := match op with
 | .call ⟨.builtin .append, xs, ts⟩ => (match xs.toList, ts.toList with
  | [x1, x2], [t, t2] => chkS x1 y1 && chkS x2 y2 && listT P t2 && (match P.underlying t with
   | some (.slice e) => (match P.info? e with
    | some i => i.size == sz && i.bytes == bytes && (match i.zero with | some z => z.cells.size == sz | none => false)
    | none => false)
   | _ => false)
  | _, _ => false)
 | _ => false
def chkCopy (op : Op) (y1 y2 : Src) : Bool := match op with
 | .call ⟨.builtin .copy, xs, ts⟩ => (match xs.toList, ts.toList with
  | [x1, x2], [t, t2] => chkS x1 y1 && chkS x2 y2 && (match P.underlying t with
   | some (.slice e) => szT P e == some 1
   | _ => false)
  | _, _ => false)
 | _ => false
def chkMin (op : Op) (ys : List Src) : Bool := match op with
 | .call ⟨.builtin .min, xs, _⟩ => chkSL xs.toList ys
 | _ => false
def chkRange (op : Op) (y : Src) : Bool := match op with
 | .range t x => chkS x y && (match P.underlying t with | some .string => true | _ => false)
 | _ => false
def chkNext (op : Op) (d : Nat) : Bool := match op with
 | .next (.tmp t) true => d == t
 | _ => false
def chkPan (op : Op) (y : Src) : Bool := match op with
 | .panic x => chkS x y
 | _ => false
def chkO (op : Op) : AOp → Bool
 | .mv y => chk1 op y
 | .cp y => chk1 op y
 | .al d => chkAl op d
 | .pick c a b => chkPick op c a b
 | .newbox cs => chkAlloc P op cs
 | .newobj cs => chkAlloc P op cs
 | .boxr y => chkBox op y
 | .boxb y => chkBox op y
 | .boxo y => chkBox op y
 | .build zero qs => chkBuild P op zero qs
 | .bsl sz n z qs => chkBsl P op sz n z qs && sz != 0
 | .bsf sz n z qs => chkBsl P op sz n z qs && sz != 0
 | .fa y off _ => chkFa P op y off
 | .ia y j sz len _ => chkIa P op y j sz len
 | .ld y n _ _ => chkLd P op y n
 | .st y z n _ _ => chkSt P op y z n
 | .nck y _ => chkNck op y
 | .bin b y1 y2 => chkBin op b y1 y2
 | .beq ne y1 y2 => chkBeq P op ne y1 y2
 | .eqs ne ks y1 y2 => chkEqs P op ne ks y1 y2
 | .un u y => chkUn P op u y
 | .cvi k y => chkCvi P op k y
 | .cvid y => chkCvid P op y
 | .cvs y _ => chkCvs P op y
 | .cvb y => chkCvb P op y
 | .cvr y => chkCvr P op y
 | .mki t y => chkMki P op t y
 | .mkf f ys => chkMkf op f ys
 | .mk sz bytes z y1 y2 => chkMk P op sz bytes z y1 y2 && sz != 0
 | .slc sz y lo hi mx => chkSlc P op sz y lo hi mx
 | .slb d n lo hi => chkSlb P op d n lo hi
 | .idx y j len n ag => chkIdx P op y j len n ag
 | .fld y off n ag => chkFld P op y off n ag
 | .ext j i => chkExt op j i
 | .tas y t ok zero => chkTas P op y t ok zero
 | .len st y _ => chkLen P op st y
 | .app sz bytes y1 y2 _ => chkApp P op sz bytes y1 y2 && sz != 0
 | .copy _ y1 y2 _ => chkCopy P op y1 y2
 | .min ys => chkMin op ys
 | .range y => chkRange P op y
 | .next d => chkNext op d
 | .pan y => chkPan op y
 | _ => false
end
theorem chkSL_get : ∀ {xs : List Operand} {ys : List Src}, chkSL xs ys = true → xs.length = ys.length ∧ ∀ j (hj : j < xs.length), ∃ y, ys[j]? = some y ∧ chkS xs[j] y = true
 | [], [], _ => ⟨rfl, fun j hj => by simp at hj⟩
 | x :: xs, y :: ys, h => by
  rw [chkSL, Bool.and_eq_true] at h
  obtain ⟨h1, h2⟩ := chkSL_get h.2
  refine ⟨by simp [h1], fun j hj => ?_⟩
  cases j with
  | zero => exact ⟨y, rfl, h.1⟩
  | succ j => exact h2 j (by simpa using hj)
 | [], _ :: _, h => by cases h
 | _ :: _, [], h => by cases h
theorem arr_eq {α : Type} {xs : Array α} {l : List α} (h : xs.toList = l) : xs = l.toArray := by subst h; simp
section
variable {P : Program} {a : Act} {o : Oper} {B : Nat} {w w' : World} {F F' : Nat → Nat} {ρ : List Nat} {s : St} {rest osT osH : List Nat} {c : CallF} {r : Rs}
theorem chkZero_ok {e : TypeId} {sz : Nat} {z : V} (h : chkZero P e sz z = true) : ∃ zv, ZeroE P e sz z zv := by
 unfold chkZero at h
 simp only [Bool.and_eq_true, beq_iff_eq] at h
 obtain ⟨⟨⟨h1, h2⟩, h3⟩, h4⟩ := h
 split at h4
 ·rename_i zv hz
  exact ⟨zv, h1, hz, fun w F => ((constOK_rep h4 w F).data h3).1, h2⟩
 ·cases h4
theorem plainT_ok {t : TypeId} (h : plainT P t = true) : ∃ d, P.underlying t = some d ∧ ∀ ms, d ≠ .interface ms := by
 unfold plainT at h
 split at h
 ·cases h
 ·rename_i d hn hu; exact ⟨d, hu, fun ms hd => hn ms hd⟩
 ·cases h
theorem op_ok (h : Sim B a.tmps.toList w F ρ s rest osT osH) {ao : AOp} (hc : chkO P o.op ao = true) (hr : opRes c (nth s.t) s.h ao = some r) : OpOK P a o B w F ρ s rest osT osH r := by
 cases ao with
 | mv y =>
  simp only [chkO, chk1] at hc
  split at hc
  ·rename_i x hop; exact op_mv h (.inl hop) hc hr
  ·rename_i x hop; exact op_mv h (.inr hop) hc hr
  ·cases hc
 | cp y =>
  simp only [chkO, chk1] at hc
  split at hc
  ·rename_i x hop; exact op_cp h (.inl hop) hc hr
  ·rename_i x hop; exact op_cp h (.inr hop) hc hr
  ·cases hc
 | al d =>
  simp only [chkO, chkAl] at hc
  split at hc
  ·rename_i t hop; obtain rfl := beq_iff_eq.1 hc; exact op_al h hop hr
  ·cases hc
 | pick y1 y2 y3 =>
  simp only [chkO, chkPick] at hc
  split at hc
  ·rename_i x1 x2 x3 hop; simp only [Bool.and_eq_true] at hc; exact op_pick h hop hc.1.1 hc.1.2 hc.2 hr
  ·cases hc
 | newbox cs =>
  simp only [chkO, chkAlloc] at hc
  split at hc
  ·rename_i t hop
   split at hc
   ·rename_i z hz; exact op_newbox h hop hz hc hr
   ·cases hc
  ·cases hc
 | newobj cs =>
  simp only [chkO, chkAlloc] at hc
  split at hc
  ·rename_i t hop
   split at hc
   ·rename_i z hz; exact op_newobj h hop hz hc hr
   ·cases hc
  ·cases hc
 | boxr y =>
  simp only [chkO, chkBox] at hc
  split at hc
  ·rename_i t x hop; exact op_boxr h hop hc hr
  ·cases hc
 | boxb y =>
  simp only [chkO, chkBox] at hc
  split at hc
  ·rename_i t x hop; exact op_boxb h hop hc hr
  ·cases hc
 | boxo y =>
  simp only [chkO, chkBox] at hc
  split at hc
  ·rename_i t x hop; exact op_boxo h hop hc hr
  ·cases hc
 | build zero qs =>
  simp only [chkO, chkBuild] at hc
  split at hc
  ·rename_i t ps hop
   split at hc
   ·rename_i z hz
    simp only [Bool.and_eq_true] at hc
    obtain ⟨⟨h1, h2⟩, h3⟩ := hc
    split at h3
    ·rename_i fs hu
     simp only [Bool.and_eq_true] at h3
     exact op_build_struct h hop hz hu h1 h3.1 h3.2 (fun cs hf => fill_one h h3.1 h2 hf) hr
    ·rename_i n e hu
     split at h3
     ·rename_i k hk; exact op_build_array h hop hz hu hk h1 h3 (fun cs hf => fill_one h h3 h2 hf) hr
     ·cases h3
    ·cases h3
   ·cases hc
  ·cases hc
 | bsl sz n z qs =>
  simp only [chkO, Bool.and_eq_true, bne_iff_ne] at hc
  obtain ⟨hc, hz0⟩ := hc
  simp only [chkBsl] at hc
  split at hc
  ·rename_i t m ps hop
   split at hc
   ·rename_i e hu
    simp only [Bool.and_eq_true, beq_iff_eq, decide_eq_true_eq] at hc
    obtain ⟨⟨⟨rfl, h2⟩, h3⟩, h4⟩ := hc
    obtain ⟨zv, hZ⟩ := chkZero_ok h2
    exact op_bsl h hop hu hz0 hZ h3 h4 hr
   ·cases hc
  ·cases hc
 | bsf sz n z qs =>
  simp only [chkO, Bool.and_eq_true, bne_iff_ne] at hc
  obtain ⟨hc, hz0⟩ := hc
  simp only [chkBsl] at hc
  split at hc
  ·rename_i t m ps hop
   split at hc
   ·rename_i e hu
    simp only [Bool.and_eq_true, beq_iff_eq, decide_eq_true_eq] at hc
    obtain ⟨⟨⟨rfl, h2⟩, h3⟩, h4⟩ := hc
    obtain ⟨zv, hZ⟩ := chkZero_ok h2
    simp only [opRes] at hr
    split at hr
    ·rename_i xs hf
     simp only [Option.some.injEq] at hr
     subst hr
     exact OpOK.sh (op_bsl (c := c) h hop hu hz0 hZ h3 h4 (by simp only [opRes, hf]))
    ·cases hr
   ·cases hc
  ·cases hc
 | fa y off b =>
  simp only [chkO, chkFa] at hc
  split at hc
  ·rename_i t x fi hop
   split at hc
   ·rename_i fs hu
    split at hc
    ·rename_i f hf
     simp only [Bool.and_eq_true, beq_iff_eq] at hc
     obtain ⟨⟨h1, h2⟩, h3⟩ := hc
     split at h3
     ·rename_i n hn; exact op_fa h hop h1 hu hf h2 hn (by simpa using h3) hr
     ·cases h3
    ·cases hc
   ·cases hc
  ·cases hc
 | ia y j sz len b =>
  simp only [chkO, chkIa] at hc
  split at hc
  ·rename_i t x i hop
   simp only [Bool.and_eq_true] at hc
   obtain ⟨⟨h1, h2⟩, h3⟩ := hc
   split at h3
   ·rename_i m m' e hu
    simp only [Bool.and_eq_true, beq_iff_eq] at h3
    obtain ⟨rfl, h4⟩ := h3
    exact op_ia_arr h hop h1 h2 hu h4 hr
   ·rename_i e hu; exact op_ia_sl h hop h1 h2 hu (by simpa using h3) hr
   ·cases h3
  ·cases hc
 | ld y n tr b =>
  simp only [chkO, chkLd] at hc
  split at hc
  ·rename_i t x hop
   simp only [Bool.and_eq_true] at hc
   refine op_ld h hop hc.1 ?_ hr
   cases n with
   | none => exact hc.2
   | some m => have := hc.2; simp only [Bool.and_eq_true, beq_iff_eq] at this; exact this
  ·cases hc
 | st y z n tr b =>
  simp only [chkO, chkSt] at hc
  split at hc
  ·rename_i t x v hop; simp only [Bool.and_eq_true, beq_iff_eq] at hc; exact op_st h hop hc.1.1 hc.1.2 hc.2 hr
  ·cases hc
 | nck y b =>
  simp only [chkO, chkNck] at hc
  split at hc
  ·rename_i x hop; exact op_nck h hop hc hr
  ·cases hc
 | bin b y1 y2 =>
  simp only [chkO, chkBin] at hc
  split at hc
  ·rename_i b' t x1 x2 t' hop; simp only [Bool.and_eq_true, beq_iff_eq] at hc; obtain ⟨⟨rfl, h1⟩, h2⟩ := hc; exact op_bin h hop h1 h2 hr
  ·cases hc
 | beq ne y1 y2 =>
  simp only [chkO, chkBeq] at hc
  split at hc
  ·rename_i b' t x1 x2 t' hop
   simp only [Bool.and_eq_true, beq_iff_eq] at hc
   obtain ⟨⟨⟨rfl, h1⟩, h2⟩, h3⟩ := hc
   split at h3
   ·rename_i hu; exact op_beq h hop h1 h2 hu hr
   ·cases h3
  ·cases hc
 | eqs ne ks y1 y2 =>
  simp only [chkO, chkEqs] at hc
  split at hc
  ·rename_i b' t x1 x2 t' hop
   simp only [Bool.and_eq_true, beq_iff_eq, Bool.not_eq_true'] at hc
   obtain ⟨⟨⟨⟨⟨rfl, h1⟩, h2⟩, h3⟩, h4⟩, h5⟩ := hc
   split at h5
   ·rename_i fs hu; exact op_eqs h hop h1 h2 hu h3 h4 h5 hr
   ·cases h5
  ·cases hc
 | un u y =>
  simp only [chkO, chkUn] at hc
  split at hc
  ·rename_i u' t x hop; simp only [Bool.and_eq_true, beq_iff_eq, Bool.not_eq_true', beq_eq_false_iff_ne] at hc; obtain ⟨⟨rfl, h0⟩, h1⟩ := hc; exact op_un h hop h0 h1 hr
  ·rename_i b t x1 x2 t' hop
   simp only [Bool.and_eq_true, beq_iff_eq] at hc
   obtain ⟨⟨⟨rfl, rfl⟩, h1⟩, h2⟩ := hc
   split at h2
   ·rename_i ms hu
    split at h2
    ·split at h2
     ·exact op_inil h hop hu h1 hr
     ·cases h2
    ·cases h2
   ·cases h2
  ·cases hc
 | cvi k y =>
  simp only [chkO, chkCvi] at hc
  split at hc
  ·rename_i t t' x hop
   simp only [Bool.and_eq_true] at hc
   obtain ⟨⟨h1, h2⟩, h3⟩ := hc
   obtain ⟨d, hd⟩ := Option.isSome_iff_exists.1 h2
   split at h3
   ·rename_i k' hu; obtain rfl := beq_iff_eq.1 h3; exact op_cvi h hop h1 hd hu hr
   ·cases h3
  ·cases hc
 | cvid y =>
  simp only [chkO, chkCvid] at hc
  split at hc
  ·rename_i t t' x hop
   simp only [Bool.and_eq_true] at hc
   obtain ⟨h1, h3⟩ := hc
   split at h3
   ·rename_i hu hu'; exact op_cvid h hop h1 hu hu' hr
   ·cases h3
  ·cases hc
 | cvs y b =>
  simp only [chkO, chkCvs] at hc
  split at hc
  ·rename_i t t' x hop
   simp only [Bool.and_eq_true] at hc
   obtain ⟨h1, h3⟩ := hc
   split at h3
   ·rename_i e hu hu'
    unfold u8T at h3
    split at h3
    ·rename_i hue; exact op_cvs h hop h1 hu hue hu' hr
    ·cases h3
   ·cases h3
  ·cases hc
 | cvb y =>
  simp only [chkO, chkCvb] at hc
  split at hc
  ·rename_i t t' x hop
   simp only [Bool.and_eq_true] at hc
   obtain ⟨h1, h3⟩ := hc
   split at h3
   ·rename_i e hu hu'
    unfold u8T at h3
    split at h3
    ·rename_i hue; exact op_cvb h hop h1 hu hu' hue hr
    ·cases h3
   ·cases h3
  ·cases hc
 | cvr y =>
  simp only [chkO, chkCvr] at hc
  split at hc
  ·rename_i t t' x hop
   simp only [Bool.and_eq_true] at hc
   obtain ⟨h1, h3⟩ := hc
   split at h3
   ·rename_i k hu hu'; exact op_cvr h hop h1 hu hu' hr
   ·cases h3
  ·cases hc
 | mki t y =>
  simp only [chkO, chkMki] at hc
  split at hc
  ·rename_i t' x hop
   simp only [Bool.and_eq_true, beq_iff_eq] at hc
   obtain ⟨⟨rfl, h1⟩, h2⟩ := hc
   obtain ⟨d, hd, hn⟩ := plainT_ok h2
   exact op_mki h hop h1 hd hn hr
  ·cases hc
 | mkf f ys =>
  simp only [chkO, chkMkf] at hc
  split at hc
  ·rename_i f' first xs hop
   simp only [Bool.and_eq_true, beq_iff_eq] at hc
   obtain ⟨⟨rfl, h1⟩, h2⟩ := hc
   have hfe : first = #[] := by simpa using h1
   subst hfe
   obtain ⟨h3, h4⟩ := chkSL_get h2
   exact op_mkf h hop (by simpa using h3) (fun j hj => by have := h4 j (by simpa using hj); rwa [Array.getElem_toList] at this) hr
  ·cases hc
 | mk sz bytes z y1 y2 =>
  simp only [chkO, Bool.and_eq_true, bne_iff_ne] at hc
  obtain ⟨hc, hz0⟩ := hc
  simp only [chkMk] at hc
  split at hc
  ·rename_i t x1 x2 hop
   simp only [Bool.and_eq_true] at hc
   obtain ⟨⟨h1, h2⟩, h3⟩ := hc
   split at h3
   ·rename_i e hu
    simp only [Bool.and_eq_true] at h3
    obtain ⟨h4, h5⟩ := h3
    obtain ⟨zv, hZ⟩ := chkZero_ok h4
    split at h5
    ·rename_i i hi; exact op_mk h hop h1 h2 hu hi (by simpa using h5) hz0 hZ hr
    ·cases h5
   ·cases h3
  ·cases hc
 | slc sz y lo hi mx =>
  simp only [chkO, chkSlc] at hc
  split at hc
  ·rename_i t x xl xh xm hop
   simp only [Bool.and_eq_true] at hc
   obtain ⟨⟨⟨⟨h1, h2⟩, h3⟩, h4⟩, h5⟩ := hc
   split at h5
   ·rename_i hu; exact op_slc_str h hop h1 h2 h3 h4 hu hr
   ·rename_i n e hu; exact op_slc h hop h1 h2 h3 h4 hu (by simpa using h5) hr
   ·cases h5
  ·cases hc
 | slb d n lo hi =>
  simp only [chkO, chkSlb] at hc
  split at hc
  ·rename_i t d' xl xh hop
   simp only [Bool.and_eq_true, beq_iff_eq] at hc
   obtain ⟨⟨⟨h1, h2⟩, h3⟩, h4⟩ := hc
   split at h4
   ·rename_i m e hu
    simp only [Bool.and_eq_true, beq_iff_eq] at h4
    obtain ⟨rfl, h5⟩ := h4
    exact op_slb h hop h1 h2 h3 hu h5 hr
   ·cases h4
  ·cases hc
 | idx y j len n ag =>
  simp only [chkO, chkIdx] at hc
  split at hc
  ·rename_i t x i hop
   simp only [Bool.and_eq_true] at hc
   obtain ⟨⟨h1, h2⟩, h3⟩ := hc
   split at h3
   ·rename_i m m' e hu
    simp only [Bool.and_eq_true, beq_iff_eq] at h3
    obtain ⟨⟨⟨rfl, h4⟩, h5⟩, h6⟩ := h3
    exact op_idx_arr h hop h1 h2 hu h4 (Nat.pos_of_ne_zero (by simpa using h5)) (by cases ag <;> simpa using h6) hr
   ·rename_i hu; exact op_idx_str h hop h1 h2 hu hr
   ·cases h3
  ·cases hc
 | fld y off n ag =>
  simp only [chkO, chkFld] at hc
  split at hc
  ·rename_i t x fi hop
   simp only [Bool.and_eq_true] at hc
   obtain ⟨h1, h3⟩ := hc
   split at h3
   ·rename_i fs hu
    split at h3
    ·rename_i f hf
     simp only [Bool.and_eq_true, beq_iff_eq] at h3
     exact op_fld h hop h1 hu hf h3.1 (by cases ag <;> simpa using h3.2) hr
    ·cases h3
   ·cases h3
  ·cases hc
 | ext j i =>
  simp only [chkO, chkExt] at hc
  split at hc
  ·rename_i t k hop
   simp only [Bool.and_eq_true, beq_iff_eq] at hc
   obtain ⟨rfl, rfl⟩ := hc
   exact op_ext h hop hr
  ·cases hc
 | tas y t ok zero =>
  simp only [chkO, chkTas] at hc
  split at hc
  ·rename_i x t0 t' ok' hop
   simp only [Bool.and_eq_true, beq_iff_eq] at hc
   obtain ⟨⟨⟨⟨h1, rfl⟩, rfl⟩, h2⟩, h3⟩ := hc
   obtain ⟨d, hd, hn⟩ := plainT_ok h2
   split at h3
   ·rename_i z hz; exact op_tas h hop h1 hd hn hz h3 hr
   ·cases h3
  ·cases hc
 | len st y b =>
  simp only [chkO, chkLen] at hc
  split at hc
  ·rename_i xs ts hop
   split at hc
   ·rename_i x t hx ht
    rw [arr_eq hx, arr_eq ht] at hop
    simp only [Bool.and_eq_true] at hc
    obtain ⟨h1, h3⟩ := hc
    split at h3
    ·rename_i hu; exact op_len h hop h1 (by simpa using hu) hr
    ·rename_i e hu; exact op_len h hop h1 (by simpa using ⟨e, hu⟩) hr
    ·cases h3
   ·cases hc
  ·cases hc
 | app sz bytes y1 y2 b =>
  simp only [chkO, Bool.and_eq_true, bne_iff_ne] at hc
  obtain ⟨hc, hz0⟩ := hc
  simp only [chkApp] at hc
  split at hc
  ·rename_i xs ts hop
   split at hc
   ·rename_i x1 x2 t t2 hx ht
    rw [arr_eq hx, arr_eq ht] at hop
    simp only [Bool.and_eq_true] at hc
    obtain ⟨⟨⟨h1, h2⟩, h3⟩, h4⟩ := hc
    split at h4
    ·rename_i e hu
     split at h4
     ·rename_i i hi
      simp only [Bool.and_eq_true, beq_iff_eq] at h4
      obtain ⟨⟨h5, h6⟩, h7⟩ := h4
      split at h7
      ·rename_i z hz; exact op_app h hop rfl h1 h2 hu h3 hi hz0 h5 h6 hz (by simpa using h7) hr
      ·cases h7
     ·cases h4
    ·cases h4
   ·cases hc
  ·cases hc
 | copy d y1 y2 b =>
  simp only [chkO, chkCopy] at hc
  split at hc
  ·rename_i xs ts hop
   split at hc
   ·rename_i x1 x2 t t2 hx ht
    rw [arr_eq hx, arr_eq ht] at hop
    simp only [Bool.and_eq_true] at hc
    obtain ⟨⟨h1, h2⟩, h4⟩ := hc
    split at h4
    ·rename_i e hu; exact op_copy h hop h1 h2 hu (by simpa using h4) hr
    ·cases h4
   ·cases hc
  ·cases hc
 | min ys =>
  simp only [chkO, chkMin] at hc
  split at hc
  ·rename_i xs ts hop; exact op_min h hop hc hr
  ·cases hc
 | range y =>
  simp only [chkO, chkRange] at hc
  split at hc
  ·rename_i t x hop
   simp only [Bool.and_eq_true] at hc
   obtain ⟨h1, h3⟩ := hc
   split at h3
   ·rename_i hu; exact op_range h hop h1 hu hr
   ·cases h3
  ·cases hc
 | next d =>
  simp only [chkO, chkNext] at hc
  split at hc
  ·rename_i t hop; exact op_next h hop (by simpa using hc) hr
  ·cases hc
 | pan y =>
  simp only [chkO, chkPan] at hc
  split at hc
  ·rename_i x hop; exact op_pan h hop hc hr
  ·cases hc
 | _ => cases hc
end
end Go.Am
namespace Go.Am
open Go Go.RowKit
def enterable (P : Program) (f : FuncId) : Bool := match P.funcs[f]? with
 | some fn => fn.name != "runtime.NumGoroutine" && fn.body.isSome
 | none => false
theorem run_callFunc {P : Program} {f : FuncId} {args : Array Value} {w : World} (h : enterable P f = true) : (callFunc f args).run P w = .ok (.enter f args) w := by
 unfold enterable at h
 split at h
 ·rename_i fn hf
  simp only [Bool.and_eq_true, bne_iff_ne, ne_eq] at h
  obtain ⟨c, hb⟩ := Option.isSome_iff_exists.1 h.2
  simp [callFunc, hf, h.1, hb]
 ·cases h
def CallEnd (B : Nat) (w : World) (F : Nat → Nat) (ρ rest os : List Nat) : Rt → Ending → World → Prop
 | .ret v h', .returned cv, w' => ∃ F' osV osH', Ext B w F w' F' (fun b => b ∈ os) ∧ RepV w' F' ρ cv v osV ∧ isAl v = false ∧ RepH w' F' ρ h' osH' ∧ (∀ b, (osV ++ osH' ++ rest).count b ≤ 1) ∧
   ∀ b ∈ osV ++ osH', (b ∈ os ∨ w.heap.size ≤ b) ∧ b < w'.heap.size ∧ F' b = 0
 | .pan v h', .panicked chain, w' => ∃ F' osH' cv, Ext B w F w' F' (fun b => b ∈ os) ∧ chain = [{ v := cv, recovered := false }] ∧ RepD w' F' cv v ∧ RepH w' F' ρ h' osH' ∧ (∀ b, (osH' ++ rest).count b ≤ 1) ∧
   ∀ b ∈ osH', (b ∈ os ∨ w.heap.size ≤ b) ∧ b < w'.heap.size ∧ F' b = 0
 | _, _, _ => False
def SoundCall (P : Program) (call : CallF) : Prop := ∀ f vs h r, call f vs h = some r → enterable P f = true ∧
 ∀ (B : Nat) (w : World) (F : Nat → Nat) (ρ rest osA osH : List Nat) (cargs : List Value), RepL (RepV w F ρ) cargs vs osA → (∀ v ∈ vs, isAl v = false) → RepH w F ρ h osH → (∀ b, (osA ++ osH ++ rest).count b ≤ 1) →
  (∀ b ∈ osA ++ osH ++ rest, B ≤ b ∧ b < w.heap.size ∧ F b = 0) → (∀ b, w.heap.size ≤ b → F b = 0) → B ≤ w.heap.size →
  Calls P f cargs.toArray w (fun e w' => CallEnd B w F ρ rest (osA ++ osH) r e w')
def PanOK (B : Nat) (w : World) (F : Nat → Nat) (ρ rest os : List Nat) (v : V) (h' : Heap) (cv : Value) (w' : World) : Prop :=
 ∃ F' ρ' osH', Ext B w F w' F' (fun b => b ∈ os) ∧ (∀ (id b : Nat), ρ[id]? = some b → ρ'[id]? = some b) ∧ RepD w' F' cv v ∧ RepH w' F' ρ' h' osH' ∧ (∀ b, (osH' ++ rest).count b ≤ 1) ∧
  ∀ b ∈ osH', (b ∈ os ∨ w.heap.size ≤ b) ∧ b < w'.heap.size ∧ F' b = 0
def StepOK (P : Program) (a : Act) (o : Oper) (B : Nat) (w : World) (F : Nat → Nat) (ρ : List Nat) (s : St) (rest osT osH : List Nat) (r : Rs) : Prop :=
  ∀ (next : Act → World → Prop) (Q : Exit → Act → World → Prop),
    (match r with
     | .val us v h' => ∀ cv w' F' ρ' osT' osH' osV, Ext B w F w' F' (fun b => b ∈ osT ++ osH) → (∀ (id b : Nat), ρ[id]? = some b → ρ'[id]? = some b) →
        SimV B a.tmps.toList w' F' ρ' (ups s.t us) h' cv v rest osT' osH' osV → (∀ b ∈ osT' ++ osH' ++ osV, b ∈ osT ++ osH ∨ w.heap.size ≤ b) → next (a.put o.dst cv) w'
     | .pan v h' => ∀ cv w', PanOK B w F ρ rest (osT ++ osH) v h' cv w' → Q (.panic [{ v := cv, recovered := false }]) a w') → o.wp P a w next Q
section
variable {P : Program} {a : Act} {o : Oper} {B : Nat} {w w' : World} {F F' : Nat → Nat} {ρ : List Nat} {s : St} {rest osT osH : List Nat} {call : CallF} {r : Rs}
theorem Sim.pan (h : Sim B a.tmps.toList w F ρ s rest osT osH) {v : V} {cv : Value} (hv : RepD w F cv v) : PanOK B w F ρ rest (osT ++ osH) v s.h cv w := by
 refine ⟨F, ρ, osH, Ext.refl h.fresh, fun _ _ x => x, hv, h.heap, fun b => ?_, fun b hb => ?_⟩
 ·have := h.once b
  simp only [List.count_append] at this ⊢
  omega
 ·obtain ⟨_, h2, h3⟩ := h.inb b (by simp [hb])
  exact ⟨.inl (by simp [hb]), h2, h3⟩
theorem OpOK.step (h : Sim B a.tmps.toList w F ρ s rest osT osH) (hk : OpOK P a o B w F ρ s rest osT osH r) : StepOK P a o B w F ρ s rest osT osH r := by
 intro next Q H
 unfold Oper.wp
 cases r with
 | val us v h' =>
  obtain ⟨cv, w', F', ρ', osT', osH', osV, hrun, h1, h2, h3, h4⟩ := hk
  have hn := H cv w' F' ρ' osT' osH' osV h1 h2 h3 h4
  rcases hrun with hrun | ⟨hrun, rfl⟩
  ·rw [hrun]; exact hn
  ·rw [hrun]; exact hn
 | pan v h' =>
  obtain ⟨rfl, cv, hrun, hv⟩ := hk
  rw [hrun]
  exact H cv w (h.pan hv)
def takenL : List (Src × Bool) → List Nat
 | [] => []
 | (.t i, true) :: l => i :: takenL l
 | _ :: l => takenL l
def nodupB : List Nat → Bool
 | [] => true
 | i :: l => !l.contains i && nodupB l
def chkA : List Operand → List (Src × Bool) → Bool
 | [], [] => true
 | x :: xs, (y, _) :: ys => chkS x y && chkA xs ys
 | _, _ => false
def chkArgs (xs : List Operand) (ys : List (Src × Bool)) : Bool := chkA xs ys && nodupB (takenL ys)
theorem argsOf_cons {ρ : Nat → V} {useH : Bool} {x : Src} {tk : Bool} {l : List (Src × Bool)} {vs : List V} {us : List (Nat × V × Bool)} (h : argsOf ρ useH ((x, tk) :: l) = some (vs, us)) :
    ∃ v vs' us', vs = v :: vs' ∧ v = Am.ev ρ x ∧ argsOf ρ useH l = some (vs', us') ∧
      (((∃ sz xs, v = .sl true sz xs) ∧ tk = true ∧ us = mvUps ρ x ++ us') ∨ (us = us' ∧ ((useH = true ∧ ∃ id o, v = .ptr id o) ∨ (∃ f caps, v = .fn f caps ∧ (useH = true ∨ caps = [])) ∨ v.data = true))) := by
  simp only [argsOf] at h
  split at h
  · cases h
  · rename_i vs' us' hl
    split at h
    · rename_i sz xs he
      split at h
      · rename_i ht
        simp only [Option.some.injEq, Prod.mk.injEq] at h
        obtain ⟨rfl, rfl⟩ := h
        exact ⟨_, vs', us', rfl, he.symm, hl, .inl ⟨⟨sz, xs, rfl⟩, ht, rfl⟩⟩
      · cases h
    · rename_i id o he
      split at h
      · rename_i ht
        simp only [Option.some.injEq, Prod.mk.injEq] at h
        obtain ⟨rfl, rfl⟩ := h
        exact ⟨_, vs', us', rfl, he.symm, hl, .inr ⟨rfl, .inl ⟨ht, id, o, rfl⟩⟩⟩
      · cases h
    · rename_i f caps he
      split at h
      · rename_i ht
        simp only [Option.some.injEq, Prod.mk.injEq] at h
        obtain ⟨rfl, rfl⟩ := h
        simp only [Bool.or_eq_true, List.isEmpty_iff] at ht
        exact ⟨_, vs', us', rfl, he.symm, hl, .inr ⟨rfl, .inr (.inl ⟨f, caps, rfl, ht⟩)⟩⟩
      · cases h
    · split at h
      · rename_i ht
        simp only [Option.some.injEq, Prod.mk.injEq] at h
        obtain ⟨rfl, rfl⟩ := h
        exact ⟨_, vs', us', rfl, rfl, hl, .inr ⟨rfl, .inr (.inr ht)⟩⟩
      · cases h
theorem argsOf_taken {t : List V} {i : Nat} {useH : Bool} (hi : ∃ sz xs, nth t i = .sl true sz xs) : ∀ {l : List (Src × Bool)} {vs : List V} {us : List (Nat × V × Bool)}, i ∉ takenL l → argsOf (nth t) useH l = some (vs, us) →
  argsOf (nth (ups1 t (i, .undef, true))) useH l = some (vs, us)
 | [], vs, us, _, h => h
 | (x, tk) :: l, vs, us, hn, h => by
  obtain ⟨v, vs', us', rfl, hv, hl, hc⟩ := argsOf_cons h
  have hn' : i ∉ takenL l := by
   cases x <;> cases tk <;> simp only [takenL, List.mem_cons, not_or] at hn <;> first | exact hn | exact hn.2
  have ih := argsOf_taken hi hn' hl
  have hlt : i < t.length := by
   obtain ⟨sz, xs, hh⟩ := hi
   exact nth_lt (fun h0 => by rw [h0] at hh; cases hh)
  have hev : Am.ev (nth (ups1 t (i, .undef, true))) x = Am.ev (nth t) x := by
   cases x with
   | t j =>
    simp only [Am.ev] at hv ⊢
    by_cases hij : i = j
    ·subst hij
     exfalso
     obtain ⟨sz, xs, hh⟩ := hi
     rw [hh] at hv
     rcases hc with ⟨_, ht, _⟩ | ⟨_, hc⟩
     ·subst ht; simp only [takenL, List.mem_cons, not_or] at hn; exact hn.1 trivial
     ·rcases hc with ⟨_, id, o, hc⟩ | ⟨f, caps, hc, _⟩ | hc
      ·rw [hc] at hv; cases hv
      ·rw [hc] at hv; cases hv
      ·rw [hv] at hc; cases hc
    ·simp only [ups1]
     rw [nth_upd_ne hij, nth_map_killb, ← hv]
     have hal : isAl v = false := by
      rcases hc with ⟨⟨sz, xs, hc⟩, _⟩ | ⟨_, hc⟩
      ·rw [hc]; rfl
      ·rcases hc with ⟨_, id, o, hc⟩ | ⟨f, caps, hc, _⟩ | hc
       ·rw [hc]; rfl
       ·rw [hc]; rfl
       ·exact data_isAl hc
     cases v <;> first | rfl | cases hal
   | _ => rfl
  have hmv : ∀ sz xs, v = .sl true sz xs → mvUps (nth (ups1 t (i, .undef, true))) x = mvUps (nth t) x := by
   intro sz xs hvv
   cases x with
   | t j => simp only [Am.ev] at hev; simp only [mvUps, hev]
   | _ => rfl
  simp only [argsOf, ih, hev, ← hv]
  rcases hc with ⟨⟨sz, xs, hc⟩, ht, hu⟩ | ⟨hu, hc⟩
  ·rw [hmv sz xs hc]
   subst hc; subst ht; subst hu
   rfl
  ·subst hu
   rcases hc with ⟨h1, id, o, hc⟩ | ⟨f, caps, hc, h1⟩ | hc
   ·subst hc; simp [h1]
   ·subst hc
    have : (useH || caps.isEmpty) = true := by rcases h1 with h1 | h1 <;> simp [h1]
    simp [this]
   ·cases v <;> first | (simp [V.data]; done) | (cases hc; done) | (rename_i ow sz xs; cases ow <;> first | (simp [V.data]; done) | cases hc)
theorem args_ok {useH : Bool} : ∀ {ys : List (Src × Bool)} {xs : List Operand} {vs : List V} {us : List (Nat × V × Bool)} {s : St} {rest osT osH : List Nat}, Sim B a.tmps.toList w F ρ s rest osT osH → chkA xs ys = true → nodupB (takenL ys) = true →
  argsOf (nth s.t) useH ys = some (vs, us) →
  ∃ osT' osA, Sim B a.tmps.toList w F ρ ⟨ups s.t us, s.h⟩ (osA ++ rest) osT' osH ∧ RepL (RepV w F ρ) (xs.map a.eval) vs osA ∧ (∀ v ∈ vs, isAl v = false) ∧
   (useH = false → ∀ v ∈ vs, v.data = true ∨ (∃ sz zs, v = .sl true sz zs) ∨ ∃ f, v = .fn f []) ∧ ∀ b ∈ osT' ++ osA, b ∈ osT
 | [], [], vs, us, s, rest, osT, osH, h, _, _, ha => by
  simp only [argsOf, Option.some.injEq, Prod.mk.injEq] at ha
  obtain ⟨rfl, rfl⟩ := ha
  exact ⟨osT, [], by simpa [ups] using h, .nil, (fun v hv => by cases hv), (fun _ v hv => by cases hv), fun b hb => by simpa using hb⟩
 | (y, tk) :: ys, x :: xs, vs, us, s, rest, osT, osH, h, hc, hnd, ha => by
  rw [chkA, Bool.and_eq_true] at hc
  obtain ⟨v, vs', us', rfl, hv, hl, hcase⟩ := argsOf_cons ha
  have hal : isAl (Am.ev (nth s.t) y) = false := by
   rw [← hv]
   rcases hcase with ⟨⟨sz, xs, hc⟩, _⟩ | ⟨_, hc⟩
   ·rw [hc]; rfl
   ·rcases hc with ⟨_, id, o, hc⟩ | ⟨f, caps, hc, _⟩ | hc
    ·rw [hc]; rfl
    ·rw [hc]; rfl
    ·exact data_isAl hc
  have hnd' : nodupB (takenL ys) = true := by
   cases y <;> cases tk <;> simp only [takenL, nodupB, Bool.and_eq_true] at hnd <;> first | exact hnd | exact hnd.2
  obtain ⟨osT1, osV, g1, g2⟩ := h.take hc.1 hal
  have hSim : Sim B a.tmps.toList w F ρ ⟨ups s.t (mvUps (nth s.t) y), s.h⟩ (osV ++ rest) osT1 osH := by
   refine ⟨g1.tmps, g1.heap, g1.alias, fun b => ?_, fun b hb => g1.inb b ?_, g1.fresh, g1.base⟩
   ·have := g1.once b
    simp only [List.count_append] at this ⊢
    omega
   ·simp only [List.mem_append] at hb ⊢
    rcases hb with (hb | hb) | (hb | hb) <;> simp [hb]
  have hups : us = mvUps (nth s.t) y ++ us' ∧ argsOf (nth (ups s.t (mvUps (nth s.t) y))) useH ys = some (vs', us') := by
   rcases hcase with ⟨⟨sz, zs, hc'⟩, ht, hu⟩ | ⟨hu, hc'⟩
   ·refine ⟨hu, ?_⟩
    cases y with
    | t i =>
     simp only [Am.ev] at hv
     have hi : nth s.t i = .sl true sz zs := by rw [← hv, hc']
     have : ups s.t (mvUps (nth s.t) (.t i)) = ups1 s.t (i, .undef, true) := by simp only [mvUps, hi, V.lin, V.owner, if_true]; rfl
     rw [this]
     subst ht
     simp only [takenL, nodupB, Bool.and_eq_true, Bool.not_eq_true'] at hnd
     exact argsOf_taken ⟨sz, zs, hi⟩ (by simpa using hnd.1) hl
    | _ => exact hl
   ·have hlin : (Am.ev (nth s.t) y).lin = false := by
     rw [← hv]
     rcases hc' with ⟨_, id, o, hc'⟩ | ⟨f, caps, hc', _⟩ | hc'
     ·rw [hc']; rfl
     ·rw [hc']; rfl
     ·cases v <;> first | rfl | (cases hc'; done) | (rename_i ow sz xs; cases ow <;> first | rfl | cases hc')
    have : mvUps (nth s.t) y = [] := by
     cases y with
     | t i => simp only [Am.ev] at hlin; simp [mvUps, hlin]
     | _ => rfl
    rw [this]
    exact ⟨by rw [hu]; rfl, hl⟩
  obtain ⟨rfl, ha'⟩ := hups
  obtain ⟨osT', osA, q1, q2, q3, q4, q5⟩ := args_ok hSim hc.2 hnd' ha'
  refine ⟨osT', osV ++ osA, ?_, ?_, ?_, ?_, fun b hb => ?_⟩
  ·rw [ups_append]
   refine ⟨q1.tmps, q1.heap, q1.alias, fun b => ?_, fun b hb => q1.inb b ?_, q1.fresh, q1.base⟩
   ·have := q1.once b
    simp only [List.count_append] at this ⊢
    omega
   ·simp only [List.mem_append] at hb ⊢
    rcases hb with (hb | hb) | ((hb | hb) | hb) <;> simp [hb]
  ·have := g1.val
   rw [← hv] at this
   exact .cons _ _ _ _ _ _ this q2
  ·intro u hu
   cases hu with
   | head => rw [hv]; exact hal
   | tail _ hu => exact q3 u hu
  ·intro hf u hu
   cases hu with
   | head =>
    rcases hcase with ⟨hc', _⟩ | ⟨_, hc'⟩
    ·exact .inr (.inl hc')
    ·rcases hc' with ⟨h1, _⟩ | ⟨f, caps, hc', h1⟩ | hc'
     ·rw [hf] at h1; cases h1
     ·rcases h1 with h1 | h1
      ·rw [hf] at h1; cases h1
      ·subst h1; exact .inr (.inr ⟨f, hc'⟩)
     ·exact .inl hc'
   | tail _ hu => exact q4 hf u hu
  ·simp only [List.mem_append] at hb
   rcases hb with hb | hb | hb
   ·exact g2 b (by simp [q5 b (by simp [hb])])
   ·exact g2 b (by simp [hb])
   ·exact g2 b (by simp [q5 b (by simp [hb])])
 | [], _ :: _, _, _, _, _, _, _, _, hc, _, _ => by cases hc
 | _ :: _, [], _, _, _, _, _, _, _, hc, _, _ => by cases hc
theorem RepV.rho {cv : Value} {v : V} {os ρ' : List Nat} (h : RepV w F ρ cv v os) (hk : v.data = true ∨ (∃ sz zs, v = .sl true sz zs) ∨ ∃ f, v = .fn f []) : RepV w F ρ' cv v os := by
 cases h with
 | e _ _ _ h => exact .e _ _ _ h
 | fn f cvs caps h1 h2 =>
  rcases hk with hk | ⟨sz, zs, hk⟩ | ⟨f', hk⟩
  ·cases hk
  ·cases hk
  ·simp only [V.fn.injEq] at hk
   obtain ⟨rfl, rfl⟩ := hk
   exact .fn _ _ _ h1 (fun j hj => by simp at hj)
 | ptr => rcases hk with hk | ⟨sz, zs, hk⟩ | ⟨f', hk⟩ <;> cases hk
 | rptr => rcases hk with hk | ⟨sz, zs, hk⟩ | ⟨f', hk⟩ <;> cases hk
 | box => rcases hk with hk | ⟨sz, zs, hk⟩ | ⟨f', hk⟩ <;> cases hk
 | bref => rcases hk with hk | ⟨sz, zs, hk⟩ | ⟨f', hk⟩ <;> cases hk
 | al => rcases hk with hk | ⟨sz, zs, hk⟩ | ⟨f', hk⟩ <;> cases hk
 | iter => rcases hk with hk | ⟨sz, zs, hk⟩ | ⟨f', hk⟩ <;> cases hk
 | tup => rcases hk with hk | ⟨sz, zs, hk⟩ | ⟨f', hk⟩ <;> cases hk
theorem RepV.rhoUp {cv : Value} {v : V} {os ρ' : List Nat} (h : RepV w F ρ cv v os) (hρ : ∀ (id b : Nat), ρ[id]? = some b → ρ'[id]? = some b) : RepV w F ρ' cv v os := by
 cases h with
 | e _ _ _ h => exact .e _ _ _ h
 | tup cvs vs os h => exact .tup _ _ _ h
 | ptr id off b h => exact .ptr _ _ _ (hρ _ _ h)
 | rptr b off cs cvf h1 h2 h3 => exact .rptr b off cs cvf h1 h2 h3
 | box b cs os h => exact .box _ _ _ h
 | bref => exact .bref _ _ _
 | al => exact .al _ _
 | fn f cvs caps h1 h2 =>
  refine .fn _ _ _ h1 fun j hj => ?_
  obtain ⟨id, o, b, e1, e2, e3⟩ := h2 j hj
  exact ⟨id, o, b, e1, hρ _ _ e2, e3⟩
 | iter b s l pos h1 h2 h3 => exact .iter b s l pos h1 h2 h3
end
end Go.Am
namespace Go.Am
open Go Go.RowKit
section
variable {P : Program} {a : Act} {o : Oper} {B : Nat} {w w' : World} {F F' : Nat → Nat} {ρ : List Nat} {s : St} {rest osT osH : List Nat} {call : CallF} {r : Rs} {cvs : List Value}
theorem after_call {t1 : List V} {hp h' : Heap} {osT' osA osX osH2 osV : List Nat} {cv : Value} {v : V} (q1 : Sim B cvs w F ρ ⟨t1, hp⟩ (osA ++ rest) osT' osH) (e : Ext B w F w' F' (fun b => b ∈ osA ++ osX)) (hX : ∀ b ∈ osX, b ∈ osH)
    (hH : RepH w' F' ρ h' osH2) (hv : RepV w' F' ρ cv v osV) (hal : isAl v = false) (once : ∀ b, (osV ++ osH2 ++ (osT' ++ rest)).count b ≤ 1)
    (sub : ∀ b ∈ osV ++ osH2, (b ∈ osA ++ osH ∨ w.heap.size ≤ b) ∧ b < w'.heap.size ∧ F' b = 0) : SimV B cvs w' F' ρ t1 h' cv v rest osT' osH2 osV := by
  have hdis : ∀ b ∈ osT' ++ rest, b ∉ osA ++ osX := fun b hb hbx => by
    have h1 := q1.once b
    have h2 := List.count_pos_iff.2 hb
    simp only [List.count_append] at h1 h2
    simp only [List.mem_append] at hbx
    rcases hbx with hbx | hbx
    · have h3 := List.count_pos_iff.2 hbx; omega
    · have h3 := List.count_pos_iff.2 (hX b hbx); omega
  have old : ∀ b ∈ osT' ++ rest, B ≤ b ∧ b < w'.heap.size ∧ F' b = 0 := fun b hb => by
    obtain ⟨b1, b2, b3⟩ := q1.inb b (by simp only [List.mem_append] at hb ⊢; rcases hb with hb | hb <;> simp [hb])
    exact ⟨b1, Nat.lt_of_lt_of_le b2 e.size, ((e.keep b (hdis b hb) b2).2).trans b3⟩
  have new : ∀ b ∈ osV ++ osH2, B ≤ b ∧ b < w'.heap.size ∧ F' b = 0 := fun b hb => by
    obtain ⟨c1, c2, c3⟩ := sub b hb
    refine ⟨?_, c2, c3⟩
    rcases c1 with c1 | c1
    · exact (q1.inb b (by simp only [List.mem_append] at c1 ⊢; rcases c1 with c1 | c1 <;> simp [c1])).1
    · exact Nat.le_trans q1.base c1
  refine ⟨q1.tmps.ext e (fun _ _ x => x) (fun b hb => (q1.inb b (by simp [hb])).2.1) (fun b hb => hdis b (by simp [hb])), hH, q1.alias, hv, aliasV_of hal, fun b => ?_, fun b hb => ?_, e.fresh, Nat.le_trans q1.base e.size⟩
  · have := once b
    simp only [List.count_append] at this ⊢
    omega
  · simp only [List.mem_append] at hb
    rcases hb with ((hb | hb) | hb) | hb
    · exact old b (by simp [hb])
    · exact new b (by simp [hb])
    · exact new b (by simp [hb])
    · exact old b (by simp [hb])
theorem step_callN (hs : SoundCall P call) (h : Sim B a.tmps.toList w F ρ s rest osT osH) {f : FuncId} {vs : List V} {us : List (Nat × V × Bool)} {osT' osA : List Nat} {cargs : List Value}
    (q1 : Sim B a.tmps.toList w F ρ ⟨ups s.t us, s.h⟩ (osA ++ rest) osT' osH) (q2 : RepL (RepV w F ρ) cargs vs osA) (q3 : ∀ v ∈ vs, isAl v = false)
    (q4 : ∀ v ∈ vs, v.data = true ∨ (∃ sz zs, v = .sl true sz zs) ∨ ∃ f, v = .fn f []) (q5 : ∀ b ∈ osT' ++ osA, b ∈ osT)
    (hrun : enterable P f = true → (execOp a.eval o).run P w = .ok (.enter f cargs.toArray) w) (hr : callR false s.h us (call f vs []) = some r) : StepOK P a o B w F ρ s rest osT osH r := by
  obtain ⟨q, hq⟩ := callR_some hr
  rw [hq] at hr
  obtain ⟨he, hcalls⟩ := hs f vs [] q hq
  have q2' : RepL (RepV w F []) cargs vs osA := by
    clear hq hcalls hr q1 q5 hrun q3
    induction q2 with
    | nil => exact .nil
    | cons cv v cvs vs os os' h1 h2 ih => exact .cons _ _ _ _ _ _ (h1.rho (q4 v (by simp))) (ih fun v hv => q4 v (by simp [hv]))
  have hc := hcalls B w F [] (osT' ++ osH ++ rest) osA [] cargs q2' q3 .nil (fun b => by have := q1.once b; simp only [List.count_append, List.count_nil] at this ⊢; omega)
    (fun b hb => q1.inb b (by simp only [List.mem_append] at hb ⊢; rcases hb with (hb | hb) | ((hb | hb) | hb) <;> first | (simp [hb]; done) | cases hb)) q1.fresh q1.base
  intro next Q H
  unfold Oper.wp
  rw [hrun he]
  refine Calls.mono hc fun e w' hend => ?_
  have subT : ∀ b, b ∈ osA ++ [] → b ∈ osT ++ osH := fun b hb => by simp only [List.append_nil] at hb; simp [q5 b (by simp [hb])]
  cases q with
  | ret v h' =>
    simp only [callR, Bool.false_eq_true, if_false] at hr
    split at hr
    · cases hr
    simp only [Option.some.injEq] at hr
    subst hr
    cases e with
    | returned cv =>
      obtain ⟨F', osV, osH2, e1, e2, e3, e4, e5, e6⟩ := hend
      have hdis : ∀ b ∈ osH, b ∉ osA ++ [] := fun b hb hbx => by
        have h1 := q1.once b
        have h2 := List.count_pos_iff.2 hb
        have h3 := List.count_pos_iff.2 (show b ∈ osA by simpa using hbx)
        simp only [List.count_append] at h1
        omega
      refine H cv w' F' ρ osT' osH osV (e1.weaken fun b _ hb => subT b hb) (fun _ _ x => x) (after_call q1 e1 (fun b hb => by cases hb) (q1.heap.ext e1 hdis) (e2.rhoUp fun id b hh => by simp at hh) e3 (fun b => ?_) (fun b hb => ?_)) (fun b hb => ?_)
      · have := e5 b
        simp only [List.count_append] at this ⊢
        omega
      · simp only [List.mem_append] at hb
        rcases hb with hb | hb
        · obtain ⟨c1, c2, c3⟩ := e6 b (by simp [hb])
          refine ⟨?_, c2, c3⟩
          rcases c1 with c1 | c1
          · exact .inl (by simp only [List.append_nil] at c1; simp [c1])
          · exact .inr c1
        · obtain ⟨b1, b2, b3⟩ := q1.inb b (by simp [hb])
          exact ⟨.inl (by simp [hb]), Nat.lt_of_lt_of_le b2 e1.size, ((e1.keep b (hdis b hb) b2).2).trans b3⟩
      · simp only [List.mem_append] at hb
        rcases hb with (hb | hb) | hb
        · exact .inl (by simp [q5 b (by simp [hb])])
        · exact .inl (by simp [hb])
        · rcases (e6 b (by simp [hb])).1 with c1 | c1
          · exact .inl (subT b c1)
          · exact .inr c1
    | panicked chain => exact hend.elim
    | outgrown => exact hend.elim
  | pan v h' =>
    simp only [callR, Bool.false_eq_true, if_false, Option.some.injEq] at hr
    subst hr
    cases e with
    | returned cv => exact hend.elim
    | panicked chain =>
      obtain ⟨F', osH2, cv, e1, rfl, e3, e4, e5, e6⟩ := hend
      have hdis : ∀ b ∈ osH, b ∉ osA ++ [] := fun b hb hbx => by
        have h1 := q1.once b
        have h2 := List.count_pos_iff.2 hb
        have h3 := List.count_pos_iff.2 (show b ∈ osA by simpa using hbx)
        simp only [List.count_append] at h1
        omega
      refine H cv w' ⟨F', ρ, osH, e1.weaken fun b _ hb => subT b hb, fun _ _ x => x, e3, q1.heap.ext e1 hdis, fun b => ?_, fun b hb => ?_⟩
      · have := h.once b
        simp only [List.count_append] at this ⊢
        omega
      · obtain ⟨b1, b2, b3⟩ := q1.inb b (by simp [hb])
        exact ⟨.inl (by simp [hb]), Nat.lt_of_lt_of_le b2 e1.size, ((e1.keep b (hdis b hb) b2).2).trans b3⟩
    | outgrown => exact hend.elim
theorem step_callH (hs : SoundCall P call) (h : Sim B a.tmps.toList w F ρ s rest osT osH) {f : FuncId} {vs : List V} {us : List (Nat × V × Bool)} {osT' osA : List Nat} {cargs : List Value}
    (q1 : Sim B a.tmps.toList w F ρ ⟨ups s.t us, s.h⟩ (osA ++ rest) osT' osH) (q2 : RepL (RepV w F ρ) cargs vs osA) (q3 : ∀ v ∈ vs, isAl v = false) (q5 : ∀ b ∈ osT' ++ osA, b ∈ osT)
    (hrun : enterable P f = true → (execOp a.eval o).run P w = .ok (.enter f cargs.toArray) w) (hr : callR true s.h us (call f vs s.h) = some r) : StepOK P a o B w F ρ s rest osT osH r := by
  obtain ⟨q, hq⟩ := callR_some hr
  rw [hq] at hr
  obtain ⟨he, hcalls⟩ := hs f vs s.h q hq
  have hc := hcalls B w F ρ (osT' ++ rest) osA osH cargs q2 q3 q1.heap (fun b => by have := q1.once b; simp only [List.count_append] at this ⊢; omega)
    (fun b hb => q1.inb b (by simp only [List.mem_append] at hb ⊢; rcases hb with (hb | hb) | (hb | hb) <;> simp [hb])) q1.fresh q1.base
  intro next Q H
  unfold Oper.wp
  rw [hrun he]
  refine Calls.mono hc fun e w' hend => ?_
  have subT : ∀ b, b ∈ osA ++ osH → b ∈ osT ++ osH := fun b hb => by
    simp only [List.mem_append] at hb ⊢
    rcases hb with hb | hb
    · exact .inl (q5 b (by simp [hb]))
    · exact .inr hb
  cases q with
  | ret v h' =>
    simp only [callR, if_true] at hr
    split at hr
    · cases hr
    simp only [Option.some.injEq] at hr
    subst hr
    cases e with
    | returned cv =>
      obtain ⟨F', osV, osH2, e1, e2, e3, e4, e5, e6⟩ := hend
      refine H cv w' F' ρ osT' osH2 osV (e1.weaken fun b _ hb => subT b hb) (fun _ _ x => x) (after_call q1 e1 (fun b hb => hb) e4 e2 e3 e5 e6) (fun b hb => ?_)
      simp only [List.mem_append] at hb
      have key : b ∈ osV ++ osH2 → b ∈ osT ++ osH ∨ w.heap.size ≤ b := fun hm => by
        rcases (e6 b hm).1 with c1 | c1
        · exact .inl (subT b c1)
        · exact .inr c1
      rcases hb with (hb | hb) | hb
      · exact .inl (by simp [q5 b (by simp [hb])])
      · exact key (by simp [hb])
      · exact key (by simp [hb])
    | panicked chain => exact hend.elim
    | outgrown => exact hend.elim
  | pan v h' =>
    simp only [callR, if_true, Option.some.injEq] at hr
    subst hr
    cases e with
    | returned cv => exact hend.elim
    | panicked chain =>
      obtain ⟨F', osH2, cv, e1, rfl, e3, e4, e5, e6⟩ := hend
      refine H cv w' ⟨F', ρ, osH2, e1.weaken fun b _ hb => subT b hb, fun _ _ x => x, e3, e4, fun b => ?_, fun b hb => ?_⟩
      · have := e5 b
        simp only [List.count_append] at this ⊢
        omega
      · obtain ⟨c1, c2, c3⟩ := e6 b hb
        refine ⟨?_, c2, c3⟩
        rcases c1 with c1 | c1
        · exact .inl (subT b c1)
        · exact .inr c1
    | outgrown => exact hend.elim
def chkCall (op : Op) : AOp → Bool
 | .call f args _ => match op with
  | .call ⟨.value (.func g), xs, _⟩ => g == f && chkArgs xs.toList args
  | _ => false
 | .callr f args => match op with
  | .call ⟨.value (.func g), xs, _⟩ => g == f && chkArgs xs.toList args
  | _ => false
 | .callv y args => match op with
  | .call ⟨.value x, xs, _⟩ => chkS x y && chkArgs xs.toList args
  | _ => false
 | _ => false
theorem step_call_c (hs : SoundCall P call) (h : Sim B a.tmps.toList w F ρ s rest osT osH) {f : FuncId} {args : List (Src × Bool)} {useH : Bool} (hc : chkCall o.op (.call f args useH) = true) (hr : opRes call (nth s.t) s.h (.call f args useH) = some r) : StepOK P a o B w F ρ s rest osT osH r := by
 simp only [chkCall] at hc
 split at hc
 ·rename_i g xs ts hop
  simp only [chkArgs, Bool.and_eq_true, beq_iff_eq] at hc
  obtain ⟨rfl, h1, h2⟩ := hc
  simp only [opRes] at hr
  cases ha : argsOf (nth s.t) useH args with
  | none => rw [ha] at hr; cases hr
  | some q =>
   obtain ⟨vs, us⟩ := q
   rw [ha] at hr
   simp only at hr
   obtain ⟨osT', osA, q1, q2, q3, q4, q5⟩ := args_ok h h1 h2 ha
   have hrun : enterable P g = true → (execOp a.eval o).run P w = .ok (.enter g (xs.toList.map a.eval).toArray) w := fun he => by
    have e1 : (xs.toList.map a.eval).toArray = xs.map a.eval := by apply Array.ext'; simp
    rw [e1]
    have e2 : a.eval (.func g) = .func (.func g) #[] #[] := rfl
    simp [execOp, hop, resolve, e2, Deferred.ofValue, invoke, run_callFunc he]
   cases useH with
   | false => exact step_callN hs h q1 q2 q3 (q4 rfl) q5 hrun (by simpa using hr)
   | true => exact step_callH hs h q1 q2 q3 q5 hrun (by simpa using hr)
 ·cases hc
theorem callr_call {ρ' : Nat → V} {h' : Heap} {f : FuncId} {args : List (Src × Bool)} (hr : opRes call ρ' h' (.callr f args) = some r) : opRes call ρ' h' (.call f args true) = some r := by
 simp only [opRes] at hr ⊢
 split at hr
 ·rename_i vs us ha
  simp only [if_true]
  cases hq : call f vs h' with
  | none => rw [hq] at hr; cases hr
  | some q =>
   rw [hq] at hr
   cases q with
   | pan v h2 => cases hr
   | ret v h2 =>
    simp only [callR'] at hr
    split at hr
    ·rename_i hb
     have := hbeq_eq hb
     subst this
     simp only [callR]
     exact hr
    ·cases hr
 ·cases hr
theorem step_call (hs : SoundCall P call) (h : Sim B a.tmps.toList w F ρ s rest osT osH) {ao : AOp} (hc : chkCall o.op ao = true) (hr : opRes call (nth s.t) s.h ao = some r) : StepOK P a o B w F ρ s rest osT osH r := by
 cases ao with
 | call f args useH => exact step_call_c hs h hc hr
 | callr f args => exact step_call_c (useH := true) hs h hc (callr_call hr)
 | callv y args =>
  simp only [chkCall] at hc
  split at hc
  ·rename_i x xs ts hop
   simp only [chkArgs, Bool.and_eq_true] at hc
   obtain ⟨h0, h1, h2⟩ := hc
   simp only [opRes] at hr
   split at hr
   ·rename_i f caps vs us he ha
    obtain ⟨osT', osA, q1, q2, q3, q4, q5⟩ := args_ok h h1 h2 ha
    obtain ⟨os, hrep, _⟩ := h.ev h0
    rw [he] at hrep
    generalize hx : a.eval x = cx at hrep
    cases hrep with
    | e _ _ _ hrep => cases hrep with | d _ _ hrep => cases hrep
    | fn _ cvs _ c1 c2 =>
     have hcaps : RepL (RepV w F ρ) cvs.toList caps [] := by
      have key : ∀ (l : List Value) (cs : List V), l.length = cs.length → (∀ j, j < cs.length → ∃ id o b, nth cs j = .ptr id o ∧ ρ[id]? = some b ∧ l[j]? = some (.pointer (some ⟨b, o, none⟩))) → RepL (RepV w F ρ) l cs [] := by
       intro l
       induction l with
       | nil => intro cs hl _; cases cs with | nil => exact .nil | cons => simp at hl
       | cons u l ih =>
        intro cs hl hh
        cases cs with
        | nil => simp at hl
        | cons v cs =>
         obtain ⟨id, o, b, p1, p2, p3⟩ := hh 0 (by simp)
         simp only [nth] at p1
         subst p1
         simp only [List.getElem?_cons_zero, Option.some.injEq] at p3
         subst p3
         exact .cons _ _ _ _ [] [] (.ptr id o b p2) (ih cs (by simpa using hl) fun j hj => by simpa [nth] using hh (j + 1) (by simpa using hj))
      exact key cvs.toList caps (by simpa using c1) (fun j hj => by simpa using c2 j hj)
     have happ : RepL (RepV w F ρ) (xs.toList.map a.eval ++ cvs.toList) (vs ++ caps) osA := by
      clear hr ha q1 q3 q4 q5
      generalize xs.toList.map a.eval = L at q2
      induction q2 with
      | nil => exact hcaps
      | cons cv v cs vs o1 o2 p1 _ ih => exact .cons _ _ _ _ _ _ p1 ih
     refine step_callH hs h q1 happ (fun v hv => ?_) q5 (fun hent => ?_) hr
     ·simp only [List.mem_append] at hv
      rcases hv with hv | hv
      ·exact q3 v hv
      ·obtain ⟨j, hj, hjv⟩ := List.getElem_of_mem hv
       obtain ⟨id, o, b, p1, _, _⟩ := c2 j hj
       rw [nth_eq_getElem hj, hjv] at p1
       rw [p1]
       rfl
     ·have e1 : (xs.toList.map a.eval ++ cvs.toList).toArray = xs.map a.eval ++ cvs := by apply Array.ext'; simp
      rw [e1]
      simp [execOp, hop, resolve, hx, Deferred.ofValue, invoke, run_callFunc hent]
   ·cases hr
  ·cases hc
 | _ => cases hc
def chkX (P : Program) (op : Op) (ao : AOp) : Bool := chkO P op ao || chkCall op ao
theorem step_ok (hs : SoundCall P call) (h : Sim B a.tmps.toList w F ρ s rest osT osH) {ao : AOp} (hc : chkX P o.op ao = true) (hr : opRes call (nth s.t) s.h ao = some r) : StepOK P a o B w F ρ s rest osT osH r := by
 simp only [chkX, Bool.or_eq_true] at hc
 rcases hc with hc | hc
 ·exact (op_ok h hc hr).step h
 ·exact step_call hs h hc hr
end
end Go.Am
namespace Go.Am
open Go Go.RowKit
structure Env where
 B : Nat
 w : World
 F : Nat → Nat
 ρ : List Nat
 rest : List Nat
 os : List Nat
def Stt (E : Env) (a : Act) (w : World) (s : St) : Prop :=
 ∃ F ρ osT osH, Ext E.B E.w E.F w F (fun b => b ∈ E.os) ∧ (∀ (id b : Nat), E.ρ[id]? = some b → ρ[id]? = some b) ∧ Sim E.B a.tmps.toList w F ρ s E.rest osT osH ∧ ∀ b ∈ osT ++ osH, b ∈ E.os ∨ E.w.heap.size ≤ b
def PtrsOK (cvs : List Value) (t : List V) (ρ : List Nat) : Prop := cvs.length = t.length ∧ ∀ i id off, nth t i = .ptr id off → ∃ b, ρ[id]? = some b ∧ cvs[i]? = some (.pointer (some ⟨b, off, none⟩))
def PanS (E : Env) (a : Act) (s : St) (v : V) (cv : Value) (w : World) : Prop :=
 ∃ F' ρ' osH', Ext E.B E.w E.F w F' (fun b => b ∈ E.os) ∧ (∀ (id b : Nat), E.ρ[id]? = some b → ρ'[id]? = some b) ∧ RepD w F' cv v ∧ RepH w F' ρ' s.h osH' ∧ (∀ b, (osH' ++ E.rest).count b ≤ 1) ∧
  (∀ b ∈ osH', (b ∈ E.os ∨ E.w.heap.size ≤ b) ∧ b < w.heap.size ∧ F' b = 0) ∧ PtrsOK a.tmps.toList s.t ρ'
def Rel (E : Env) (dfs : List Deferred) : Ex → St → Exit → Act → World → Prop
 | .norm, s, .normal, a, w => Stt E a w s ∧ a.defers = dfs
 | .exit id, s, .exit id', a, w => id = id' ∧ Stt E a w s ∧ a.defers = dfs
 | .ret, s, .ret, a, w => Stt E a w s ∧ a.defers = dfs
 | .pan v, s, .panic chain, a, w => (∃ cv, chain = [{ v := cv, recovered := false }] ∧ PanS E a s v cv w) ∧ a.defers = dfs
 | _, _, _, _, _ => False
section
variable {P : Program} {E : Env} {a : Act} {o : Oper} {w : World} {s : St} {call : CallF} {dfs : List Deferred}
theorem put_tmps (a : Act) (dst : Option Tmp) (cv : Value) : (a.put dst cv).tmps.toList = match dst with | some d => a.tmps.toList.set d cv | none => a.tmps.toList := by
 cases dst <;> simp [Act.put]
theorem put_defers (a : Act) (dst : Option Tmp) (cv : Value) : (a.put dst cv).defers = a.defers := by cases dst <;> rfl
theorem Stt.next {F : Nat → Nat} {ρ osT osH : List Nat} (e0 : Ext E.B E.w E.F w F (fun b => b ∈ E.os)) (r0 : ∀ (id b : Nat), E.ρ[id]? = some b → ρ[id]? = some b) (n0 : ∀ b ∈ osT ++ osH, b ∈ E.os ∨ E.w.heap.size ≤ b)
    {w' : World} {F' : Nat → Nat} (e1 : Ext E.B w F w' F' (fun b => b ∈ osT ++ osH)) : Ext E.B E.w E.F w' F' (fun b => b ∈ E.os) ∧ ∀ b, (b ∈ osT ++ osH ∨ w.heap.size ≤ b) → (b ∈ E.os ∨ E.w.heap.size ≤ b) := by
  refine ⟨(e0.trans e1).weaken fun b hb ht => ?_, fun b hb => ?_⟩
  · rcases ht with ht | ht
    · exact ht
    · rcases n0 b ht with h | h
      · exact h
      · omega
  · rcases hb with hb | hb
    · exact n0 b hb
    · exact .inr (Nat.le_trans e0.size hb)
theorem SimV.stt {F : Nat → Nat} {ρ osT osH : List Nat} (e0 : Ext E.B E.w E.F w F (fun b => b ∈ E.os)) (r0 : ∀ (id b : Nat), E.ρ[id]? = some b → ρ[id]? = some b) (n0 : ∀ b ∈ osT ++ osH, b ∈ E.os ∨ E.w.heap.size ≤ b)
    {w' : World} {F' : Nat → Nat} {ρ' osT' osH' osV : List Nat} {t t' : List V} {hp : Heap} {cv : Value} {v : V} {dst : Option Nat} (e1 : Ext E.B w F w' F' (fun b => b ∈ osT ++ osH)) (r1 : ∀ (id b : Nat), ρ[id]? = some b → ρ'[id]? = some b)
    (h : SimV E.B a.tmps.toList w' F' ρ' t hp cv v E.rest osT' osH' osV) (n1 : ∀ b ∈ osT' ++ osH' ++ osV, b ∈ osT ++ osH ∨ w.heap.size ≤ b) (hp' : Am.put t dst v = some t') : Stt E (a.put dst cv) w' ⟨t', hp⟩ := by
  obtain ⟨g1, g2⟩ := Stt.next e0 r0 n0 e1
  obtain ⟨osT2, q1, q2⟩ := h.put hp'
  refine ⟨F', ρ', osT2, osH', g1, fun id b hh => r1 _ _ (r0 _ _ hh), ?_, fun b hb => g2 b (n1 b ?_)⟩
  · rw [put_tmps]
    cases dst <;> exact q1
  · simp only [List.mem_append] at hb ⊢
    rcases hb with hb | hb
    · have := q2 b hb
      simp only [List.mem_append] at this
      rcases this with h | h <;> simp [h]
    · simp [hb]
theorem stt_op (hs : SoundCall P call) (h : Stt E a w s) (hd : a.defers = dfs) {ao : AOp} (hc : chkX P o.op ao = true) {r : Ex × St} (hr : stepR o.dst s (opRes call (nth s.t) s.h ao) = some r)
    {next : Act → World → Prop} {Q : Exit → Act → World → Prop} (hn : r.1 = .norm → ∀ a' w', Stt E a' w' r.2 → a'.defers = dfs → next a' w')
    (hp : ∀ v chain a' w', r.1 = .pan v → Rel E dfs r.1 r.2 (.panic chain) a' w' → Q (.panic chain) a' w') : o.wp P a w next Q := by
  obtain ⟨F, ρ, osT, osH, e0, r0, hsim, n0⟩ := h
  cases hres : opRes call (nth s.t) s.h ao with
  | none => rw [hres] at hr; cases hr
  | some rs =>
    rw [hres] at hr
    refine step_ok hs hsim hc hres next Q ?_
    cases rs with
    | val us v h' =>
      simp only [stepR] at hr
      split at hr
      · rename_i t' hput
        simp only [Option.some.injEq] at hr
        subst hr
        intro cv w' F' ρ' osT' osH' osV e1 r1 g n1
        exact hn rfl _ _ (SimV.stt e0 r0 n0 e1 r1 g n1 hput) (by rw [put_defers]; exact hd)
      · cases hr
    | pan v h' =>
      simp only [stepR, Option.some.injEq] at hr
      subst hr
      intro cv w' hpan
      refine hp v _ a w' rfl ⟨⟨cv, rfl, ?_⟩, hd⟩
      obtain ⟨F', ρ', osH', e1, r1, p1, p2, p3, p4⟩ := hpan
      obtain ⟨g1, g2⟩ := Stt.next e0 r0 n0 e1
      refine ⟨F', ρ', osH', g1, fun id b hh => r1 _ _ (r0 _ _ hh), p1, p2, p3, fun b hb => ⟨g2 b (p4 b hb).1, (p4 b hb).2⟩, hsim.tmps.length, fun i id off hi => ?_⟩
      obtain ⟨cv', od, k1, k2, _⟩ := hsim.tmps.get (nth_lt (d := i) (by rw [hi]; exact fun hh => by cases hh))
      rw [hi] at k2
      cases k2 with
      | e _ _ _ k2 => cases k2 with | d _ _ k2 => cases k2
      | ptr _ _ b k3 => exact ⟨b, r1 _ _ k3, k1⟩
theorem stt_skip (h : Stt E a w s) (hd : a.defers = dfs) {dst : Option Nat} {r : Ex × St} (hr : stepR dst s (some (.val [] (.tup []) s.h)) = some r) : r.1 = .norm ∧ Stt E (a.put dst undef) w r.2 ∧ (a.put dst undef).defers = dfs := by
 obtain ⟨F, ρ, osT, osH, e0, r0, hsim, n0⟩ := h
 simp only [stepR, ups] at hr
 split at hr
 ·rename_i t' hput
  simp only [Option.some.injEq] at hr
  subst hr
  refine ⟨rfl, SimV.stt e0 r0 n0 (Ext.refl hsim.fresh) (fun _ _ x => x) (hsim.val (.tup [] [] [] .nil) trivial) (fun b hb => .inl (by simpa using hb)) hput, by rw [put_defers]; exact hd⟩
 ·cases hr
def chkG (ops : Array Oper) (o : Oper) : Option (Nat × Bool) → Bool
 | none => o.guard.isNone
 | some (slot, want) => match o.guard with
  | some (j, want') => want' == want && ((ops[j]?).bind (·.dst)) == some slot
  | none => false
theorem tmps_get (h : Stt E a w s) {d : Nat} (hd : nth s.t d ≠ .undef) : ∃ F ρ od cv, a.tmps[d]? = some cv ∧ RepV w F ρ cv (nth s.t d) od := by
 obtain ⟨F, ρ, osT, osH, e0, r0, hsim, n0⟩ := h
 obtain ⟨cv, od, g1, g2, _⟩ := hsim.tmps.get (nth_lt hd)
 exact ⟨F, ρ, od, cv, by simpa using g1, g2⟩
theorem wanted_none {ops : Array Oper} (hg : chkG ops o none = true) : Region.wanted o (yielded ops a.tmps) = true := by
 simp only [chkG, Option.isNone_iff_eq_none] at hg
 simp [Region.wanted, hg]
theorem wanted_bool {ops : Array Oper} (h : Stt E a w s) {slot : Nat} {want b : Bool} (hg : chkG ops o (some (slot, want)) = true) (hb : nth s.t slot = .bool b) : Region.wanted o (yielded ops a.tmps) = (b == want) := by
 obtain ⟨F, ρ, od, cv, g1, g2⟩ := tmps_get h (d := slot) (by rw [hb]; exact fun h => by cases h)
 rw [hb] at g2
 have := g2.data rfl
 cases this
 simp only [chkG] at hg
 split at hg
 ·rename_i j want' hgu
  simp only [Bool.and_eq_true, beq_iff_eq] at hg
  obtain ⟨rfl, hj⟩ := hg
  simp only [Region.wanted, hgu, yielded, hj, Option.bind_some, g1]
  cases b <;> cases want' <;> rfl
 ·cases hg
theorem wanted_void {ops : Array Oper} (h : Stt E a w s) {slot : Nat} {want : Bool} (hg : chkG ops o (some (slot, want)) = true) (hb : nth s.t slot = .tup []) : Region.wanted o (yielded ops a.tmps) = false := by
 obtain ⟨F, ρ, od, cv, g1, g2⟩ := tmps_get h (d := slot) (by rw [hb]; exact fun h => by cases h)
 rw [hb] at g2
 have hcv : cv = .tuple #[] := by
  cases g2 with
  | e _ _ _ g2 => cases g2 with | d _ _ g2 => cases g2
  | tup cvs _ _ g2 => cases g2; rfl
 subst hcv
 simp only [chkG] at hg
 split at hg
 ·rename_i j want' hgu
  simp only [Bool.and_eq_true, beq_iff_eq] at hg
  obtain ⟨rfl, hj⟩ := hg
  simp only [Region.wanted, hgu, yielded, hj, Option.bind_some, g1]
  rfl
 ·cases hg
def chkI (P : Program) (ops : Array Oper) (o : Oper) (i : AI) : Bool := (o.dst == i.dst) && chkG ops o i.g && chkX P o.op i.op
theorem stt_ai {ops : Array Oper} (hs : SoundCall P call) (h : Stt E a w s) (hd : a.defers = dfs) {i : AI} (hc : chkI P ops o i = true) {r : Ex × St} (hr : stepI call i s = some r)
    {next : Act → World → Prop} {Q : Exit → Act → World → Prop} (hn : r.1 = .norm → ∀ a' w', Stt E a' w' r.2 → a'.defers = dfs → next a' w')
    (hp : ∀ v chain a' w', r.1 = .pan v → Rel E dfs r.1 r.2 (.panic chain) a' w' → Q (.panic chain) a' w') : if Region.wanted o (yielded ops a.tmps) then o.wp P a w next Q else next (a.put o.dst undef) w := by
  simp only [chkI, Bool.and_eq_true, beq_iff_eq] at hc
  obtain ⟨⟨hdst, hg⟩, hx⟩ := hc
  unfold stepI at hr
  rw [← hdst] at hr
  cases hig : i.g with
  | none =>
    rw [hig] at hr hg
    rw [wanted_none hg, if_pos rfl]
    exact stt_op hs h hd hx hr hn hp
  | some gw =>
    obtain ⟨slot, want⟩ := gw
    rw [hig] at hr hg
    simp only at hr
    split at hr
    · rename_i b hb
      rw [wanted_bool h hg hb]
      split at hr
      · rename_i hbw
        rw [hbw]
        simp only [beq_self_eq_true, if_true]
        exact stt_op hs h hd hx hr hn hp
      · rename_i hbw
        have : (b == want) = false := by simpa using hbw
        rw [this]
        simp only [Bool.false_eq_true, if_false]
        obtain ⟨h1, h2, h3⟩ := stt_skip h hd hr
        exact hn h1 _ _ h2 h3
    · rename_i hb
      rw [wanted_void h hg hb]
      simp only [Bool.false_eq_true, if_false]
      obtain ⟨h1, h2, h3⟩ := stt_skip h hd hr
      exact hn h1 _ _ h2 h3
    · cases hr
def isPs (i : AI) : Bool := i.dst.isNone && i.g.isNone && (match i.op with | .cm _ => true | .cmb _ => true | .cmh _ => true | _ => false)
theorem PsOK.stt {F : Nat → Nat} {ρ osT osH : List Nat} (e0 : Ext E.B E.w E.F w F (fun b => b ∈ E.os)) (r0 : ∀ (id b : Nat), E.ρ[id]? = some b → ρ[id]? = some b) (n0 : ∀ b ∈ osT ++ osH, b ∈ E.os ∨ E.w.heap.size ≤ b) {t' : List V} {h' : Heap}
    (h : PsOK a.tmps.toList E.B w F ρ s E.rest osT osH t' h') : Stt E a w ⟨t', h'⟩ := by
  obtain ⟨F', osT', osH', e1, q1, q2⟩ := h
  obtain ⟨g1, g2⟩ := Stt.next e0 r0 n0 e1
  exact ⟨F', ρ, osT', osH', g1, r0, q1, fun b hb => g2 b (.inl (q2 b hb))⟩
theorem stt_ps (h : Stt E a w s) {i : AI} (hps : isPs i = true) {r : Ex × St} (hr : stepI call i s = some r) : r.1 = .norm ∧ Stt E a w r.2 := by
 obtain ⟨F, ρ, osT, osH, e0, r0, hsim, n0⟩ := h
 obtain ⟨dst, op, g⟩ := i
 simp only [isPs, Bool.and_eq_true, Option.isNone_iff_eq_none] at hps
 obtain ⟨⟨rfl, rfl⟩, hop⟩ := hps
 simp only [stepI] at hr
 split at hop
 ·rename_i d
  simp only [opRes, stepR, put, Option.some.injEq] at hr
  subst hr
  exact ⟨rfl, PsOK.stt e0 r0 n0 (ps_cm hsim d)⟩
 ·rename_i d
  simp only [opRes] at hr
  split at hr
  ·rename_i cs hb
   simp only [stepR, put, Option.some.injEq] at hr
   subst hr
   exact ⟨rfl, PsOK.stt e0 r0 n0 (ps_cmb hsim hb)⟩
  ·cases hr
 ·rename_i x
  simp only [opRes] at hr
  split at hr
  ·rename_i id off he
   simp only [stepR, put, ups, Option.some.injEq] at hr
   subst hr
   refine ⟨rfl, PsOK.stt (s := s) e0 r0 n0 ?_⟩
   by_cases hid : id < s.h.length
   ·exact ps_cmh hsim hid
   ·have hu : ∀ (hp : Heap) (k : Nat) (x : List V), hp.length ≤ k → hupd hp k x = hp := by
     intro hp
     induction hp with
     | nil => intro k x _; rfl
     | cons c hp ih =>
      intro k x hk
      cases k with
      | zero => simp at hk
      | succ k => simp only [hupd]; rw [ih k x (by simpa using hk)]
    rw [hu s.h id _ (by omega)]
    exact hsim.psrefl
  ·cases hr
 ·cases hop
def chkOps (P : Program) (ops : Array Oper) : List Oper → List AI → Bool
 | [], [] => true
 | [], i :: is => isPs i && chkOps P ops [] is
 | _ :: _, [] => false
 | o :: os, i :: is => if isPs i then chkOps P ops (o :: os) is else chkI P ops o i && chkOps P ops os is
theorem ops_ok {ops : Array Oper} (hs : SoundCall P call) : ∀ (is : List AI) (l : List Oper) (a : Act) (w : World) (s : St) (e : Ex) (s' : St), chkOps P ops l is = true → Stt E a w s → a.defers = dfs → runOps call is s = some (e, s') →
  wpList P ops (Rel E dfs e s') l a w
 | [], l, a, w, s, e, s', hc, h, hd, hr => by
  simp only [runOps, Option.some.injEq, Prod.mk.injEq] at hr
  obtain ⟨rfl, rfl⟩ := hr
  cases l with
  | nil => exact ⟨h, hd⟩
  | cons o l => cases hc
 | i :: is, l, a, w, s, e, s', hc, h, hd, hr => by
  simp only [runOps] at hr
  cases hi : stepI call i s with
  | none => rw [hi] at hr; cases hr
  | some r =>
   rw [hi] at hr
   have ps : isPs i = true → chkOps P ops l is = true → wpList P ops (Rel E dfs e s') l a w := fun hps hrest => by
    obtain ⟨h1, h2⟩ := stt_ps h hps hi
    obtain ⟨e1, s1⟩ := r
    simp only at h1 h2
    subst h1
    exact ops_ok hs is l a w s1 e s' hrest h2 hd hr
   cases l with
   | nil =>
    simp only [chkOps, Bool.and_eq_true] at hc
    exact ps hc.1 hc.2
   | cons o l =>
    simp only [chkOps] at hc
    split at hc
    ·rename_i hps; exact ps hps hc
    ·simp only [Bool.and_eq_true] at hc
     have := stt_ai (Q := Rel E dfs e s') (next := wpList P ops (Rel E dfs e s') l) hs h hd hc.1 hi (fun hnorm a' w' hst hdd => by
       obtain ⟨e1, s1⟩ := r
       simp only at hnorm hst
       subst hnorm
       exact ops_ok hs is l a' w' s1 e s' hc.2 hst hdd hr) (fun v chain a' w' hv hrel => by
       obtain ⟨e1, s1⟩ := r
       simp only at hv hrel
       subst hv
       simp only [Option.some.injEq, Prod.mk.injEq] at hr
       obtain ⟨rfl, rfl⟩ := hr
       exact hrel)
     simp only [wpList]
     split
     ·rename_i hw; rw [if_pos hw] at this; exact .inl this
     ·rename_i hw; rw [if_neg hw] at this; exact this
end
end Go.Am
