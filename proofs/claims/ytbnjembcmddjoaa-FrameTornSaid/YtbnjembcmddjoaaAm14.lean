/- Appends, copies, new slices, parts of slices. -/
import Derived.Test.YtbnjembcmddjoaaAm13
set_option linter.unusedVariables false
set_option linter.unusedSimpArgs false
namespace Go.Am
open Go Go.RowKit

section
variable {P : Program} {a : Act} {o : Oper} {B : Nat} {w w' : World} {F F' : Nat → Nat} {ρ : List Nat} {s : St} {rest osT osH : List Nat} {c : CallF} {r : Rs} {T : Nat → Prop}

/-- Another value in the place of the one that was handed over. -/
theorem SimV.replace {cvs : List Value} {t : List V} {hp : Heap} {cv cv' : Value} {v v' : V} {osV osV' : List Nat} (g : SimV B cvs w F ρ t hp cv v rest osT osH osV) (e : Ext B w F w' F' T) (hT : ∀ b ∈ osT ++ osH ++ rest, ¬ T b)
    (hv : RepV w' F' ρ cv' v' osV') (ha : isAl v' = false) (hsub : ∀ b ∈ osV', (b ∈ osV ∨ w.heap.size ≤ b) ∧ b < w'.heap.size ∧ F' b = 0) (h1 : ∀ b, osV'.count b ≤ 1) : SimV B cvs w' F' ρ t hp cv' v' rest osT osH osV' := by
  have hlt : ∀ b ∈ osT ++ osH ++ rest, b < w.heap.size := fun b hb => (g.inb b (by simp only [List.mem_append] at hb ⊢; rcases hb with (hb | hb) | hb <;> simp [hb])).2.1
  refine ⟨g.tmps.ext e (fun _ _ x => x) (fun b hb => hlt b (by simp [hb])) (fun b hb => hT b (by simp [hb])), g.heap.ext e (fun b hb => hT b (by simp [hb])), g.alias, hv, aliasV_of ha, fun b => ?_, fun b hb => ?_, e.fresh, Nat.le_trans g.base e.size⟩
  · have a1 := g.once b
    have a2 := h1 b
    simp only [List.count_append] at a1 ⊢
    by_cases hb : b ∈ osV'
    · rcases (hsub b hb).1 with h' | h'
      · have := List.count_pos_iff.2 h'
        omega
      · have : ∀ l : List Nat, (∀ c ∈ l, c < w.heap.size) → l.count b = 0 := fun l hl => List.count_eq_zero.2 fun hm => by have := hl b hm; omega
        have e1 := this osT fun c hc => hlt c (by simp [hc])
        have e2 := this osH fun c hc => hlt c (by simp [hc])
        have e3 := this rest fun c hc => hlt c (by simp [hc])
        omega
    · have := List.count_eq_zero.2 hb
      omega
  · have old : b ∈ osT ++ osH ++ rest → B ≤ b ∧ b < w'.heap.size ∧ F' b = 0 := fun hm => by
      obtain ⟨b1, b2, b3⟩ := g.inb b (by simp only [List.mem_append] at hm ⊢; rcases hm with (hm | hm) | hm <;> simp [hm])
      exact ⟨b1, Nat.lt_of_lt_of_le b2 e.size, ((e.keep b (hT b hm) b2).2).trans b3⟩
    simp only [List.mem_append] at hb
    rcases hb with ((hb | hb) | hb) | hb
    · exact old (by simp [hb])
    · exact old (by simp [hb])
    · obtain ⟨c1, c2, c3⟩ := hsub b hb
      refine ⟨?_, c2, c3⟩
      rcases c1 with c1 | c1
      · exact (g.inb b (by simp [c1])).1
      · exact Nat.le_trans g.base c1
    · exact old (by simp [hb])

/-- An own slice in a new block. -/
theorem OpOK.own (h : Sim B a.tmps.toList w F ρ s rest osT osH) {w1 : World} (hw : w1 = w ∨ w1 = w.drew) {C : Array Value} {e : TypeId} {fr : Nat × Nat} {len cap sz : Nat} {xs : List V}
    (hr : (execOp a.eval o).run P w = .ok (.value (.slice (some ⟨w.heap.size, 0, none⟩) len cap)) (w1.alloc (.cells C e fr)))
    (ho : OwnSl (w1.alloc (.cells C e fr)) (setF F w.heap.size 0) w.heap.size len cap sz xs) : OpOK P a o B w F ρ s rest osT osH (.val [] (.sl true sz xs) s.h) := by
  have hE : Ext B w F (w1.alloc (.cells C e fr)) (setF F w.heap.size 0) (fun _ => False) := by
    rcases hw with rfl | rfl
    · exact Ext.alloc h.base h.fresh _ 0
    · exact (Ext.drew (B := B) (w := w) h.fresh).transF (Ext.alloc (B := B) (w := w.drew) h.base h.fresh _ 0)
  have hsz : w.heap.size < (w1.alloc (.cells C e fr)).heap.size := by rcases hw with rfl | rfl <;> simp
  refine ⟨_, _, _, ρ, osT, osH, [w.heap.size], .inl hr, hE.weaken (fun _ _ x => x.elim), fun _ _ x => x, h.new hE (.e _ _ _ (.own _ _ _ _ _ ho)) trivial (fun b hb => ?_) (fun b => ?_), fun b hb => ?_⟩
  · obtain rfl := List.mem_singleton.1 hb
    exact ⟨Nat.le_refl _, hsz, setF_self F _ _⟩
  · simp only [List.count_singleton]; split <;> omega
  · simp only [List.mem_append, List.mem_singleton] at hb
    rcases hb with hb | hb
    · exact .inl (by simpa using hb)
    · exact .inr (Nat.le_of_eq hb.symm)

theorem mul_add_lt {i j n sz : Nat} (hi : i < n) (hj : j < sz) : i * sz + j < n * sz := by
  have := mul_lt_of (sz := sz) hi
  omega

theorem nth_replicate {n i : Nat} (h : i < n) (v : V) : nth (List.replicate n v) i = v := by
  rw [nth_eq_getElem (by simpa using h)]
  simp

theorem madeCells_get {z : Array Value} {n j : Nat} (hj : j < n) (hz : 0 < z.size) : (madeCells z n)[j]? = some (z[j % z.size]'(Nat.mod_lt _ hz)) := by
  simp [madeCells, hj, Nat.mod_lt _ hz]

theorem mul_add_mod' {i j sz : Nat} (hj : j < sz) : (i * sz + j) % sz = j := by
  rw [Nat.mul_comm, Nat.mul_add_mod]
  exact Nat.mod_eq_of_lt hj

/-- The zero value of an element. -/
structure ZeroE (P : Program) (e : TypeId) (sz : Nat) (z : V) (zv : Value) : Prop where
  size : szT P e = some sz
  zero : zeroT P e = some zv
  rep : ∀ (w : World) (F : Nat → Nat), RepD w F zv z
  cells : z.cells.length = sz

theorem ZeroE.get {e : TypeId} {sz : Nat} {z : V} {zv : Value} (h : ZeroE P e sz z zv) {n i j : Nat} (hi : i < n) (hj : j < sz) (w : World) (F : Nat → Nat) :
    ∃ cv, (madeCells zv.cells (n * sz))[i * sz + j]? = some cv ∧ RepD w F cv (nth z.cells j) ∧ (nth z.cells j).one = true := by
  obtain ⟨h1, h2⟩ := (h.rep w F).cells_nth
  rw [h.cells] at h1 h2
  obtain ⟨cc, q1, q2, q3⟩ := h2 j hj
  refine ⟨cc, ?_, q2, q3⟩
  rw [madeCells_get (mul_add_lt hi hj) (by omega)]
  simp only [h1, mul_add_mod' hj]
  rw [Array.getElem?_eq_getElem (by omega)] at q1
  exact q1

theorem op_mk (h : Sim B a.tmps.toList w F ρ s rest osT osH) {x1 x2 : Operand} {y1 y2 : Src} {t e : TypeId} {sz bytes : Nat} {z : V} {zv : Value} {i : TypeInfo} (hop : o.op = .makeSlice t x1 x2) (h1 : chkS x1 y1 = true) (h2 : chkS x2 y2 = true)
    (hu : P.underlying t = some (.slice e)) (hi : P.info? e = some i) (hb : i.bytes = bytes) (hZ : ZeroE P e sz z zv) (hr : opRes c (nth s.t) s.h (.mk sz bytes z y1 y2) = some r) : OpOK P a o B w F ρ s rest osT osH r := by
  simp only [opRes] at hr
  split at hr
  · rename_i l cc e1 e2
    split at hr
    · rename_i hk
      obtain ⟨k1, k2, k3, k4⟩ := hk
      simp only [Option.some.injEq] at hr
      subst hr
      obtain ⟨kk1, q1⟩ := h.int h1 e1
      obtain ⟨kk2, q2⟩ := h.int h2 e2
      have hisz : i.size = sz := by have := hZ.size; simp only [szT, hi, Option.map_some, Option.some.injEq] at this; exact this
      have hiz : i.zero = some zv := by have := hZ.zero; simp only [zeroT, hi, Option.bind_some] at this; exact this
      have hrun := run_make w t e i zv hu hi hiz kk1 kk2 l cc k1 k2 (by rw [hb]; exact k3) k4
      rw [hisz] at hrun
      refine OpOK.own h (.inl rfl) (fr := (0, 0)) (C := madeCells zv.cells (cc.toNat * sz)) (e := e) (len := l.toNat) (cap := cc.toNat) (by simp [execOp, hop, q1, q2, hrun]) ?_
      refine OwnSl.new (heap_alloc_new w _) (setF_self F _ _) (fun o _ => frozen_new w _ _ o) (by simp) (by omega) (by rw [size_madeCells]; exact Nat.le_refl _) (fun i hi => ?_) (fun i j hi hj => ?_)
      · simp only [List.length_replicate] at hi
        rw [nth_replicate hi]
        exact ⟨hZ.cells, (hZ.rep w F).data⟩
      · simp only [List.length_replicate] at hi
        rw [nth_replicate hi]
        exact hZ.get (by omega) hj _ _
    · cases hr
  · cases hr

def chkPartsE : List (Nat × Operand) → List (Nat × Src) → Bool
  | [], [] => true
  | (i, x) :: ps, (k, y) :: qs => i == k && chkS x y && chkPartsE ps qs
  | _, _ => false

/-- A row of elements. -/
def RowE (w : World) (F : Nat → Nat) (sz : Nat) (C : Array Value) (xs : List V) : Prop :=
  C.size = xs.length * sz ∧ (∀ i, i < xs.length → (nth xs i).cells.length = sz ∧ (nth xs i).data = true) ∧
    ∀ i j, i < xs.length → j < sz → ∃ cv, C[i * sz + j]? = some cv ∧ RepD w F cv (nth (nth xs i).cells j) ∧ (nth (nth xs i).cells j).one = true

theorem setA_out (vs : List Value) : ∀ (cur : Array Value) (o k : Nat), (k < o ∨ o + vs.length ≤ k) → (setA cur o vs)[k]? = cur[k]? := by
  induction vs with
  | nil => intro cur o k _; rfl
  | cons v r ih =>
    intro cur o k hk
    simp only [setA]
    simp only [List.length_cons] at hk
    rw [ih _ _ _ (by omega)]
    rw [Array.getElem?_setIfInBounds_ne (by omega)]

theorem setA_in (vs : List Value) : ∀ (cur : Array Value) (o j : Nat), o + vs.length ≤ cur.size → (hj : j < vs.length) → (setA cur o vs)[o + j]? = some vs[j] := by
  induction vs with
  | nil => intro cur o j _ hj; simp at hj
  | cons v r ih =>
    intro cur o j ho hj
    simp only [List.length_cons] at ho
    simp only [setA]
    cases j with
    | zero =>
      rw [setA_out r _ _ _ (by omega)]
      simp [show o < cur.size by omega]
    | succ j =>
      have := ih (cur.setIfInBounds o v) (o + 1) j (by simp; omega) (by simpa using hj)
      rw [show o + (j + 1) = o + 1 + j by omega, this]
      simp

theorem RowE.set {sz i : Nat} {C : Array Value} {xs : List V} {cv : Value} {v : V} (h : RowE w F sz C xs) (hi : i < xs.length) (hv : RepD w F cv v) (hl : v.cells.length = sz) : RowE w F sz (setA C (i * sz) cv.cells.toList) (upd xs i v) := by
  obtain ⟨h1, h2, h3⟩ := h
  obtain ⟨c1, c2⟩ := hv.cells_nth
  rw [hl] at c1 c2
  have hin := mul_lt_of (sz := sz) hi
  refine ⟨by rw [setA_size, upd_length]; exact h1, fun k hk => ?_, fun k j hk hj => ?_⟩
  · rw [upd_length] at hk
    by_cases hik : i = k
    · subst hik; rw [nth_upd_self hi]; exact ⟨hl, hv.data⟩
    · rw [nth_upd_ne hik]; exact h2 k hk
  · rw [upd_length] at hk
    by_cases hik : i = k
    · subst hik
      rw [nth_upd_self hi]
      obtain ⟨cc, q1, q2, q3⟩ := c2 j hj
      refine ⟨cc, ?_, q2, q3⟩
      rw [setA_in _ _ _ j (by simp; omega) (by simp; omega)]
      rw [Array.getElem?_eq_getElem (by omega)] at q1
      simpa using q1
    · rw [nth_upd_ne hik]
      obtain ⟨cc, q1, q2, q3⟩ := h3 k j hk hj
      refine ⟨cc, ?_, q2, q3⟩
      rw [setA_out _ _ _ _ ?_]
      · exact q1
      · simp only [Array.length_toList, c1]
        rcases Nat.lt_or_ge k i with h' | h'
        · left
          have := mul_add_lt (sz := sz) (show k < k + 1 by omega) hj
          have h4 := Nat.mul_le_mul_right sz (show k + 1 ≤ i by omega)
          omega
        · right
          have := mul_lt_of (sz := sz) (show i < k by omega)
          omega

theorem fillE_ok (h : Sim B a.tmps.toList w F ρ s rest osT osH) {sz n : Nat} : ∀ (ps : List (Nat × Operand)) (qs : List (Nat × Src)) (C : Array Value) (xs xs' : List V), chkPartsE ps qs = true →
    RowE w F sz C xs → fillE sz xs (nth s.t) qs = some xs' →
    ∃ C', Instr.fill (fun i => some (i * sz, sz)) C (ps.map fun p => (p.1, a.eval p.2)) = some C' ∧ RowE w F sz C' xs' ∧ xs'.length = xs.length
  | [], [], C, xs, xs', _, hr, hf => by
    simp only [fillE, Option.some.injEq] at hf
    subst hf
    exact ⟨C, rfl, hr, rfl⟩
  | (i, x) :: ps, (k, y) :: qs, C, xs, xs', hc, hr, hf => by
    simp only [chkPartsE, Bool.and_eq_true, beq_iff_eq] at hc
    obtain ⟨⟨rfl, h2⟩, h3⟩ := hc
    simp only [fillE] at hf
    cases hd : dat (nth s.t) y with
    | none => rw [hd] at hf; cases hf
    | some v =>
      rw [hd] at hf
      simp only at hf
      split at hf
      · rename_i hl
        have hD := h.dat h2 hd
        have hsz : (a.eval x).cells.size = sz := by rw [← hl.1]; exact hD.cells_nth.1
        have hin := mul_lt_of (sz := sz) hl.2
        have hCs := hr.1
        obtain ⟨C', g1, g2, g3⟩ := fillE_ok h (n := n) ps qs _ _ _ h3 (hr.set hl.2 hD hl.1) hf
        refine ⟨C', ?_, g2, by rw [g3, upd_length]⟩
        simp only [List.map_cons, Instr.fill]
        rw [if_neg (by simp [hsz]; omega)]
        rw [fill_fold_arr]
        exact g1
      · cases hf
  | [], _ :: _, _, _, _, hc, _, _ => by cases hc
  | _ :: _, [], _, _, _, hc, _, _ => by cases hc

theorem op_bsl (h : Sim B a.tmps.toList w F ρ s rest osT osH) {t e : TypeId} {sz n : Nat} {z : V} {zv : Value} {ps : Array (Nat × Operand)} {qs : List (Nat × Src)} (hop : o.op = .buildSlice t n ps) (hu : P.underlying t = some (.slice e))
    (hZ : ZeroE P e sz z zv) (hlim : n * sz ≤ 2 ^ 24) (hc : chkPartsE ps.toList qs = true) (hr : opRes c (nth s.t) s.h (.bsl sz n z qs) = some r) : OpOK P a o B w F ρ s rest osT osH r := by
  simp only [opRes] at hr
  cases hf : fillE sz (List.replicate n z) (nth s.t) qs with
  | none => rw [hf] at hr; cases hr
  | some xs =>
    rw [hf] at hr
    simp only [Option.some.injEq] at hr
    subst hr
    have hrow : RowE w F sz (madeCells (if n * sz = 0 then #[] else zv.cells) (n * sz)) (List.replicate n z) := by
      refine ⟨by rw [size_madeCells]; simp, fun i hi => ?_, fun i j hi hj => ?_⟩
      · simp only [List.length_replicate] at hi
        rw [nth_replicate hi]
        exact ⟨hZ.cells, (hZ.rep w F).data⟩
      · simp only [List.length_replicate] at hi
        rw [nth_replicate hi]
        have := mul_add_lt hi hj
        rw [if_neg (by omega)]
        exact hZ.get hi hj _ _
    obtain ⟨C', g1, g2, g3⟩ := fillE_ok h (n := n) ps.toList qs _ _ _ hc hrow hf
    simp only [List.length_replicate] at g3
    have hrun : (execOp a.eval o).run P w = .ok (.value (.slice (some ⟨w.heap.size, 0, none⟩) n n)) (w.alloc (.cells C' e)) := by
      have e1 : (ps.map fun (i, x) => (i, a.eval x)).toList = ps.toList.map fun p => (p.1, a.eval p.2) := by simp
      have hlim' : ¬ n * sz > 2 ^ 24 := by omega
      simp only [execOp, hop, Instr.buildSlice, Sem.run_bind, run_under hu, Result.andThen_ok, run_sizeOf hZ.size, if_neg hlim']
      by_cases h0 : n * sz = 0
      · simp only [h0, if_true] at g1 ⊢
        have g1' : Instr.fill (fun i => some (i * sz, sz)) #[] (ps.toList.map fun p => (p.1, a.eval p.2)) = some C' := by
          rw [show madeCells (#[] : Array Value) 0 = #[] by simp [madeCells]] at g1
          exact g1
        simp [e1, show (Array.range 0) = #[] from rfl, g1', newRow]
      · simp only [if_neg h0] at g1 ⊢
        simp only [madeCells] at g1
        simp [run_zeroValue hZ.zero, e1, g1, newRow]
    refine OpOK.own h (.inl rfl) hrun ?_
    obtain ⟨r1, r2, r3⟩ := g2
    have hE := Ext.alloc (B := B) h.base h.fresh (.cells C' e) 0
    refine OwnSl.new (heap_alloc_new w _) (setF_self F _ _) (fun o _ => frozen_new w _ _ o) g3.symm (Nat.le_refl _) (by rw [r1, g3]; exact Nat.le_refl _) r2 (fun i j hi hj => ?_)
    obtain ⟨cv, q1, q2, q3⟩ := r3 i j hi hj
    exact ⟨cv, q1, q2.ext hE, q3⟩
end
end Go.Am
