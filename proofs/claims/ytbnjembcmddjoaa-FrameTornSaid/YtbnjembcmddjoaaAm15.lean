/- Appends. -/
import Derived.Test.YtbnjembcmddjoaaAm14
import Derived.Laws.Append
import Derived.Laws.AppendOwn
import Derived.Laws.IdiomCopy
set_option linter.unusedVariables false
set_option linter.unusedSimpArgs false
namespace Go.Am
open Go Go.RowKit

theorem run_firstCells_empty {P : Program} {w : World} {sz : Nat} (p : Option Addr) : (Builtin.firstCells sz 0 (.slice p 0 0)).run P w = .ok ([] : List Value).toArray w := by
  cases p with
  | none => simp [Builtin.firstCells]
  | some a0 =>
    have := run_loadCells_list (P := P) w a0 [] (by simp)
    simp only [List.length_nil] at this
    simp only [Builtin.firstCells, Nat.zero_mul]
    exact this

theorem nth_append_left {xs ys : List V} {i : Nat} (h : i < xs.length) : nth (xs ++ ys) i = nth xs i := by
  rw [nth_eq_getElem (by simp; omega), nth_eq_getElem h, List.getElem_append_left h]

theorem nth_append_right {xs ys : List V} {i : Nat} (h : i < ys.length) : nth (xs ++ ys) (xs.length + i) = nth ys i := by
  rw [nth_eq_getElem (by simp; omega), nth_eq_getElem h, List.getElem_append_right (by omega)]
  simp

def listT (P : Program) (t : TypeId) : Bool := match P.underlying t with
  | some (.slice _) => true
  | some .string => true
  | _ => false

section
variable {P : Program} {a : Act} {o : Oper} {B : Nat} {w : World} {F : Nat → Nat} {ρ : List Nat} {s : St} {rest osT osH : List Nat} {c : CallF} {r : Rs}

/-- What an append reads of its second argument. -/
def Second (P : Program) (w : World) (sz n : Nat) (x : Value) (news : List Value) : Prop :=
  news.length = n * sz ∧ ∀ w1, (w1 = w ∨ w1 = w.drew) → (Builtin.lenOf x).run P w1 = .ok n w1 ∧ (Builtin.firstCells sz n x).run P w1 = .ok news.toArray w1

theorem run_app_none {t t2 ty e : TypeId} {i : TypeInfo} (ht : P.underlying t = some (.slice e)) (h2 : listT P t2 = true) (hi : P.info? e = some i) {x : Value} {news : List Value} (hx : Second P w i.size 0 x news) :
    (Builtin.append_ #[t, t2] ty #[.slice none 0 0, x]).run P w = .ok (.slice none 0 0) w := by
  obtain ⟨_, h1⟩ := hx
  obtain ⟨h3, h4⟩ := h1 w (.inl rfl)
  unfold listT at h2
  split at h2
  · rename_i e' hu; simp [Builtin.append_, run_underlying ht, run_underlying hu, sizeOf, typeInfo, hi, h3, h4]
  · rename_i hu; simp [Builtin.append_, run_underlying ht, run_underlying hu, sizeOf, typeInfo, hi, h3, h4]
  · cases h2

theorem run_app_room {t t2 ty e : TypeId} {i : TypeInfo} (ht : P.underlying t = some (.slice e)) (h2 : listT P t2 = true) (hi : P.info? e = some i) {x : Value} {news : List Value} {n : Nat} (hx : Second P w i.size n x news)
    {g sLen sCap : Nat} (hroom : sLen + n ≤ sCap) (hst : (storeCells ⟨g, sLen * i.size, none⟩ news).run P w = .ok () (w.setCells g (sLen * i.size) news)) :
    (Builtin.append_ #[t, t2] ty #[.slice (some ⟨g, 0, none⟩) sLen sCap, x]).run P w = .ok (.slice (some ⟨g, 0, none⟩) (sLen + n) sCap) (w.setCells g (sLen * i.size) news) := by
  obtain ⟨_, h1⟩ := hx
  obtain ⟨h3, h4⟩ := h1 w (.inl rfl)
  unfold listT at h2
  split at h2
  · rename_i e' hu; simp [Builtin.append_, run_underlying ht, run_underlying hu, sizeOf, typeInfo, hi, h3, h4, hroom, addr_add, hst]
  · rename_i hu; simp [Builtin.append_, run_underlying ht, run_underlying hu, sizeOf, typeInfo, hi, h3, h4, hroom, addr_add, hst]
  · cases h2

theorem run_app_grow {t t2 ty e : TypeId} {i : TypeInfo} {z : Value} (ht : P.underlying t = some (.slice e)) (h2 : listT P t2 = true) (hi : P.info? e = some i) (hz : i.zero = some z) {x : Value} {news olds : List Value} {n : Nat} (hx : Second P w i.size n x news)
    {base : Option Addr} {sLen sCap : Nat} (ho : ∀ w1, (w1 = w ∨ w1 = w.drew) → (Builtin.firstCells i.size sLen (.slice base sLen sCap)).run P w1 = .ok olds.toArray w1) (hg : sCap < sLen + n)
    (h63 : ((sLen + n : Nat) : Int) ≤ 9223372036854775807) (hfit : Builtin.nextslicecap (sLen + n) sCap * i.bytes ≤ 281474976710656) :
    (Builtin.append_ #[t, t2] ty #[.slice base sLen sCap, x]).run P w = .ok (.slice (some ⟨w.heap.size, 0, none⟩) (sLen + n) (grownCap w (sLen + n) sCap e))
      (w.drew.alloc (.cells (olds.toArray ++ news.toArray ++ Builtin.zeroCells z.cells (grownCap w (sLen + n) sCap e - (sLen + n))) e)) := by
  obtain ⟨_, h1⟩ := hx
  obtain ⟨h3, h4⟩ := h1 w (.inl rfl)
  obtain ⟨h5, h6⟩ := h1 w.drew (.inr rfl)
  have h7 := ho w.drew (.inr rfl)
  have hn : ¬ (sLen + n ≤ sCap) := by omega
  have h63' : ¬ (9223372036854775807 < ((sLen : Int) + (n : Int))) := by omega
  have h48' : ¬ (281474976710656 < Builtin.nextslicecap (sLen + n) sCap * i.bytes) := by omega
  unfold listT at h2
  split at h2
  · rename_i e' hu
    simp [Builtin.append_, run_underlying ht, run_underlying hu, sizeOf, typeInfo, zeroValue, hi, hz, h3, hn, h63', h48', Question.forced, h6, h7, newRow, grownCap]
    congr 2
    apply Array.ext'
    simp [List.append_assoc]
  · rename_i hu
    simp [Builtin.append_, run_underlying ht, run_underlying hu, sizeOf, typeInfo, zeroValue, hi, hz, h3, hn, h63', h48', Question.forced, h6, h7, newRow, grownCap]
    congr 2
    apply Array.ext'
    simp [List.append_assoc]
  · cases h2

/-- The row that a slice's cells are. -/
theorem Reads.row {b off len sz : Nat} {xs : List V} (h : Reads w F b off len sz xs) : ∃ cs : List Value, cs.length = xs.length * sz ∧ RowE w F sz cs.toArray xs ∧ ∀ j v, cs[j]? = some v → w.cell? ⟨b, off + j, none⟩ = some v := by
  refine ⟨(List.range (xs.length * sz)).map (Am.cellAt w b off), by simp, ⟨by simp, h.elem, fun i j hi hj => ?_⟩, fun j v hj => ?_⟩
  · have hlt := mul_add_lt (sz := sz) hi hj
    obtain ⟨g1, g2, g3⟩ := h.cellAt hlt
    have e1 : (i * sz + j) / sz = i := by
      rw [Nat.mul_comm, Nat.mul_add_div (by omega), Nat.div_eq_of_lt hj]; rfl
    have e2 : (i * sz + j) % sz = j := mul_add_mod' hj
    rw [e1, e2] at g2 g3
    exact ⟨_, by simp [hlt], g2, g3⟩
  · by_cases hl : j < xs.length * sz
    · simp [hl] at hj
      rw [← hj]
      exact (h.cellAt hl).1
    · rw [List.getElem?_eq_none (by simp; omega)] at hj
      cases hj

theorem app_second (h : Sim B a.tmps.toList w F ρ s rest osT osH) {x : Operand} {y : Src} {b : Option Nat} {sz : Nat} {ys : List V} (hc : chkS x y = true)
    (hr : (match Am.ev (nth s.t) y with | .str l => some (1, Am.B l) | _ => Am.rdsl (nth s.t) y b) = some (sz, ys)) :
    ∃ news : List Value, Second P w sz ys.length (a.eval x) news ∧ RowE w F sz news.toArray ys ∧ ∀ v ∈ news, v.oneCell' = true := by
  have one : ∀ (news : List Value), RowE w F sz news.toArray ys → ∀ v ∈ news, v.oneCell' = true := by
    intro news hR v hv
    obtain ⟨j, hj, hjv⟩ := List.getElem_of_mem hv
    have hs := hR.1
    simp only [List.size_toArray] at hs
    obtain ⟨h1, h2, h3⟩ := divmod_lt (show j < ys.length * sz by omega)
    obtain ⟨cv, g1, g2, g3⟩ := hR.2.2 _ _ h1 h2
    rw [← h3] at g1
    simp [hj] at g1
    rw [← hjv, g1]
    exact g2.oneCell g3
  have gen : ((∃ p, a.eval x = .slice p 0 0) ∧ ys = []) ∨ (∃ b off cap, a.eval x = .slice (some ⟨b, off, none⟩) ys.length cap ∧ Reads w F b off ys.length sz ys) →
      ∃ news : List Value, Second P w sz ys.length (a.eval x) news ∧ RowE w F sz news.toArray ys ∧ ∀ v ∈ news, v.oneCell' = true := by
    rintro (⟨⟨p, hx⟩, rfl⟩ | ⟨b', off, cap, hx, hR⟩)
    · have hR : RowE w F sz ([] : List Value).toArray [] := ⟨by simp, fun i hi => by simp at hi, fun i j hi => by simp at hi⟩
      exact ⟨[], ⟨by simp, fun w1 _ => by rw [hx]; exact ⟨by simp [Builtin.lenOf], run_firstCells_empty p⟩⟩, hR, one _ hR⟩
    · obtain ⟨cs, c1, c2, c3⟩ := hR.row
      refine ⟨cs, ⟨c1, fun w1 hw => ?_⟩, c2, one _ c2⟩
      have hcell : ∀ j v, cs[j]? = some v → w1.cell? ⟨b', off + j, none⟩ = some v := fun j v hj => by
        rcases hw with rfl | rfl
        · exact c3 j v hj
        · exact c3 j v hj
      have := run_firstCells_some (P := P) w1 sz ys.length ⟨b', off, none⟩ ys.length cap cs c1 (fun j v hj => by rw [addr_add]; exact hcell j v hj)
      rw [hx]
      exact ⟨by simp [Builtin.lenOf], this⟩
  split at hr
  · rename_i l he
    simp only [Option.some.injEq, Prod.mk.injEq] at hr
    obtain ⟨rfl, rfl⟩ := hr
    obtain ⟨os, hrep, _⟩ := h.ev hc
    rw [he] at hrep
    obtain ⟨sb, hx, rfl⟩ := hrep.str_inv
    have hl : (Am.B sb.data.toList).length = sb.size := by simp [Am.B]
    have hR : RowE w F 1 (sb.data.toList.map fun b => Value.int .u8 (b.toNat : Int)).toArray (Am.B sb.data.toList) := by
      have hn : ∀ i, i < (Am.B sb.data.toList).length → nth (Am.B sb.data.toList) i = .int .u8 (sb.data.toList[i]?.getD 0).toNat := fun i hi => by
        have hi' : i < sb.data.toList.length := by simpa [Am.B] using hi
        rw [nth_eq_getElem hi]
        simp [Am.B, List.getElem?_eq_getElem hi']
      refine ⟨by simp [Am.B], fun i hi => by rw [hn i hi]; exact ⟨rfl, rfl⟩, fun i j hi hj => ?_⟩
      obtain rfl : j = 0 := by omega
      have hi' : i < sb.data.toList.length := by simpa [Am.B] using hi
      rw [hn i hi]
      refine ⟨.int .u8 (sb.data.toList[i]?.getD 0).toNat, ?_, .int _ _, rfl⟩
      simp [List.getElem?_eq_getElem hi']
    refine ⟨_, ⟨by simp [Am.B], fun w1 _ => ?_⟩, hR, one _ hR⟩
    rw [hx, hl]
    refine ⟨by simp [Builtin.lenOf], ?_⟩
    have he : sb.extract 0 sb.size = sb := by
      apply ByteArray.ext
      rw [ByteArray.data_extract, show sb.size = sb.data.size from rfl, Array.extract_size]
    simp only [Builtin.firstCells, he, Sem.run_pure]
    congr 1
    apply Array.ext'
    simp
  · exact gen (h.rdsl hc hr)

theorem OwnSl.append {blk len cap sz : Nat} {xs ys : List V} {news : List Value} (h : OwnSl w F blk len cap sz xs) (hR : RowE w F sz news.toArray ys) (hroom : len + ys.length ≤ cap) (hB : B ≤ blk) (hf : ∀ b, w.heap.size ≤ b → F b = 0) :
    OwnSl (w.setCells blk (len * sz) news) F blk (len + ys.length) cap sz (xs ++ ys) ∧ (∀ j, j < news.length → (w.cell? ⟨blk, len * sz + j, none⟩).isSome = true) ∧ (∀ j, j < news.length → w.frozen? ⟨blk, len * sz + j, none⟩ = false) := by
  obtain ⟨cur, e, fr, b1, b2, b3⟩ := h.block
  obtain ⟨r1, r2, r3⟩ := hR
  simp only [List.size_toArray] at r1
  have hE := Ext.setCells (B := B) (w := w) (F := F) (o := len * sz) news hB h.zero hf
  have hlen := h.hlen
  have hfit : len * sz + news.length ≤ cur.size := by
    have := Nat.mul_le_mul_right sz hroom
    rw [Nat.add_mul] at this
    omega
  have hsome : ∀ j, j < cur.size → (w.cell? ⟨blk, j, none⟩).isSome = true := fun j hj => by
    simp only [World.cell?, b1, Option.isSome_none, Bool.false_eq_true, if_false]
    simp [hj]
  refine ⟨⟨by simp; omega, hroom, h.zero, ⟨_, e, fr, setCells_block news _ w cur e fr b1, by rw [setA_size]; exact b2, fun o ho => ?_⟩, fun i hi => ?_, fun i j hi hj => ?_⟩, fun j hj => hsome _ (by omega), fun j hj => b3 _ (by omega)⟩
  · rw [setA_size] at ho
    rw [World.frozen?_setCells]
    exact b3 o ho
  · by_cases hx : i < xs.length
    · rw [nth_append_left hx]; exact h.elem i hx
    · obtain ⟨k, rfl⟩ := Nat.exists_eq_add_of_le (Nat.le_of_not_lt hx)
      simp only [List.length_append] at hi
      rw [nth_append_right (by omega)]
      exact r2 k (by omega)
  · by_cases hx : i < xs.length
    · rw [nth_append_left hx]
      obtain ⟨cv, c1, c2, c3⟩ := h.cell i j hx hj
      refine ⟨cv, ?_, c2.ext hE, c3⟩
      have := mul_add_lt (sz := sz) hx hj
      rw [World.cell?_setCells_out blk news (len * sz) w _ (fun _ _ => .inl (show i * sz + j < len * sz by rw [hlen]; exact this))]
      exact c1
    · obtain ⟨k, rfl⟩ := Nat.exists_eq_add_of_le (Nat.le_of_not_lt hx)
      simp only [List.length_append] at hi
      rw [nth_append_right (by omega)]
      obtain ⟨cv, c1, c2, c3⟩ := r3 k j (by omega) hj
      refine ⟨cv, ?_, c2.ext hE, c3⟩
      have hk := mul_add_lt (sz := sz) (show k < ys.length by omega) hj
      have := World.cell?_setCells_in blk news (len * sz) w (fun j hj => hsome _ (by omega)) (k * sz + j) (by omega)
      have hidx : (xs.length + k) * sz + j = len * sz + (k * sz + j) := by rw [Nat.add_mul, hlen]; omega
      rw [hidx, this]
      have c1 : news[k * sz + j]? = some cv := by simpa using c1
      rw [List.getElem?_eq_getElem (by omega)] at c1
      exact c1

theorem op_app (h : Sim B a.tmps.toList w F ρ s rest osT osH) {x1 x2 : Operand} {y1 y2 : Src} {t t2 ty e : TypeId} {b : Option Nat} {sz bytes : Nat} {i : TypeInfo} {z : Value} (hop : o.op = .call ⟨.builtin .append, #[x1, x2], #[t, t2]⟩) (hty : o.type = ty) (hc1 : chkS x1 y1 = true) (hc2 : chkS x2 y2 = true)
    (hu : P.underlying t = some (.slice e)) (h2 : listT P t2 = true) (hi : P.info? e = some i) (hsz : i.size = sz) (hby : i.bytes = bytes) (hz : i.zero = some z) (hzs : z.cells.size = sz) (hr : opRes c (nth s.t) s.h (.app sz bytes y1 y2 b) = some r) : OpOK P a o B w F ρ s rest osT osH r := by
  simp only [opRes] at hr
  split at hr
  · rename_i sz' xs he
    split at hr
    · rename_i sz'' ys hsec
      split at hr
      · rename_i hk
        obtain ⟨rfl, rfl, k3, k4⟩ := hk
        simp only [Option.some.injEq] at hr
        subst hr
        subst hsz
        obtain ⟨news, n1, n2, n3⟩ := app_second (P := P) h hc2 hsec
        obtain ⟨osT', osV, g1, g2⟩ := h.take hc1 (by rw [he]; rfl)
        rw [he] at g1
        have hrunop : ∀ cv w', (Builtin.append_ #[t, t2] ty #[a.eval x1, a.eval x2]).run P w = .ok cv w' → (execOp a.eval o).run P w = .ok (.value cv) w' := fun cv w' hh => by
          subst hty; simp [execOp, hop, resolve, invoke, builtin, hh]
        have hneed : (xs.length + ys.length) ≤ 140737488355328 := by
          have := Nat.le_mul_of_pos_right (xs.length + ys.length) (Nat.pos_of_ne_zero k4)
          omega
        have grow : ∀ (base : Option Addr) (cap : Nat) (olds : List Value), a.eval x1 = .slice base xs.length cap → xs.length ≤ cap → cap < xs.length + ys.length → olds.length = xs.length * i.size →
            (∀ w1, (w1 = w ∨ w1 = w.drew) → (Builtin.firstCells i.size xs.length (.slice base xs.length cap)).run P w1 = .ok olds.toArray w1) → RowE w F i.size olds.toArray xs →
            OpOK P a o B w F ρ s rest osT osH (.val (mvUps (nth s.t) y1) (.sl true i.size (xs ++ ys)) s.h) := by
          intro base cap olds hx hcl hgr hol hfc hRo
          have hrun := run_app_grow (P := P) (ty := ty) hu h2 hi hz n1 hfc hgr (by omega) (growslice_fits hgr (by rw [hby]; exact k3))
          rw [← hx] at hrun
          have hcap : xs.length + ys.length ≤ grownCap w (xs.length + ys.length) cap e := by unfold grownCap; simp only [Question.cut]; omega
          generalize grownCap w (xs.length + ys.length) cap e = C at hrun hcap
          generalize hzc : Builtin.zeroCells z.cells (C - (xs.length + ys.length)) = Z at hrun
          have hZs : Z.size = (C - (xs.length + ys.length)) * i.size := by rw [← hzc, size_zeroCells, hzs]
          have hE := (Ext.drew (B := B) (w := w) h.fresh).transF (Ext.alloc (B := B) (w := w.drew) h.base h.fresh (.cells (olds.toArray ++ news.toArray ++ Z) e) 0)
          have hnl := n1.1
          have hown : OwnSl (w.drew.alloc (.cells (olds.toArray ++ news.toArray ++ Z) e)) (setF F w.heap.size 0) w.heap.size (xs.length + ys.length) C i.size (xs ++ ys) := by
            refine OwnSl.new (heap_alloc_new w.drew _) (setF_self F _ _) (fun o _ => frozen_new w.drew _ _ o) (by simp) hcap ?_ (fun k hk => ?_) (fun k j hk hj => ?_)
            · simp only [Array.size_append, List.size_toArray, hZs, hol, hnl, ← Nat.add_mul]
              exact Nat.mul_le_mul_right _ (by omega)
            · by_cases hx : k < xs.length
              · rw [nth_append_left hx]; exact hRo.2.1 k hx
              · obtain ⟨m, rfl⟩ := Nat.exists_eq_add_of_le (Nat.le_of_not_lt hx)
                simp only [List.length_append] at hk
                rw [nth_append_right (by omega)]
                exact n2.2.1 m (by omega)
            · by_cases hx : k < xs.length
              · rw [nth_append_left hx]
                obtain ⟨cv, q1, q2, q3⟩ := hRo.2.2 k j hx hj
                refine ⟨cv, ?_, q2.ext hE, q3⟩
                have := mul_add_lt (sz := i.size) hx hj
                have q1 : olds[k * i.size + j]? = some cv := by simpa using q1
                simp only [Array.getElem?_append, List.size_toArray, Array.size_append, hol, List.getElem?_toArray]
                rw [if_pos (by omega), if_pos this, q1]
              · obtain ⟨m, rfl⟩ := Nat.exists_eq_add_of_le (Nat.le_of_not_lt hx)
                simp only [List.length_append] at hk
                rw [nth_append_right (by omega)]
                obtain ⟨cv, q1, q2, q3⟩ := n2.2.2 m j (by omega) hj
                refine ⟨cv, ?_, q2.ext hE, q3⟩
                have := mul_add_lt (sz := i.size) (show m < ys.length by omega) hj
                have q1 : news[m * i.size + j]? = some cv := by simpa using q1
                have hidx : (xs.length + m) * i.size + j = xs.length * i.size + (m * i.size + j) := by rw [Nat.add_mul]; omega
                simp only [Array.getElem?_append, List.size_toArray, Array.size_append, hol, hnl, List.getElem?_toArray]
                rw [hidx, if_pos (by omega), if_neg (by omega), show xs.length * i.size + (m * i.size + j) - xs.length * i.size = m * i.size + j by omega, q1]
          refine ⟨_, _, _, ρ, osT', osH, [w.heap.size], .inl (hrunop _ _ hrun), hE.weaken (fun _ _ x => x.elim), fun _ _ x => x, g1.replace hE (fun _ _ x => x) (.e _ _ _ (.own _ _ _ _ _ hown)) rfl (fun b hb => ?_) (fun b => ?_), fun b hb => ?_⟩
          · obtain rfl := List.mem_singleton.1 hb
            exact ⟨.inr (Nat.le_refl _), by simp, setF_self F _ _⟩
          · simp only [List.count_singleton]; split <;> omega
          · simp only [List.mem_append, List.mem_singleton] at hb
            rcases hb with (hb | hb) | hb
            · exact .inl (by simp [g2 b (by simp [hb])])
            · exact .inl (by simp [hb])
            · exact .inr (Nat.le_of_eq hb.symm)
        generalize hcv : a.eval x1 = cv1 at g1
        have hval := g1.val
        cases hval with
        | e _ _ _ hv =>
          cases hv with
          | d _ _ hv => cases hv
          | ownnil =>
            rcases Nat.eq_zero_or_pos ys.length with h0 | h0
            · have hy : ys = [] := List.length_eq_zero_iff.1 h0
              subst hy
              have hrun := run_app_none (P := P) (ty := ty) hu h2 hi n1
              rw [← hcv] at hrun
              refine ⟨_, w, F, ρ, osT', osH, [], .inl (hrunop _ _ hrun), Ext.refl h.fresh, fun _ _ x => x, by rw [hcv]; simpa using g1, fun b hb => .inl ?_⟩
              simp only [List.append_nil, List.mem_append] at hb ⊢
              rcases hb with hb | hb
              · exact .inl (g2 b (by simp [hb]))
              · exact .inr hb
            · exact grow none 0 [] hcv (Nat.le_refl _) (by simpa using h0) (by simp) (fun w1 _ => by simp [Builtin.firstCells]) ⟨by simp, fun i hi => by simp at hi, fun i j hi => by simp at hi⟩
          | own blk len cap _ _ hv =>
            have hlen := hv.hlen
            subst hlen
            by_cases hroom : xs.length + ys.length ≤ cap
            · have hinb := g1.inb blk (by simp)
              obtain ⟨q1, q2, q3⟩ := hv.append n2 hroom hinb.1 h.fresh
              have hst := run_storeCells_cells (P := P) blk (xs.length * i.size) news 0 w (by simpa using q2) (by simpa using q3) n3
              simp only [Nat.add_zero] at hst
              have hrun := run_app_room (P := P) (ty := ty) hu h2 hi n1 hroom hst
              rw [← hcv] at hrun
              have hE := Ext.setCells (B := B) (w := w) (F := F) (o := xs.length * i.size) news hinb.1 hinb.2.2 h.fresh
              have hone := g1.once blk
              simp only [List.count_append, List.count_cons_self, List.count_nil] at hone
              have hblk : blk ∈ osT := g2 blk (by simp)
              refine ⟨_, _, _, ρ, osT', osH, [blk], .inl (hrunop _ _ hrun), hE.weaken (fun b _ hb => ?_), fun _ _ x => x, g1.replace hE (fun b hb hbb => ?_) (.e _ _ _ (.own _ _ _ _ _ q1)) rfl (fun b hb => ?_) (fun b => ?_), fun b hb => .inl ?_⟩
              · subst hb; simp [hblk]
              · subst hbb
                have := List.count_pos_iff.2 hb
                simp only [List.count_append] at this
                omega
              · obtain rfl := List.mem_singleton.1 hb
                exact ⟨.inl hb, Nat.lt_of_lt_of_le hinb.2.1 hE.size, hinb.2.2⟩
              · simp only [List.count_singleton]; split <;> omega
              · simp only [List.mem_append, List.mem_singleton] at hb ⊢
                rcases hb with (hb | hb) | hb
                · exact .inl (g2 b (by simp [hb]))
                · exact .inr hb
                · subst hb; exact .inl hblk
            · obtain ⟨cs, c1, c2, c3⟩ := hv.reads.row
              exact grow _ cap cs hcv hv.hcap (by omega) c1 (fun w1 hw => run_firstCells_some (P := P) w1 i.size xs.length ⟨blk, 0, none⟩ xs.length cap cs c1 (fun j v hj => by
                rw [addr_add]
                rcases hw with rfl | rfl
                · exact c3 j v hj
                · exact c3 j v hj)) c2
      · cases hr
    · cases hr
  · cases hr
end
end Go.Am
