/- Stores, new variables, and what only computes. -/
import Derived.Test.YtbnjembcmddjoaaAm8
set_option linter.unusedVariables false
set_option linter.unusedSimpArgs false
namespace Go.Am
open Go Go.RowKit

theorem ups_append (t : List V) (u1 u2 : List (Nat × V × Bool)) : ups t (u1 ++ u2) = ups (ups t u1) u2 := by
  induction u1 generalizing t with
  | nil => rfl
  | cons u u1 ih => exact ih _

section
variable {P : Program} {a : Act} {o : Oper} {B : Nat} {w : World} {F : Nat → Nat} {ρ : List Nat} {s : St} {rest osT osH : List Nat} {c : CallF} {r : Rs}

theorem OwnSl.store1 {blk len cap off : Nat} {xs : List V} {cv : Value} {v : V} (h : OwnSl w F blk len cap 1 xs) (hl : off < xs.length) (hv : RepD w F cv v) (h1 : v.one = true) (hB : B ≤ blk) (hf : ∀ b, w.heap.size ≤ b → F b = 0) :
    OwnSl (w.setCells blk off [cv]) F blk len cap 1 (upd xs off v) ∧ (w.cell? ⟨blk, off, none⟩).isSome = true ∧ w.frozen? ⟨blk, off, none⟩ = false := by
  obtain ⟨cur, e, fr, b1, b2, b3⟩ := h.block
  have hE := Ext.setCells (B := B) (w := w) (F := F) (o := off) [cv] hB h.zero hf
  have hcur : off < cur.size := by have := h.hcap; have := h.hlen; omega
  have hsome : ∀ j, j < cur.size → (w.cell? ⟨blk, j, none⟩).isSome = true := fun j hj => by
    simp only [World.cell?, b1, Option.isSome_none, Bool.false_eq_true, if_false]
    simp [hj]
  have hin := World.cell?_setCells_in blk [cv] off w (fun j hj => by
    obtain rfl : j = 0 := by simpa using hj
    simpa using hsome off hcur) 0 (by simp)
  refine ⟨⟨by rw [upd_length]; exact h.hlen, h.hcap, h.zero, ⟨setA cur off [cv], e, fr, setCells_block [cv] off w cur e fr b1, by rw [setA_size]; exact b2, fun o ho => ?_⟩, fun i hi => ?_, fun i j hi hj => ?_⟩, hsome off hcur, b3 off hcur⟩
  · rw [setA_size] at ho
    rw [World.frozen?_setCells]
    exact b3 o ho
  · rw [upd_length] at hi
    by_cases hio : off = i
    · subst hio; rw [nth_upd_self hl, V.one_cells h1]; exact ⟨rfl, V.one_data h1⟩
    · rw [nth_upd_ne hio]; exact h.elem i hi
  · rw [upd_length] at hi
    obtain rfl : j = 0 := by omega
    by_cases hio : off = i
    · subst hio
      rw [nth_upd_self hl, nth_cells_one h1]
      exact ⟨cv, by simpa using hin, hv.ext hE, h1⟩
    · rw [nth_upd_ne hio]
      obtain ⟨cv', c1, c2, c3⟩ := h.cell i 0 hi hj
      refine ⟨cv', ?_, c2.ext hE, c3⟩
      rw [World.cell?_setCells_out blk [cv] off w _ (fun _ _ => by simp; omega)]
      exact c1

theorem SimV.storeSl {cv : Value} {v : V} (h : Sim B a.tmps.toList w F ρ s rest osT osH) {d blk len cap off : Nat} {xs : List V} (hd : nth s.t d = .sl true 1 xs)
    (hcv : a.tmps.toList[d]? = some (.slice (some ⟨blk, 0, none⟩) len cap)) (hv : RepD w F cv v) (h1 : v.one = true) (hl : off < xs.length) :
    SimV B a.tmps.toList (w.setCells blk off [cv]) F ρ (upd s.t d (.sl true 1 (upd xs off v))) s.h undef (.tup []) rest osT osH [] ∧
      Ext B w F (w.setCells blk off [cv]) F (fun b => b = blk) ∧ blk ∈ osT ∧ (w.cell? ⟨blk, off, none⟩).isSome = true ∧ w.frozen? ⟨blk, off, none⟩ = false := by
  obtain ⟨o1, o2, g2, g3, g4⟩ := h.slot_own hd hcv
  have hbT : blk ∈ osT := by rw [g2]; simp
  have hinb := h.inb blk (by simp [hbT])
  have hone := h.once blk
  rw [g2] at hone
  simp only [List.count_append, List.count_cons_self, List.count_nil] at hone
  have hE := Ext.setCells (B := B) (w := w) (F := F) (o := off) [cv] hinb.1 hinb.2.2 h.fresh
  obtain ⟨q1, q2, q3⟩ := g3.store1 hl hv h1 hinb.1 h.fresh
  have hT := g4 (RepV (w.setCells blk off [cv]) F ρ) (.sl true 1 (upd xs off v)) [blk] (fun cv v o r hm => r.ext hE (fun _ _ x => x)
    (fun b hb => (h.inb b (by rw [g2]; have := hm b hb; simp only [List.mem_append] at this ⊢; rcases this with x | x <;> simp [x])).2.1)
    (fun b hb hbb => by
      subst hbb
      have := List.count_pos_iff.2 (hm b hb)
      simp only [List.count_append] at this
      omega)) (.e _ _ _ (.own _ _ _ _ _ q1))
  rw [← g2] at hT
  refine ⟨⟨hT, h.heap.ext hE (fun b hb hbb => ?_), h.alias.view (fl := false) rfl (.inr ⟨(fun ⟨cs, hh⟩ => by rw [hd] at hh; cases hh), fun _ => ⟨_, _, rfl⟩⟩), .tup [] [] [] .nil, trivial, fun b => ?_, fun b hb => ?_, hE.fresh, Nat.le_trans h.base hE.size⟩, hE, hbT, q2, q3⟩
  · subst hbb
    have := List.count_pos_iff.2 hb
    omega
  · have := h.once b
    simp only [List.count_append, List.count_nil] at this ⊢
    omega
  · obtain ⟨b1, b2, b3⟩ := h.inb b (by simp only [List.mem_append] at hb ⊢; rcases hb with ((hb | hb) | hb) | hb <;> first | (simp [hb]; done) | cases hb)
    exact ⟨b1, Nat.lt_of_lt_of_le b2 hE.size, b3⟩

theorem run_store_op {t : TypeId} {x v : Operand} {b off n : Nat} {cv : Value} (hop : o.op = .store t x v) (hx : a.eval x = .pointer (some ⟨b, off, none⟩)) (hv : a.eval v = cv) (hs : szT P t = some n) (hn : cv.cells.size = n)
    (hc : ∀ j, j < cv.cells.toList.length → (w.cell? ⟨b, off + j, none⟩).isSome = true) (hf : ∀ j, j < cv.cells.toList.length → w.frozen? ⟨b, off + j, none⟩ = false)
    (h1 : ∀ v ∈ cv.cells.toList, v.oneCell' = true) : (execOp a.eval o).run P w = .ok .skip (w.setCells b off cv.cells.toList) := by
  subst hn
  have := run_storeVar (P := P) hs (fun j hj => hc j (by simpa using hj)) (fun j hj => hf j (by simpa using hj)) h1
  simp [execOp, hop, hx, hv, Instr.storeAt, Instr.sureAddr, this]

theorem RepV.cellsE {cv : Value} {v : V} {os : List Nat} (h : RepV w F ρ cv v os) (hv : v.data = true ∨ ∃ sz xs, v = .sl true sz xs) : RepL (RepC w F) cv.cells.toList v.cells os := by
  rcases hv with hv | ⟨sz, xs, rfl⟩
  · have := h.os_nil (by cases v <;> first | rfl | cases hv | (rename_i o _ _; cases o <;> first | rfl | cases hv))
    subst this
    exact (h.data hv).cellsL
  · cases h with
    | e _ _ _ h =>
      have h1 : cv.oneCell' = true ∧ cv.cells = #[cv] := by
        cases h with
        | d _ _ h => cases h
        | ownnil => exact ⟨rfl, rfl⟩
        | own => exact ⟨rfl, rfl⟩
      rw [h1.2]
      have := RepL.cons (R := RepC w F) cv (.sl true sz xs) [] [] os [] ⟨h, h1.1, fun hd => by cases hd⟩ .nil
      simpa [V.cells] using this

theorem op_st (h : Sim B a.tmps.toList w F ρ s rest osT osH) {x v : Operand} {y z : Src} {t : TypeId} {n : Nat} {tr : Bool} {b : Option Nat} (hop : o.op = .store t x v) (hc : chkS x y = true) (hcv : chkS v z = true)
    (hs : szT P t = some n) (hr : opRes c (nth s.t) s.h (.st y z n tr b) = some r) : OpOK P a o B w F ρ s rest osT osH r := by
  simp only [opRes] at hr
  cases hst : stVal (nth s.t) z tr with
  | none => rw [hst] at hr; cases hr
  | some q =>
    obtain ⟨wv, us⟩ := q
    rw [hst] at hr
    simp only at hr
    split at hr
    · rename_i hlen
      -- what is stored, and the slots behind it
      have hval : ∃ osT1 osV, SimV B a.tmps.toList w F ρ (ups s.t us) s.h (a.eval v) wv rest osT1 osH osV ∧ (∀ b ∈ osT1 ++ osV, b ∈ osT) ∧ RepL (RepC w F) (a.eval v).cells.toList wv.cells osV ∧
          (∀ d cs, nth s.t d = .box cs → nth (ups s.t us) d = .box cs) ∧ (tr = false → osT1 = osT ∧ us = [] ∧ RepD w F (a.eval v) wv) := by
        unfold stVal at hst
        split at hst
        · rename_i sz xs he
          split at hst
          · simp only [Option.some.injEq, Prod.mk.injEq] at hst
            obtain ⟨rfl, rfl⟩ := hst
            obtain ⟨osT1, osV, g1, g2⟩ := h.take hcv (by rw [he]; rfl)
            rw [he] at g1
            refine ⟨osT1, osV, g1, g2, g1.val.cellsE (.inr ⟨_, _, rfl⟩), fun d cs hd => ?_, fun hnil => ?_⟩
            · cases z with
              | t i =>
                simp only [Am.ev] at he
                have hl : (nth s.t i).lin = true := by rw [he]; rfl
                have hne : i ≠ d := fun hh => by rw [hh, hd] at he; cases he
                have : ups s.t (mvUps (nth s.t) (.t i)) = ups1 s.t (i, .undef, (nth s.t i).owner) := by simp only [mvUps, hl, if_true]; rfl
                rw [this, he]
                simp only [V.owner, ups1]
                rw [nth_upd_ne hne, nth_map_killb, hd]
                rfl
              | c v => exact hd
              | f g => exact hd
            · rename_i htr; rw [hnil] at htr; cases htr
          · cases hst
        · rename_i he
          split at hst
          · rename_i hd
            simp only [Option.some.injEq, Prod.mk.injEq] at hst
            obtain ⟨rfl, rfl⟩ := hst
            obtain ⟨os, hrep, _⟩ := h.ev hcv
            have hD := hrep.data hd
            exact ⟨osT, [], h.val (.e _ _ _ (.d _ _ hD)) (aliasV_of (data_isAl hd)), fun b hb => by simpa using hb, hD.cellsL, fun _ _ x => x, fun _ => ⟨rfl, rfl, hD⟩⟩
          · cases hst
      obtain ⟨osT1, osV, g1, g2, g3, g4, g5⟩ := hval
      have hvl := g3.length
      have hcsz : (a.eval v).cells.size = n := by rw [← hlen]; simpa using hvl
      have hone : ∀ v' ∈ (a.eval v).cells.toList, v'.oneCell' = true := g3.mem_imp fun _ _ _ r => r.2.1
      split at hr
      · rename_i d off hp
        obtain ⟨blk, hx, hh⟩ := h.place_slot hc hp
        split at hr
        · rename_i cs hd
          split at hr
          · rename_i hl
            simp only [Option.some.injEq] at hr
            subst hr
            have hv : a.tmps.toList[d]? = some (.pointer (some ⟨blk, 0, none⟩)) := by
              rcases hh with ⟨_, hv⟩ | ⟨⟨sz, xs, hd'⟩, _⟩
              · exact hv
              · rw [hd] at hd'; cases hd'
            obtain ⟨osT', q1, q2, q3, q4, q5, q6⟩ := g1.storeBox (g4 d cs hd) hv g3 (by rw [hlen]; exact hl)
            refine ⟨undef, _, F, ρ, osT', osH, [], .inr ⟨run_store_op hop hx rfl hs hcsz q5 q6 hone, rfl⟩, q3.weaken (fun b _ hb => ?_), fun _ _ x => x, ?_, fun b hb => .inl ?_⟩
            · subst hb; exact List.mem_append_left _ (g2 _ (List.mem_append_left _ q4))
            · rw [ups_append]; exact q1
            · simp only [List.append_nil, List.mem_append] at hb ⊢
              rcases hb with hb | hb
              · have := count_le_of (l := osT') (m := osT1 ++ osV) (b := b) (fun x => by have := q2 x; simp only [List.count_append]; omega) hb
                exact .inl (g2 b this)
              · exact .inr hb
          · cases hr
        · rename_i cs hd
          split at hr
          · rename_i hl
            obtain ⟨rfl, rfl, hw1, hl⟩ := hl
            simp only [Option.some.injEq] at hr
            subst hr
            obtain ⟨_, _, hD⟩ := g5 rfl
            rcases hh with ⟨⟨cs', hd'⟩, _⟩ | ⟨_, len, cap, hv⟩
            · rw [hd] at hd'; cases hd'
            · obtain ⟨q1, q2, q3, q4, q5⟩ := SimV.storeSl h hd hv hD hw1 hl
              have hcells : (a.eval v).cells = #[a.eval v] := hD.cells_one hw1
              have hrun := run_store_op (P := P) (w := w) hop hx rfl hs hcsz (fun j hj => by rw [hcells] at hj; have e : j = 0 := (by simpa using hj); subst e; simpa using q4)
                (fun j hj => by rw [hcells] at hj; have e : j = 0 := (by simpa using hj); subst e; simpa using q5) hone
              rw [hcells] at hrun
              exact ⟨undef, _, F, ρ, osT, osH, [], .inr ⟨hrun, rfl⟩, q2.weaken (fun b _ hb => by subst hb; exact List.mem_append_left _ q3), fun _ _ x => x, q1, fun b hb => .inl (by simpa using hb)⟩
          · cases hr
        · cases hr
      · rename_i id off hp
        obtain ⟨blk, hid, hx⟩ := h.place_obj hc hp
        split at hr
        · rename_i hl
          simp only [Option.some.injEq] at hr
          subst hr
          have hidlt : id < s.h.length := by
            have := h.heap.length
            rcases Nat.lt_or_ge id ρ.length with h' | h'
            · omega
            · rw [List.getElem?_eq_none h'] at hid; cases hid
          obtain ⟨osH', q1, q2, q3, q4, q5, q6⟩ := g1.storeObj hid hidlt g3 (by rw [hlen]; exact hl)
          refine ⟨undef, _, F, ρ, osT1, osH', [], .inr ⟨run_store_op hop hx rfl hs hcsz q5 q6 hone, rfl⟩, q3.weaken (fun b _ hb => by subst hb; exact List.mem_append_right _ q4), fun _ _ x => x, q1, fun b hb => .inl ?_⟩
          simp only [List.append_nil, List.mem_append] at hb ⊢
          rcases hb with hb | hb
          · exact .inl (g2 b (List.mem_append_left _ hb))
          · have := count_le_of (l := osH') (m := osH ++ osV) (b := b) (fun x => by have := q2 x; simp only [List.count_append]; omega) hb
            simp only [List.mem_append] at this
            rcases this with x | x
            · exact .inr x
            · exact .inl (g2 b (List.mem_append_right _ x))
        · cases hr
      · cases hr
    · cases hr
end
end Go.Am
