/- A law's arguments as abstract values. -/
import Derived.Test.YtbnjembcmddjoaaAm26
set_option linter.unusedVariables false
set_option linter.unusedSimpArgs false
namespace Go.Am
open Go Go.RowKit

/-- How many cells a block has. -/
def F0 (w : World) (b : Nat) : Nat := match w.heap[b]? with
  | some (.cells cur _ _) => cur.size
  | _ => 0

theorem F0_lt {w : World} {b o : Nat} {sp : Option Nat} {v : Value} (h : w.cell? ⟨b, o, none⟩ = some v) : o < F0 w b := by
  simp only [World.cell?] at h
  unfold F0
  split at h
  · rename_i c e fr hb
    rw [hb]
    simp only [Option.isSome_none, Bool.false_eq_true, if_false] at h
    exact (Array.getElem?_eq_some_iff.1 h).1
  · cases h

theorem F0_fresh (w : World) : ∀ b, w.heap.size ≤ b → F0 w b = 0 := fun b hb => by
  unfold F0
  rw [Array.getElem?_eq_none hb]

/-- An element out of its cells. -/
def mkEl (P : Program) (e : TypeId) (cs : List V) : V := if aggT P e then .agg cs else nth cs 0

def TyFs (R : TypeId → List V → Prop) : List Field → List V → Prop
  | [], cs => cs = []
  | f :: fs, cs => ∃ x y, cs = x ++ y ∧ R f.type x ∧ TyFs R fs y

def TyAs (R : List V → Prop) : Nat → List V → Prop
  | 0, cs => cs = []
  | n + 1, cs => ∃ x y, cs = x ++ y ∧ R x ∧ TyAs R n y

/-- What the cells of a plain type are (the number: how deep the data are). -/
def TyC (P : Program) : Nat → TypeId → List V → Prop
  | 0, _, _ => False
  | f + 1, t, cs => match P.underlying t with
    | some (.array n e) => TyAs (TyC P f e) n cs
    | some .bool => ∃ b, cs = [.bool b]
    | some (.int k) => ∃ n, cs = [.int k n] ∧ (Lit.int k n).wf = true
    | some .string => ∃ l, cs = [.str l] ∧ l.length ≤ maxLen
    | some (.slice e) => ∃ xs, cs = [.sl false (P.cellsOf e) xs] ∧ xs.length ≤ maxLen ∧ ∀ x ∈ xs, x = mkEl P e x.cells ∧ TyC P f e x.cells
    | some (.struct fs) => TyFs (TyC P f) fs.toList cs
    | _ => False

section
variable {H : Type} {enc : TypeId × Value → H} {P : Program} {w : World} {base : Nat} {held : Bool}

def RepCs (w : World) (cs : List Value) (vs : List V) : Prop := vs.length = cs.length ∧ ∀ j v, cs[j]? = some v → RepD w (F0 w) v (nth vs j) ∧ (nth vs j).one = true

theorem RepCs.one {v : Value} {u : V} (h : RepD w (F0 w) v u) (h1 : u.one = true) : RepCs w [v] [u] := by
  refine ⟨rfl, fun j x hj => ?_⟩
  cases j with
  | zero => simp only [List.getElem?_cons_zero, Option.some.injEq] at hj; subst hj; exact ⟨h, h1⟩
  | succ j => simp at hj

/-- The fields of a struct, one behind the other. -/
theorem open_fields {R : TypeId → List V → Prop} (cs : List Value) : ∀ (fs : List Field) (k m : Nat), cumul P k fs = some m → m ≤ cs.length →
    (∀ fl ∈ fs, ∃ vs, RepCs w ((cs.drop fl.offset).take (P.cellsOf fl.type)) vs ∧ R fl.type vs) → ∃ vs, RepCs w ((cs.drop k).take (m - k)) vs ∧ TyFs R fs vs ∧ k ≤ m
  | [], k, m, hk, hm, _ => by
    simp only [cumul, Option.some.injEq] at hk
    subst hk
    exact ⟨[], ⟨by simp, fun j v hj => by simp at hj⟩, rfl, Nat.le_refl _⟩
  | fl :: fs, k, m, hk, hm, h => by
    simp only [cumul] at hk
    split at hk
    · rename_i ho
      have ho : fl.offset = k := by simpa using ho
      obtain ⟨v1, ⟨l1, r1⟩, t1⟩ := h fl (by simp)
      obtain ⟨v2, ⟨l2, r2⟩, t2, hle⟩ := open_fields cs fs _ m hk hm (fun x hx => h x (by simp [hx]))
      rw [ho] at l1 r1
      have hl1 : v1.length = P.cellsOf fl.type := by rw [l1]; simp; omega
      have hl2 : v2.length = m - (k + P.cellsOf fl.type) := by rw [l2]; simp; omega
      refine ⟨v1 ++ v2, ⟨by simp [hl1, hl2]; omega, fun j v hj => ?_⟩, ⟨v1, v2, rfl, t1, t2⟩, by omega⟩
      by_cases hjl : j < v1.length
      · rw [nth_append_left hjl]
        refine r1 j v ?_
        rw [← hj]
        have : j < m - k := by omega
        rw [List.getElem?_take_of_lt (by omega), List.getElem?_take_of_lt this]
      · obtain ⟨i, rfl⟩ := Nat.exists_eq_add_of_le (Nat.le_of_not_lt hjl)
        have hjm : v1.length + i < m - k := by
          have := (List.getElem?_eq_some_iff.1 hj).1
          simp at this
          omega
        rw [nth_append_right (by omega)]
        refine r2 i v ?_
        rw [← hj, List.getElem?_take_of_lt (by omega), List.getElem?_take_of_lt hjm, List.getElem?_drop, List.getElem?_drop, hl1, Nat.add_assoc]
    · cases hk

/-- The elements of an array, one behind the other. -/
theorem open_pieces {R : List V → Prop} (cs : List Value) (c : Nat) : ∀ (n k : Nat), (k + n) * c ≤ cs.length →
    (∀ i, k ≤ i → i < k + n → ∃ vs, RepCs w ((cs.drop (i * c)).take c) vs ∧ R vs) → ∃ vs, RepCs w ((cs.drop (k * c)).take (n * c)) vs ∧ TyAs R n vs
  | 0, k, _, _ => ⟨[], ⟨by simp, fun j v hj => by simp at hj⟩, rfl⟩
  | n + 1, k, hm, h => by
    obtain ⟨v1, ⟨l1, r1⟩, t1⟩ := h k (by omega) (by omega)
    obtain ⟨v2, ⟨l2, r2⟩, t2⟩ := open_pieces cs c n (k + 1) (by rw [show k + 1 + n = k + (n + 1) by omega]; exact hm) (fun i h1 h2 => h i (by omega) (by omega))
    have e0 : (k + (n + 1)) * c = k * c + (n + 1) * c := Nat.add_mul _ _ _
    have e1 : (n + 1) * c = n * c + c := Nat.succ_mul _ _
    have e2 : (k + 1) * c = k * c + c := Nat.succ_mul _ _
    have hl1 : v1.length = c := by rw [l1]; simp; omega
    have hl2 : v2.length = n * c := by rw [l2]; simp; omega
    refine ⟨v1 ++ v2, ⟨by simp [hl1, hl2]; omega, fun j v hj => ?_⟩, ⟨v1, v2, rfl, t1, t2⟩⟩
    by_cases hjl : j < v1.length
    · rw [nth_append_left hjl]
      refine r1 j v ?_
      rw [← hj]
      rw [List.getElem?_take_of_lt (by omega), List.getElem?_take_of_lt (by omega)]
    · obtain ⟨i, rfl⟩ := Nat.exists_eq_add_of_le (Nat.le_of_not_lt hjl)
      have hjm : v1.length + i < (n + 1) * c := by
        have := (List.getElem?_eq_some_iff.1 hj).1
        simp at this
        omega
      rw [nth_append_right (by omega)]
      refine r2 i v ?_
      rw [← hj, List.getElem?_take_of_lt (by omega), List.getElem?_take_of_lt hjm, List.getElem?_drop, List.getElem?_drop, hl1, e2, Nat.add_assoc]

theorem cell_spot {a : Addr} {v : Value} (h : w.cell? a = some v) : a = ⟨a.block, a.off, none⟩ := by
  cases a with
  | mk b o sp =>
    simp only [World.cell?] at h
    split at h
    · split at h
      · cases h
      · rename_i hs
        cases sp with
        | none => rfl
        | some _ => simp at hs
    · cases h

theorem mapM_choose {α : Type} {p : Nat → α → Prop} : ∀ (n : Nat), (∀ i, i < n → ∃ x, p i x) → ∃ l : List α, l.length = n ∧ ∀ i x, l[i]? = some x → p i x
  | 0, _ => ⟨[], rfl, fun i x h => by simp at h⟩
  | n + 1, h => by
    obtain ⟨l, h1, h2⟩ := mapM_choose n (fun i hi => h i (by omega))
    obtain ⟨x, hx⟩ := h n (by omega)
    refine ⟨l ++ [x], by simp [h1], fun i y hy => ?_⟩
    by_cases hi : i < l.length
    · rw [List.getElem?_append_left hi] at hy
      exact h2 i y hy
    · rw [List.getElem?_append_right (by omega)] at hy
      have : i - l.length = 0 := by
        have := (List.getElem?_eq_some_iff.1 hy).1
        simp at this
        omega
      rw [this] at hy
      simp only [List.getElem?_cons_zero, Option.some.injEq] at hy
      subst hy
      have : i = n := by omega
      subst this
      exact hx

theorem mkEl_cells {e : TypeId} {vs : List V} {cs : List Value} (h : RepCs w cs vs) (hl : aggT P e = false → vs.length = 1) : (mkEl P e vs).cells = vs ∧ (mkEl P e vs).data = true := by
  unfold mkEl
  split
  · exact ⟨rfl, rfl⟩
  · rename_i ha
    have h1 := hl (by simpa using ha)
    match vs, h1 with
    | [v], _ =>
      obtain ⟨hlen, hr⟩ := h
      have hone : v.one = true := by
        match cs, hlen with
        | [c], _ => exact (hr 0 c rfl).2
      exact ⟨V.one_cells hone, V.one_data hone⟩

theorem plain_one {f : Nat} {t : TypeId} {vs : List V} (ha : aggT P t = false) (h : TyC P f t vs) : vs.length = 1 := by
  cases f with
  | zero => exact h.elim
  | succ f =>
    simp only [TyC] at h
    unfold aggT at ha
    split at h
    · rename_i hu; rw [hu] at ha; cases ha
    · obtain ⟨b, rfl⟩ := h; rfl
    · obtain ⟨b, rfl, _⟩ := h; rfl
    · obtain ⟨b, rfl, _⟩ := h; rfl
    · obtain ⟨b, rfl, _⟩ := h; rfl
    · rename_i fs hu; rw [hu] at ha; cases ha
    · exact h.elim

theorem open_cells {S : List TypeId} (hS : plainS P S = true) : ∀ (n : Nat) (t : TypeId) (cs : List Value) (x : DataW H × List MemPlace), S.contains t = true → DataW.trod enc P w base (fun _ => true) held n t cs = some x → ∃ vs, RepCs w cs vs ∧ TyC P n t vs := by
  intro n
  induction n with
  | zero => intro t cs x hp h; simp [DataW.trod] at h
  | succ n ih =>
    intro t cs x ht h
    have hp := plainS_at hS ht
    simp only [plainIn] at hp
    split at hp
    · rename_i hu
      obtain ⟨b, rfl, rfl⟩ := DataW.trod_bool hu h
      exact ⟨[.bool b], RepCs.one (.bool b) rfl, by simp [TyC, hu]⟩
    · rename_i k hu
      obtain ⟨m, rfl, rfl, hwf⟩ := DataW.trod_int hu h
      exact ⟨[.int k m], RepCs.one (.int k m) rfl, by simp [TyC, hu, hwf]⟩
    · rename_i hu
      obtain ⟨b, rfl, rfl, hl⟩ := DataW.trod_string hu h
      exact ⟨[.str b.data.toList], RepCs.one (.str b _ rfl) rfl, by simp only [TyC, hu]; exact ⟨_, rfl, by simpa using hl⟩⟩
    · rename_i e hu
      simp only [Bool.and_eq_true, decide_eq_true_eq] at hp
      rcases DataW.trod_slice hu h with ⟨rfl, rfl⟩ | ⟨a, len, cap, elems, rest, n', hn, rfl, rfl, hb, hl, hm, hlen, hel, hrs, _⟩
      · exact ⟨[.sl false (P.cellsOf e) []], RepCs.one (.slnil none _) rfl, by simp only [TyC, hu]; exact ⟨[], rfl, by simp, fun x hx => by cases hx⟩⟩
      · obtain rfl : n' = n := by omega
        obtain ⟨hrl, hr⟩ := hrs rfl
        by_cases hc0 : cap = 0
        · have hl0 : len = 0 := by omega
          subst hc0; subst hl0
          exact ⟨[.sl false (P.cellsOf e) []], RepCs.one (.slnil (some a) _) rfl, by simp only [TyC, hu]; exact ⟨[], rfl, by simp, fun x hx => by cases hx⟩⟩
        · -- every place up to cap holds a cell
          have hcell : ∀ i, i < cap → ∃ ecs y, w.cells? base (a.add (i * P.cellsOf e)) (P.cellsOf e) = some ecs ∧ DataW.trod enc P w base (fun _ => true) held n' e ecs = some y := by
            intro i hi
            by_cases hil : i < len
            · have := hel i hil
              rw [List.getElem?_eq_getElem (by omega), Option.bind_eq_some_iff] at this
              obtain ⟨ecs, h1, h2⟩ := this
              exact ⟨ecs, _, h1, h2⟩
            · have := hr (i - len) (by omega)
              rw [List.getElem?_eq_getElem (by omega), Option.bind_eq_some_iff] at this
              obtain ⟨ecs, h1, h2⟩ := this
              rw [show len + (i - len) = i by omega] at h1
              exact ⟨ecs, _, h1, h2⟩
          have hspot : a = ⟨a.block, a.off, none⟩ := by
            obtain ⟨ecs, y, h1, _⟩ := hcell 0 (by omega)
            obtain ⟨_, h2, h3⟩ := World.cells?_some h1
            have h4 := h3 0 hp.2
            rw [List.getElem?_eq_getElem (by omega)] at h4
            have h0 : (a.add (0 * P.cellsOf e)).add 0 = a := by simp [Addr.add]
            rw [h0] at h4
            exact cell_spot h4
          have hel2 : ∀ i, i < len → ∃ u : List V, ∃ ecs, w.cells? base (a.add (i * P.cellsOf e)) (P.cellsOf e) = some ecs ∧ RepCs w ecs u ∧ TyC P n' e u := by
            intro i hi
            obtain ⟨ecs, y, h1, h2⟩ := hcell i (by omega)
            obtain ⟨u, h3, h4⟩ := ih e ecs y hp.1 h2
            exact ⟨u, ecs, h1, h3, h4⟩
          obtain ⟨us, ul, hus⟩ := mapM_choose len hel2
          have hat : ∀ i (hi : i < len), ∃ ecs, w.cells? base (a.add (i * P.cellsOf e)) (P.cellsOf e) = some ecs ∧ RepCs w ecs us[i] ∧ TyC P n' e us[i] := fun i hi => hus i _ (List.getElem?_eq_getElem (by omega))
          have hmk : ∀ i (hi : i < len), (mkEl P e us[i]).cells = us[i] ∧ (mkEl P e us[i]).data = true := fun i hi => by
            obtain ⟨ecs, _, h2, h3⟩ := hat i hi
            exact mkEl_cells h2 (fun ha => plain_one ha h3)
          have hlu : ∀ i (hi : i < len), us[i].length = P.cellsOf e := fun i hi => by
            obtain ⟨ecs, h1, h2, _⟩ := hat i hi
            rw [h2.1]
            exact (World.cells?_some h1).2.1
          have hnth : ∀ i (hi : i < len), nth (us.map (mkEl P e)) i = mkEl P e us[i] := fun i hi => by
            rw [nth_eq_getElem (by simp; omega)]
            simp
          have hwc : ∀ i j (hi : i < len), j < P.cellsOf e → ∃ cv, w.cell? ⟨a.block, a.off + i * P.cellsOf e + j, none⟩ = some cv ∧ RepD w (F0 w) cv (nth us[i] j) ∧ (nth us[i] j).one = true := by
            intro i j hi hj
            obtain ⟨ecs, h1, h2, _⟩ := hat i hi
            obtain ⟨_, h3, h4⟩ := World.cells?_some h1
            have h5 := h4 j hj
            rw [List.getElem?_eq_getElem (by omega), hspot, addr_add, addr_add] at h5
            exact ⟨_, h5, h2.2 j _ (List.getElem?_eq_getElem (by omega))⟩
          have hend : a.off + len * P.cellsOf e ≤ F0 w a.block := by
            by_cases hl0 : len = 0
            · subst hl0
              obtain ⟨ecs, y, h1, _⟩ := hcell 0 (by omega)
              obtain ⟨_, h3, h4⟩ := World.cells?_some h1
              have h5 := h4 0 hp.2
              rw [List.getElem?_eq_getElem (by omega), hspot, addr_add, addr_add] at h5
              have := F0_lt (sp := none) h5
              omega
            · obtain ⟨cv, h1, _⟩ := hwc (len - 1) (P.cellsOf e - 1) (by omega) (by omega)
              have := F0_lt (sp := none) h1
              have e1 : len * P.cellsOf e = (len - 1) * P.cellsOf e + P.cellsOf e := by
                conv => lhs; rw [show len = (len - 1) + 1 by omega]
                rw [Nat.succ_mul]
              omega
          refine ⟨[.sl false (P.cellsOf e) (us.map (mkEl P e))], RepCs.one ?_ rfl, ?_⟩
          · rw [hspot]
            refine .sl a.block a.off len cap (P.cellsOf e) _ (fun i j => (w.cell? ⟨a.block, a.off + i * P.cellsOf e + j, none⟩).getD undef) (by simp [ul]) hl (by simpa [ul] using hend) (fun i hi => ?_) (fun i j hi hj => ?_) (fun i j hi hj => ?_) (fun i j hi hj => ?_)
            · simp only [List.length_map, ul] at hi
              rw [hnth i hi, (hmk i hi).1]
              exact ⟨hlu i hi, (hmk i hi).2⟩
            · simp only [List.length_map, ul] at hi
              obtain ⟨cv, h1, _⟩ := hwc i j hi hj
              simp [h1]
            · simp only [List.length_map, ul] at hi
              obtain ⟨cv, _, _, h3⟩ := hwc i j hi hj
              rw [hnth i hi, (hmk i hi).1]
              exact h3
            · simp only [List.length_map, ul] at hi
              obtain ⟨cv, h1, h2, _⟩ := hwc i j hi hj
              rw [hnth i hi, (hmk i hi).1]
              simp only [h1, Option.getD_some]
              exact h2
          · simp only [TyC, hu]
            refine ⟨_, rfl, by simp [ul]; omega, fun x hx => ?_⟩
            simp only [List.mem_map] at hx
            obtain ⟨u, hu', rfl⟩ := hx
            obtain ⟨i, hi, rfl⟩ := List.getElem_of_mem hu'
            rw [ul] at hi
            rw [(hmk i hi).1]
            obtain ⟨_, _, _, h3⟩ := hat i hi
            exact ⟨rfl, h3⟩
    · rename_i fs hu
      simp only [Bool.and_eq_true, beq_iff_eq] at hp
      obtain ⟨xs, n', hn, rfl, hl, hlen, hf⟩ := DataW.trod_struct hu h
      obtain rfl : n' = n := by omega
      obtain ⟨vs, h1, h2, _⟩ := open_fields (w := w) (R := TyC P n') cs fs.toList 0 (P.cellsOf t) hp.1 (by omega) (fun fl hfl => by
        obtain ⟨i, hi, hfi⟩ := List.getElem_of_mem hfl
        have hfi' : fs[i]? = some fl := by
          rw [← hfi]
          simp at hi ⊢
        have hx := hf i fl hfi'
        have hi' : i < xs.length := by simp at hi; omega
        rw [List.getElem?_eq_getElem hi'] at hx
        exact ih fl.type _ _ (List.all_eq_true.1 hp.2 fl hfl) hx)
      refine ⟨vs, ?_, by simp only [TyC, hu]; exact h2⟩
      rw [List.drop_zero, Nat.sub_zero, ← hl, List.take_length] at h1
      exact h1
    · rename_i m e hu
      simp only [Bool.and_eq_true, decide_eq_true_eq, beq_iff_eq] at hp
      obtain ⟨xs, n', hn, rfl, hl, hlen, hf⟩ := DataW.trod_array hu h
      obtain rfl : n' = n := by omega
      obtain ⟨vs, h1, h2⟩ := open_pieces (w := w) (R := TyC P n' e) cs (P.cellsOf e) m 0 (by rw [Nat.zero_add, hp.2]; omega) (fun i _ hi => by
        have hx := hf i (by omega)
        have hi' : i < xs.length := by omega
        rw [List.getElem?_eq_getElem hi'] at hx
        exact ih e _ _ hp.1.1 hx)
      refine ⟨vs, ?_, by simp only [TyC, hu]; exact h2⟩
      rw [Nat.zero_mul, List.drop_zero, hp.2, ← hl, List.take_length] at h1
      exact h1
    · cases hp

/-- One argument. -/
theorem open_arg {S : List TypeId} (hS : plainS P S = true) {t : TypeId} {v : Value} {d : DataW H} {ps : List MemPlace} {r : Reach} {b0 : Nat} (hp : S.contains t = true) (hval : Value.okWide P w r b0 t v) (h : DataW.Trod enc P w base (fun _ => true) held t v d ps) :
    ∃ u, RepD w (F0 w) v u ∧ u = mkEl P t u.cells ∧ ∃ f, TyC P f t u.cells := by
  obtain ⟨n, hn⟩ := h
  obtain ⟨vs, hr, ht⟩ := open_cells hS n t _ _ hp hn
  by_cases ha : aggT P t = true
  · have hag : ∃ cs, v = .agg cs := by
      unfold aggT at ha
      unfold Value.okWide at hval
      split at ha
      · rename_i hu; rw [hu] at hval; obtain ⟨cs, h1, _⟩ := hval; exact ⟨cs, h1⟩
      · rename_i hu; rw [hu] at hval; obtain ⟨cs, h1, _⟩ := hval; exact ⟨cs, h1⟩
      · cases ha
    obtain ⟨cs, rfl⟩ := hag
    have hlen : vs.length = cs.size := by simpa [Value.cells] using hr.1
    refine ⟨.agg vs, .agg cs vs hlen.symm (fun j hj => ?_) (fun j hj => ?_), by simp [mkEl, ha, V.cells], n, ht⟩
    · exact (hr.2 j cs[j] (by simp [Value.cells, show j < cs.size by omega])).2
    · exact (hr.2 j cs[j] (by simp [Value.cells, hj])).1
  · have ha' : aggT P t = false := by simpa using ha
    have h1 := plain_one ha' ht
    match vs, h1 with
    | [u], _ =>
      have hc : v.cells = #[v] := by
        cases v with
        | agg cs =>
          exfalso
          unfold Value.okWide at hval
          unfold aggT at ha'
          split at hval
          · rename_i hu; rw [hu] at ha'; cases ha'
          · rename_i hu; rw [hu] at ha'; cases ha'
          · unfold Cell.okWide at hval
            split at hval <;> first | (rename_i hh; cases hh; done) | (unfold Cell.ok at hval; split at hval <;> first | exact hval | (rename_i hh; cases hh))
        | _ => rfl
      have hu := hr.2 0 v (by rw [hc]; rfl)
      simp only [nth] at hu
      have hone := V.one_cells hu.2
      exact ⟨u, hu.1, by rw [hone]; simp [mkEl, ha', nth], n, by rw [hone]; exact ht⟩

/-- All arguments. -/
inductive TyArgs (P : Program) : List TypeId → List V → Prop
  | nil : TyArgs P [] []
  | cons (t : TypeId) (u : V) (ts : List TypeId) (us : List V) : u.data = true → u = mkEl P t u.cells → (∃ f, TyC P f t u.cells) → TyArgs P ts us → TyArgs P (t :: ts) (u :: us)

theorem open_args {S : List TypeId} (hS : plainS P S = true) {r : Reach} {b0 : Nat} : ∀ {ts : List TypeId} {vs : List Value} {ds : List (DataW H)} {ps : List MemPlace}, ts.all S.contains = true → (∀ (j : Nat) t v, ts[j]? = some t → vs[j]? = some v → Value.okWide P w r b0 t v) →
    DataW.TrodAll enc P w base (fun _ => true) held ts vs ds ps → ∃ us, RepL (RepV w (F0 w) []) vs us [] ∧ TyArgs P ts us
  | [], [], [], ps, _, _, _ => ⟨[], .nil, .nil⟩
  | t :: ts, v :: vs, d :: ds, ps, hp, hval, ⟨p, q, h1, h2, _⟩ => by
    simp only [List.all_cons, Bool.and_eq_true] at hp
    obtain ⟨u, a1, a2, a3⟩ := open_arg hS hp.1 (hval 0 t v rfl rfl) h1
    obtain ⟨us, b1, b2⟩ := open_args hS hp.2 (fun j t v h h' => hval (j + 1) t v h h') h2
    exact ⟨u :: us, .cons _ _ _ _ [] [] (.e _ _ _ (.d _ _ a1)) b1, .cons _ _ _ _ a1.data a2 a3 b2⟩
end
end Go.Am
