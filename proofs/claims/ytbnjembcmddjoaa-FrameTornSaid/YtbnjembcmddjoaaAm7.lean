/- Each operation of the abstract machine is what the model's operation does: the world stays. -/
import Derived.Test.YtbnjembcmddjoaaAm6
set_option linter.unusedVariables false
set_option linter.unusedSimpArgs false
namespace Go.Am
open Go Go.RowKit

section
variable {P : Program} {a : Act} {o : Oper} {B : Nat} {w : World} {F : Nat → Nat} {ρ : List Nat} {s : St} {rest osT osH : List Nat} {c : CallF} {r : Rs}

/-! What a value is, by its abstract form. -/
theorem RepV.int_inv {cv : Value} {k : IntKind} {n : Int} {os : List Nat} (h : RepV w F ρ cv (.int k n) os) : cv = .int k n := by
  have := h.data rfl; cases this; rfl
theorem RepV.bool_inv {cv : Value} {b : Bool} {os : List Nat} (h : RepV w F ρ cv (.bool b) os) : cv = .bool b := by
  have := h.data rfl; cases this; rfl
theorem RepV.str_inv {cv : Value} {l : List UInt8} {os : List Nat} (h : RepV w F ρ cv (.str l) os) : ∃ s : ByteArray, cv = .string s ∧ s.data.toList = l := by
  have := h.data rfl; cases this; exact ⟨_, rfl, by assumption⟩
theorem RepV.agg_inv {cv : Value} {cs : List V} {os : List Nat} (h : RepV w F ρ cv (.agg cs) os) : ∃ cvs : Array Value, cv = .agg cvs ∧ cvs.size = cs.length ∧ (∀ j, j < cs.length → (nth cs j).one = true) ∧
    ∀ j (hj : j < cvs.size), RepD w F cvs[j] (nth cs j) := by
  have := h.data rfl; cases this; exact ⟨_, rfl, by assumption, by assumption, by assumption⟩

theorem Sim.int' (h : Sim B a.tmps.toList w F ρ s rest osT osH) {x : Operand} {y : Src} (hc : chkS x y = true) {k : IntKind} {n : Int} (hv : Am.ev (nth s.t) y = .int k n) : a.eval x = .int k n := by
  obtain ⟨os, hr, _⟩ := h.ev hc
  rw [hv] at hr
  exact hr.int_inv

/-- Where a pointer leads. -/
theorem Sim.place_slot (h : Sim B a.tmps.toList w F ρ s rest osT osH) {x : Operand} {y : Src} (hc : chkS x y = true) {b : Option Nat} {d off : Nat} (hp : place (nth s.t) y b = some (.slot d off)) :
    ∃ blk, a.eval x = .pointer (some ⟨blk, off, none⟩) ∧ (((∃ cs, nth s.t d = .box cs) ∧ a.tmps.toList[d]? = some (.pointer (some ⟨blk, 0, none⟩))) ∨
      ((∃ sz xs, nth s.t d = .sl true sz xs) ∧ ∃ len cap, a.tmps.toList[d]? = some (.slice (some ⟨blk, 0, none⟩) len cap))) := by
  unfold place at hp
  split at hp
  · rename_i cs he
    split at hp
    · rename_i i d'
      split at hp
      · rename_i hid
        subst hid
        simp only [Option.some.injEq, Pl.slot.injEq] at hp
        obtain ⟨rfl, rfl⟩ := hp
        simp only [Am.ev] at he
        have hi : i < s.t.length := nth_lt (fun hh => by rw [hh] at he; cases he)
        obtain ⟨cv, od, g1, g2, _⟩ := h.tmps.get hi
        rw [he] at g2
        cases g2 with
        | e _ _ _ g2 => cases g2 with | d _ _ g2 => cases g2
        | box blk cs os g2 =>
          refine ⟨blk, ?_, .inl ⟨⟨cs, he⟩, g1⟩⟩
          cases x with
          | tmp t => simp only [chkS, beq_iff_eq] at hc; subst hc; exact eval_tmp a rfl t g1
          | _ => cases hc
      · cases hp
    · cases hp
  · rename_i d' o' he
    split at hp
    · split at hp
      · simp only [Option.some.injEq, Pl.slot.injEq] at hp
        obtain ⟨rfl, rfl⟩ := hp
        cases y with
        | t i =>
          simp only [Am.ev] at he
          have hi : i < s.t.length := nth_lt (fun hh => by rw [hh] at he; cases he)
          obtain ⟨cv, od, g1, g2, _⟩ := h.tmps.get hi
          have ha := h.alias i cv g1
          rw [he] at ha
          obtain ⟨blk, hb, hh⟩ := ha
          refine ⟨blk, ?_, hh⟩
          rw [← hb]
          cases x with
          | tmp t => simp only [chkS, beq_iff_eq] at hc; subst hc; exact eval_tmp a rfl t g1
          | _ => cases hc
        | c v =>
          simp only [Am.ev] at he
          subst he
          cases x <;> simp [chkS] at hc
          rename_i cv
          cases cv <;> simp [constOK, constOK1] at hc
        | f g => cases he
      · cases hp
    · cases hp
  · split at hp <;> cases hp
  · split at hp <;> cases hp
  · cases hp

theorem Sim.place_obj (h : Sim B a.tmps.toList w F ρ s rest osT osH) {x : Operand} {y : Src} (hc : chkS x y = true) {b : Option Nat} {id off : Nat} (hp : place (nth s.t) y b = some (.obj id off)) :
    ∃ blk, ρ[id]? = some blk ∧ a.eval x = .pointer (some ⟨blk, off, none⟩) := by
  unfold place at hp
  split at hp
  · split at hp
    · split at hp <;> cases hp
    · cases hp
  · split at hp
    · split at hp <;> cases hp
    · cases hp
  · rename_i id' o' he
    split at hp
    · simp only [Option.some.injEq, Pl.obj.injEq] at hp
      obtain ⟨rfl, rfl⟩ := hp
      obtain ⟨os, hr, _⟩ := h.ev hc
      rw [he] at hr
      generalize a.eval x = cv at *
      cases hr with
      | e _ _ _ g2 => cases g2 with | d _ _ g2 => cases g2
      | ptr _ _ blk g => exact ⟨blk, g, rfl⟩
    · cases hp
  · split at hp <;> cases hp
  · cases hp

theorem Sim.place_ro (h : Sim B a.tmps.toList w F ρ s rest osT osH) {x : Operand} {y : Src} (hc : chkS x y = true) {b : Option Nat} {cs : List V} (hp : place (nth s.t) y b = some (.ro cs)) :
    RepV w F ρ (a.eval x) (.rptr cs) [] := by
  unfold place at hp
  split at hp
  · split at hp
    · split at hp <;> cases hp
    · cases hp
  · split at hp
    · split at hp <;> cases hp
    · cases hp
  · split at hp <;> cases hp
  · rename_i cs' he
    split at hp
    · simp only [Option.some.injEq, Pl.ro.injEq] at hp
      subst hp
      obtain ⟨os, hr, _⟩ := h.ev hc
      rw [he] at hr
      have := hr.os_nil rfl
      subst this
      exact hr
    · cases hp
  · cases hp

theorem rptr_inv {cv : Value} {cs : List V} (h : RepV w F ρ cv (.rptr cs) []) : ∃ (b off : Nat) (cvf : Nat → Value), cv = .pointer (some ⟨b, off, none⟩) ∧ off + cs.length ≤ F b ∧
    (∀ j, j < cs.length → w.cell? ⟨b, off + j, none⟩ = some (cvf j)) ∧ ∀ j, j < cs.length → RepD w F (cvf j) (nth cs j) ∧ (nth cs j).one = true := by
  cases h with
  | e _ _ _ g2 => cases g2 with | d _ _ g2 => cases g2
  | rptr b off cs cvf g1 g2 g3 => exact ⟨b, off, cvf, rfl, g1, g2, g3⟩

theorem nth_drop (l : List V) (n j : Nat) : nth (l.drop n) j = nth l (n + j) := by
  induction l generalizing n with
  | nil => simp [nth]
  | cons x l ih =>
    cases n with
    | zero => simp
    | succ n => simp only [List.drop_succ_cons]; rw [ih, show n + 1 + j = (n + j) + 1 by omega]; rfl

theorem nth_take (l : List V) (n j : Nat) (h : j < n) : nth (l.take n) j = nth l j := by
  induction l generalizing n j with
  | nil => simp [nth]
  | cons x l ih =>
    cases n with
    | zero => omega
    | succ n =>
      cases j with
      | zero => rfl
      | succ j => simp only [List.take_succ_cons]; exact ih n j (by omega)

theorem rptr_drop {b off n : Nat} {cs : List V} {cvf : Nat → Value} (hn : n ≤ cs.length) (g1 : off + cs.length ≤ F b) (g2 : ∀ j, j < cs.length → w.cell? ⟨b, off + j, none⟩ = some (cvf j))
    (g3 : ∀ j, j < cs.length → RepD w F (cvf j) (nth cs j) ∧ (nth cs j).one = true) : RepV w F ρ (.pointer (some ⟨b, off + n, none⟩)) (.rptr (cs.drop n)) [] := by
  refine .rptr b (off + n) _ (fun j => cvf (n + j)) (by rw [List.length_drop]; omega) (fun j hj => ?_) (fun j hj => ?_)
  · rw [List.length_drop] at hj
    have := g2 (n + j) (by omega)
    rw [show off + n + j = off + (n + j) by omega]
    exact this
  · rw [List.length_drop] at hj
    rw [nth_drop]
    exact g3 (n + j) (by omega)

/-! The operations. -/
theorem op_mv (h : Sim B a.tmps.toList w F ρ s rest osT osH) {x : Operand} {y : Src} (hop : o.op = .move x ∨ o.op = .assign x) (hc : chkS x y = true)
    (hr : opRes c (nth s.t) s.h (.mv y) = some r) : OpOK P a o B w F ρ s rest osT osH r := by
  simp only [opRes] at hr
  split at hr
  · cases hr
  · rename_i hal
    simp only [Option.some.injEq] at hr
    subst hr
    obtain ⟨osT', osV, hs, hsub⟩ := h.take hc (by simpa using hal)
    refine ⟨a.eval x, w, F, ρ, osT', osH, osV, .inl ?_, Ext.refl h.fresh, fun _ _ x => x, hs, fun b hb => .inl ?_⟩
    · rcases hop with hop | hop <;> simp [execOp, hop]
    · simp only [List.mem_append] at hb ⊢
      rcases hb with (hb | hb) | hb
      · exact .inl (hsub b (by simp [hb]))
      · exact .inr hb
      · exact .inl (hsub b (by simp [hb]))

theorem op_cp (h : Sim B a.tmps.toList w F ρ s rest osT osH) {x : Operand} {y : Src} (hop : o.op = .move x ∨ o.op = .assign x) (hc : chkS x y = true)
    (hr : opRes c (nth s.t) s.h (.cp y) = some r) : OpOK P a o B w F ρ s rest osT osH r := by
  have hrun : (execOp a.eval o).run P w = .ok (.value (a.eval x)) w := by rcases hop with hop | hop <;> simp [execOp, hop]
  simp only [opRes] at hr
  cases hcp : cpV (nth s.t) y with
  | none => rw [hcp] at hr; cases hr
  | some v =>
    rw [hcp] at hr
    simp only [Option.some.injEq] at hr
    subst hr
    obtain ⟨os, hrep, _⟩ := h.ev hc
    cases y with
    | t i =>
      simp only [cpV] at hcp
      split at hcp
      · cases hcp
      · rename_i hh
        simp only [Option.some.injEq] at hcp
        subst hcp
        simp only [Bool.or_eq_true, not_or, Bool.not_eq_true] at hh
        have := hrep.os_nil hh.1
        subst this
        exact OpOK.pure h hrun hrep (aliasV_of hh.2)
    | c v' =>
      simp only [cpV, Option.some.injEq] at hcp
      subst hcp
      cases x with
      | const cv =>
        refine OpOK.pure h hrun (.e _ _ _ (constOK_rep hc w F)) (aliasV_of ?_)
        cases v' <;> first | rfl | (cases cv <;> simp [chkS, constOK, constOK1] at hc)
      | _ => cases hc
    | f g =>
      simp only [cpV, Option.some.injEq] at hcp
      subst hcp
      have := hrep.os_nil rfl
      subst this
      exact OpOK.pure h hrun hrep trivial

theorem op_al (h : Sim B a.tmps.toList w F ρ s rest osT osH) {d : Nat} (hop : o.op = .move (.tmp d)) (hr : opRes c (nth s.t) s.h (.al d) = some r) : OpOK P a o B w F ρ s rest osT osH r := by
  have hrun : (execOp a.eval o).run P w = .ok (.value (a.eval (.tmp d))) w := by simp [execOp, hop]
  simp only [opRes] at hr
  split at hr
  · rename_i ho
    simp only [Option.some.injEq] at hr
    subst hr
    refine OpOK.pure h hrun (.al _ _) ⟨ho, ?_⟩
    have hi : d < s.t.length := nth_lt (fun hh => by rw [hh] at ho; cases ho)
    obtain ⟨cv, od, g1, g2, _⟩ := h.tmps.get hi
    rw [g1, eval_tmp a rfl d g1]
  · split at hr
    · cases hr
    · rename_i hh
      simp only [Option.some.injEq] at hr
      subst hr
      simp only [Bool.or_eq_true, not_or, Bool.not_eq_true] at hh
      obtain ⟨os, hrep, _⟩ := h.ev (x := .tmp d) (y := .t d) (by simp [chkS])
      simp only [Am.ev] at hrep
      have := hrep.os_nil hh.1
      subst this
      exact OpOK.pure h hrun hrep (aliasV_of hh.2)

theorem pickV_true {x y : V} (h : pickOk true x y = true) : pickV true x y = x ∧ x.data = true := by
  cases x <;> first | exact ⟨rfl, h⟩ | (cases y <;> first | exact ⟨rfl, rfl⟩ | exact ⟨rfl, h⟩)

theorem pickV_false {x y : V} (h : pickOk false x y = true) : pickV false x y = y ∧ y.data = true := by
  cases x <;> first | exact ⟨rfl, h⟩ | (cases y <;> first | exact ⟨rfl, rfl⟩ | exact ⟨rfl, h⟩)

theorem op_pick (h : Sim B a.tmps.toList w F ρ s rest osT osH) {x1 x2 x3 : Operand} {y1 y2 y3 : Src} (hop : o.op = .pick x1 x2 x3) (h1 : chkS x1 y1 = true) (h2 : chkS x2 y2 = true) (h3 : chkS x3 y3 = true)
    (hr : opRes c (nth s.t) s.h (.pick y1 y2 y3) = some r) : OpOK P a o B w F ρ s rest osT osH r := by
  simp only [opRes] at hr
  split at hr
  · rename_i t he
    obtain ⟨os, hrep, _⟩ := h.ev h1
    rw [he] at hrep
    have hx1 := hrep.bool_inv
    split at hr
    · rename_i hok
      simp only [Option.some.injEq] at hr
      subst hr
      have hrun : (execOp a.eval o).run P w = .ok (.value (if t then a.eval x2 else a.eval x3)) w := by
        cases t <;> simp [execOp, hop, hx1, asBool]
      cases t with
      | true =>
        obtain ⟨e1, e2⟩ := pickV_true hok
        rw [e1]
        obtain ⟨os, hrep, _⟩ := h.ev h2
        exact OpOK.pure h hrun (.e _ _ _ (.d _ _ (hrep.data e2))) (aliasV_of (by cases hv : Am.ev (nth s.t) y2 <;> rw [hv] at e2 <;> first | rfl | cases e2))
      | false =>
        obtain ⟨e1, e2⟩ := pickV_false hok
        rw [e1]
        obtain ⟨os, hrep, _⟩ := h.ev h3
        exact OpOK.pure h hrun (.e _ _ _ (.d _ _ (hrep.data e2))) (aliasV_of (by cases hv : Am.ev (nth s.t) y3 <;> rw [hv] at e2 <;> first | rfl | cases e2))
    · cases hr
  · cases hr

theorem data_isAl {v : V} (h : v.data = true) : isAl v = false := by cases v <;> first | rfl | cases h

/-- A value that is data and is reckoned without a look at memory. -/
theorem OpOK.data (h : Sim B a.tmps.toList w F ρ s rest osT osH) {cv : Value} {v : V} (hr : (execOp a.eval o).run P w = .ok (.value cv) w) (hv : RepD w F cv v) :
    OpOK P a o B w F ρ s rest osT osH (.val [] v s.h) :=
  OpOK.pure h hr (.e _ _ _ (.d _ _ hv)) (aliasV_of (data_isAl hv.data))

theorem op_fa (h : Sim B a.tmps.toList w F ρ s rest osT osH) {x : Operand} {y : Src} {t : TypeId} {fi off n : Nat} {fs : Array Field} {f : Field} {b : Option Nat} (hop : o.op = .fieldAddr t x fi) (hc : chkS x y = true)
    (hu : P.underlying t = some (.struct fs)) (hf : fs[fi]? = some f) (ho : f.offset = off) (hn : szT P f.type = some n) (hn0 : n ≠ 0)
    (hr : opRes c (nth s.t) s.h (.fa y off b) = some r) : OpOK P a o B w F ρ s rest osT osH r := by
  subst ho
  have hrun : ∀ blk o', a.eval x = .pointer (some ⟨blk, o', none⟩) → (execOp a.eval o).run P w = .ok (.value (.pointer (some ⟨blk, o' + f.offset, none⟩))) w := fun blk o' he => by
    simp [execOp, hop, Instr.fieldAt, run_under hu, hf, he, Instr.sureAddr, fieldPlace, run_sizeOf hn, hn0, addr_add]
  simp only [opRes] at hr
  split at hr
  · rename_i d o' hp
    simp only [Option.some.injEq] at hr
    subst hr
    obtain ⟨blk, he, hh⟩ := h.place_slot hc hp
    exact OpOK.pure h (hrun _ _ he) (.bref _ _ _) ⟨blk, rfl, hh⟩
  · rename_i id o' hp
    simp only [Option.some.injEq] at hr
    subst hr
    obtain ⟨blk, h1, he⟩ := h.place_obj hc hp
    exact OpOK.pure h (hrun _ _ he) (.ptr _ _ _ h1) trivial
  · rename_i cs hp
    split at hr
    · rename_i hl
      simp only [Option.some.injEq] at hr
      subst hr
      obtain ⟨blk, o', cvf, he, g1, g2, g3⟩ := rptr_inv (h.place_ro hc hp)
      exact OpOK.pure h (hrun _ _ he) (rptr_drop hl g1 g2 g3) trivial
    · cases hr
  · cases hr

theorem run_indexAt_slice' {t : TypeId} {e : TypeId} {b off len cap n : Nat} {k : IntKind} {i : Int} (hu : P.underlying t = some (.slice e)) (hn : szT P e = some n) (h0 : 0 ≤ i) (h1 : i < len) :
    (Instr.indexAt t (.slice (some ⟨b, off, none⟩) len cap) (.int k i)).run P w = .ok (.pointer (some ⟨b, off + i.toNat * n, none⟩)) w := by
  simp [Instr.indexAt, asIntOf, run_under hu, run_sizeOf hn, h0, h1, addr_add]

theorem run_indexAt_array' {t : TypeId} {e : TypeId} {b off m n : Nat} {k : IntKind} {i : Int} (hu : P.underlying t = some (.array m e)) (hn : szT P e = some n) (h0 : 0 ≤ i) (h1 : i < m) :
    (Instr.indexAt t (.pointer (some ⟨b, off, none⟩)) (.int k i)).run P w = .ok (.pointer (some ⟨b, off + i.toNat * n, none⟩)) w := by
  simp [Instr.indexAt, asIntOf, run_under hu, run_sizeOf hn, h0, h1, addr_add, Instr.sureAddr]

theorem op_ia_arr (h : Sim B a.tmps.toList w F ρ s rest osT osH) {x i : Operand} {y j : Src} {t e : TypeId} {sz m : Nat} {b : Option Nat} (hop : o.op = .indexAddr t x i) (hc : chkS x y = true) (hj : chkS i j = true)
    (hu : P.underlying t = some (.array m e)) (hn : szT P e = some sz) (hr : opRes c (nth s.t) s.h (.ia y j sz (some m) b) = some r) : OpOK P a o B w F ρ s rest osT osH r := by
  simp only [opRes] at hr
  cases hi : intOf (nth s.t) j with
  | none => rw [hi] at hr; cases hr
  | some k =>
    rw [hi] at hr
    simp only at hr
    obtain ⟨kk, hik⟩ := h.int hj hi
    split at hr
    · rename_i hk
      have hrun : ∀ blk o', a.eval x = .pointer (some ⟨blk, o', none⟩) → (execOp a.eval o).run P w = .ok (.value (.pointer (some ⟨blk, o' + k.toNat * sz, none⟩))) w := fun blk o' he => by
        simp [execOp, hop, he, hik, run_indexAt_array' hu hn hk.1 hk.2]
      split at hr
      · rename_i d o' hp
        simp only [Option.some.injEq] at hr
        subst hr
        obtain ⟨blk, he, hh⟩ := h.place_slot hc hp
        exact OpOK.pure h (hrun _ _ he) (.bref _ _ _) ⟨blk, rfl, hh⟩
      · rename_i id o' hp
        simp only [Option.some.injEq] at hr
        subst hr
        obtain ⟨blk, h1, he⟩ := h.place_obj hc hp
        exact OpOK.pure h (hrun _ _ he) (.ptr _ _ _ h1) trivial
      · rename_i cs hp
        split at hr
        · rename_i hl
          simp only [Option.some.injEq] at hr
          subst hr
          obtain ⟨blk, o', cvf, he, g1, g2, g3⟩ := rptr_inv (h.place_ro hc hp)
          exact OpOK.pure h (hrun _ _ he) (rptr_drop hl g1 g2 g3) trivial
        · cases hr
      · cases hr
    · cases hr

/-- A shared slice. -/
theorem sl_inv {cv : Value} {sz : Nat} {xs : List V} (h : RepD w F cv (.sl false sz xs)) : ((∃ p, cv = .slice p 0 0) ∧ xs = []) ∨ ∃ (b off cap : Nat) (cvf : Nat → Nat → Value), cv = .slice (some ⟨b, off, none⟩) xs.length cap ∧ xs.length ≤ cap ∧
    off + xs.length * sz ≤ F b ∧ (∀ i, i < xs.length → (nth xs i).cells.length = sz ∧ (nth xs i).data = true) ∧ (∀ i j, i < xs.length → j < sz → w.cell? ⟨b, off + i * sz + j, none⟩ = some (cvf i j)) ∧
    (∀ i j, i < xs.length → j < sz → (nth (nth xs i).cells j).one = true) ∧ ∀ i j, i < xs.length → j < sz → RepD w F (cvf i j) (nth (nth xs i).cells j) := by
  cases h with
  | slnil p => exact .inl ⟨⟨p, rfl⟩, rfl⟩
  | sl b off len cap _ _ cvf h1 h2 h3 h4 h5 h6 h7 => subst h1; exact .inr ⟨b, off, cap, cvf, rfl, h2, h3, h4, h5, h6, h7⟩

theorem mul_lt_of {i n sz : Nat} (h : i < n) : i * sz + sz ≤ n * sz := by
  have := Nat.mul_le_mul_right sz (Nat.succ_le_of_lt h)
  rwa [Nat.succ_mul] at this

theorem op_ia_sl (h : Sim B a.tmps.toList w F ρ s rest osT osH) {x i : Operand} {y j : Src} {t e : TypeId} {sz : Nat} {b : Option Nat} (hop : o.op = .indexAddr t x i) (hc : chkS x y = true) (hj : chkS i j = true)
    (hu : P.underlying t = some (.slice e)) (hn : szT P e = some sz) (hr : opRes c (nth s.t) s.h (.ia y j sz none b) = some r) : OpOK P a o B w F ρ s rest osT osH r := by
  simp only [opRes] at hr
  cases hi : intOf (nth s.t) j with
  | none => rw [hi] at hr; cases hr
  | some k =>
    rw [hi] at hr
    simp only at hr
    obtain ⟨kk, hik⟩ := h.int hj hi
    split at hr
    · rename_i sz' xs he
      split at hr
      · rename_i hk
        obtain ⟨rfl, hk0, hk1⟩ := hk
        simp only [Option.some.injEq] at hr
        subst hr
        obtain ⟨os, hrep, _⟩ := h.ev hc
        rw [he] at hrep
        rcases sl_inv (hrep.data rfl) with ⟨_, rfl⟩ | ⟨blk, off, cap, cvf, hx, g2, g3, g4, g5, g6, g7⟩
        · simp at hk1; omega
        have hlt : k.toNat < xs.length := by omega
        refine OpOK.pure h (cv := .pointer (some ⟨blk, off + k.toNat * sz', none⟩)) (by simp [execOp, hop, hx, hik, run_indexAt_slice' hu hn hk0 hk1]) ?_ trivial
        refine .rptr blk _ _ (fun j => cvf k.toNat j) ?_ (fun j hj => ?_) (fun j hj => ?_)
        · rw [(g4 _ hlt).1]
          have := mul_lt_of (sz := sz') hlt
          omega
        · rw [(g4 _ hlt).1] at hj; exact g5 _ _ hlt hj
        · rw [(g4 _ hlt).1] at hj; exact ⟨g7 _ _ hlt hj, g6 _ _ hlt hj⟩
      · cases hr
    · rename_i d he
      split at hr
      · rename_i d'
        split at hr
        · rename_i xs hd
          split at hr
          · rename_i hk
            obtain ⟨rfl, rfl, hk0, hk1⟩ := hk
            simp only [Option.some.injEq] at hr
            subst hr
            cases y with
            | t i' =>
              simp only [Am.ev] at he
              have hi' : i' < s.t.length := nth_lt (fun hh => by rw [hh] at he; cases he)
              obtain ⟨cv, od, g1, g2, _⟩ := h.tmps.get hi'
              have ha := h.alias i' cv g1
              rw [he] at ha
              obtain ⟨_, ha⟩ := ha
              have hd' : d < s.t.length := nth_lt (fun hh => by rw [hh] at hd; cases hd)
              obtain ⟨cv', od', q1, q2, _⟩ := h.tmps.get hd'
              rw [hd] at q2
              rw [q1] at ha
              simp only [Option.some.injEq] at ha
              subst ha
              cases q2 with
              | e _ _ _ q2 =>
                cases q2 with
                | d _ _ q2 => cases q2
                | ownnil => simp at hk1; omega
                | own blk len cap _ _ q2 =>
                  have hx : a.eval x = .slice (some ⟨blk, 0, none⟩) len cap := by
                    cases x with
                    | tmp t => simp only [chkS, beq_iff_eq] at hc; subst hc; exact eval_tmp a rfl t g1
                    | _ => cases hc
                  have hl : (xs.length : Int) = (len : Int) := by rw [q2.hlen]
                  have hr1 := run_indexAt_slice' (w := w) (b := blk) (off := 0) (len := len) (cap := cap) (k := kk) hu hn hk0 (by omega)
                  simp only [Nat.zero_add, Nat.mul_one] at hr1
                  refine OpOK.pure h (cv := .pointer (some ⟨blk, k.toNat, none⟩)) (by simp [execOp, hop, hx, hik, hr1]) (.bref _ _ _) ?_
                  exact ⟨blk, rfl, .inr ⟨⟨1, xs, hd⟩, len, cap, q1⟩⟩
            | c v =>
              simp only [Am.ev] at he
              subst he
              cases x <;> simp [chkS] at hc
              rename_i cv
              cases cv <;> simp [constOK, constOK1] at hc
            | f g => cases he
          · cases hr
        · cases hr
      · cases hr
    · cases hr
end
end Go.Am
