/- The state of a frame from its entry on; regions, one operation after the other. -/
import Derived.Test.YtbnjembcmddjoaaAm20
import Derived.Tactics
import Derived.LoopN
set_option linter.unusedVariables false
set_option linter.unusedSimpArgs false
namespace Go.Am
open Go Go.RowKit

/-- A frame's entry. -/
structure Env where
  B : Nat
  w : World
  F : Nat → Nat
  ρ : List Nat
  rest : List Nat
  os : List Nat

def Stt (E : Env) (a : Act) (w : World) (s : St) : Prop :=
  ∃ F ρ osT osH, Ext E.B E.w E.F w F (fun b => b ∈ E.os) ∧ (∀ (id b : Nat), E.ρ[id]? = some b → ρ[id]? = some b) ∧ Sim E.B a.tmps.toList w F ρ s E.rest osT osH ∧ ∀ b ∈ osT ++ osH, b ∈ E.os ∨ E.w.heap.size ≤ b

/-- How an abstract end and the model's end go together. -/
def Rel (E : Env) (dfs : List Deferred) : Ex → St → Exit → Act → World → Prop
  | .norm, s, .normal, a, w => Stt E a w s ∧ a.defers = dfs
  | .exit id, s, .exit id', a, w => id = id' ∧ Stt E a w s ∧ a.defers = dfs
  | .ret, s, .ret, a, w => Stt E a w s ∧ a.defers = dfs
  | .pan v, s, .panic chain, a, w => (∃ cv, chain = [{ v := cv, recovered := false }] ∧ PanOK E.B E.w E.F E.ρ E.rest E.os v s.h cv w) ∧ a.defers = dfs
  | _, _, _, _, _ => False

section
variable {P : Program} {E : Env} {a : Act} {o : Oper} {w : World} {s : St} {call : CallF} {dfs : List Deferred}

theorem put_tmps (a : Act) (dst : Option Tmp) (cv : Value) : (a.put dst cv).tmps.toList = match dst with | some d => a.tmps.toList.set d cv | none => a.tmps.toList := by
  cases dst <;> simp [Act.put]
theorem put_defers (a : Act) (dst : Option Tmp) (cv : Value) : (a.put dst cv).defers = a.defers := by cases dst <;> rfl

/-- From a frame's state on to the next one. -/
theorem Stt.next {F : Nat → Nat} {ρ osT osH : List Nat} (e0 : Ext E.B E.w E.F w F (fun b => b ∈ E.os)) (r0 : ∀ (id b : Nat), E.ρ[id]? = some b → ρ[id]? = some b) (n0 : ∀ b ∈ osT ++ osH, b ∈ E.os ∨ E.w.heap.size ≤ b)
    {w' : World} {F' : Nat → Nat} (e1 : Ext E.B w F w' F' (fun b => b ∈ osT ++ osH)) : Ext E.B E.w E.F w' F' (fun b => b ∈ E.os) ∧ ∀ b, (b ∈ osT ++ osH ∨ w.heap.size ≤ b) → (b ∈ E.os ∨ E.w.heap.size ≤ b) := by
  refine ⟨(e0.trans e1).weaken fun b hb ht => ?_, fun b hb => ?_⟩
  · rcases ht with ht | ht
    · exact ht
    · rcases n0 b ht with h | h
      · exact h
      · omega
  · rcases hb with hb | hb
    · exact n0 b hb
    · exact .inr (Nat.le_trans e0.size hb)

theorem SimV.stt {F : Nat → Nat} {ρ osT osH : List Nat} (e0 : Ext E.B E.w E.F w F (fun b => b ∈ E.os)) (r0 : ∀ (id b : Nat), E.ρ[id]? = some b → ρ[id]? = some b) (n0 : ∀ b ∈ osT ++ osH, b ∈ E.os ∨ E.w.heap.size ≤ b)
    {w' : World} {F' : Nat → Nat} {ρ' osT' osH' osV : List Nat} {t t' : List V} {hp : Heap} {cv : Value} {v : V} {dst : Option Nat} (e1 : Ext E.B w F w' F' (fun b => b ∈ osT ++ osH)) (r1 : ∀ (id b : Nat), ρ[id]? = some b → ρ'[id]? = some b)
    (h : SimV E.B a.tmps.toList w' F' ρ' t hp cv v E.rest osT' osH' osV) (n1 : ∀ b ∈ osT' ++ osH' ++ osV, b ∈ osT ++ osH ∨ w.heap.size ≤ b) (hp' : Am.put t dst v = some t') : Stt E (a.put dst cv) w' ⟨t', hp⟩ := by
  obtain ⟨g1, g2⟩ := Stt.next e0 r0 n0 e1
  obtain ⟨osT2, q1, q2⟩ := h.put hp'
  refine ⟨F', ρ', osT2, osH', g1, fun id b hh => r1 _ _ (r0 _ _ hh), ?_, fun b hb => g2 b (n1 b ?_)⟩
  · rw [put_tmps]
    cases dst <;> exact q1
  · simp only [List.mem_append] at hb ⊢
    rcases hb with hb | hb
    · have := q2 b hb
      simp only [List.mem_append] at this
      rcases this with h | h <;> simp [h]
    · simp [hb]

/-- One operation. -/
theorem stt_op (hs : SoundCall P call) (h : Stt E a w s) (hd : a.defers = dfs) {ao : AOp} (hc : chkX P o.op ao = true) {r : Ex × St} (hr : stepR o.dst s (opRes call (nth s.t) s.h ao) = some r)
    {next : Act → World → Prop} {Q : Exit → Act → World → Prop} (hn : r.1 = .norm → ∀ a' w', Stt E a' w' r.2 → a'.defers = dfs → next a' w')
    (hp : ∀ v chain a' w', r.1 = .pan v → Rel E dfs r.1 r.2 (.panic chain) a' w' → Q (.panic chain) a' w') : o.wp P a w next Q := by
  obtain ⟨F, ρ, osT, osH, e0, r0, hsim, n0⟩ := h
  cases hres : opRes call (nth s.t) s.h ao with
  | none => rw [hres] at hr; cases hr
  | some rs =>
    rw [hres] at hr
    refine step_ok hs hsim hc hres next Q ?_
    cases rs with
    | val us v h' =>
      simp only [stepR] at hr
      split at hr
      · rename_i t' hput
        simp only [Option.some.injEq] at hr
        subst hr
        intro cv w' F' ρ' osT' osH' osV e1 r1 g n1
        exact hn rfl _ _ (SimV.stt e0 r0 n0 e1 r1 g n1 hput) (by rw [put_defers]; exact hd)
      · cases hr
    | pan v h' =>
      simp only [stepR, Option.some.injEq] at hr
      subst hr
      intro cv w' hpan
      refine hp v _ a w' rfl ⟨⟨cv, rfl, ?_⟩, hd⟩
      obtain ⟨F', ρ', osH', e1, r1, p1, p2, p3, p4⟩ := hpan
      obtain ⟨g1, g2⟩ := Stt.next e0 r0 n0 e1
      exact ⟨F', ρ', osH', g1, fun id b hh => r1 _ _ (r0 _ _ hh), p1, p2, p3, fun b hb => ⟨g2 b (p4 b hb).1, (p4 b hb).2⟩⟩

/-- Nothing is done, and the target is void. -/
theorem stt_skip (h : Stt E a w s) (hd : a.defers = dfs) {dst : Option Nat} {r : Ex × St} (hr : stepR dst s (some (.val [] (.tup []) s.h)) = some r) : r.1 = .norm ∧ Stt E (a.put dst undef) w r.2 ∧ (a.put dst undef).defers = dfs := by
  obtain ⟨F, ρ, osT, osH, e0, r0, hsim, n0⟩ := h
  simp only [stepR, ups] at hr
  split at hr
  · rename_i t' hput
    simp only [Option.some.injEq] at hr
    subst hr
    refine ⟨rfl, SimV.stt e0 r0 n0 (Ext.refl hsim.fresh) (fun _ _ x => x) (hsim.val (.tup [] [] [] .nil) trivial) (fun b hb => .inl (by simpa using hb)) hput, by rw [put_defers]; exact hd⟩
  · cases hr

def chkG (ops : Array Oper) (o : Oper) : Option (Nat × Bool) → Bool
  | none => o.guard.isNone
  | some (slot, want) => match o.guard with
    | some (j, want') => want' == want && ((ops[j]?).bind (·.dst)) == some slot
    | none => false

theorem tmps_get (h : Stt E a w s) {d : Nat} (hd : nth s.t d ≠ .undef) : ∃ F ρ od cv, a.tmps[d]? = some cv ∧ RepV w F ρ cv (nth s.t d) od := by
  obtain ⟨F, ρ, osT, osH, e0, r0, hsim, n0⟩ := h
  obtain ⟨cv, od, g1, g2, _⟩ := hsim.tmps.get (nth_lt hd)
  exact ⟨F, ρ, od, cv, by simpa using g1, g2⟩

theorem wanted_none {ops : Array Oper} (hg : chkG ops o none = true) : Region.wanted o (yielded ops a.tmps) = true := by
  simp only [chkG, Option.isNone_iff_eq_none] at hg
  simp [Region.wanted, hg]

theorem wanted_bool {ops : Array Oper} (h : Stt E a w s) {slot : Nat} {want b : Bool} (hg : chkG ops o (some (slot, want)) = true) (hb : nth s.t slot = .bool b) : Region.wanted o (yielded ops a.tmps) = (b == want) := by
  obtain ⟨F, ρ, od, cv, g1, g2⟩ := tmps_get h (d := slot) (by rw [hb]; exact fun h => by cases h)
  rw [hb] at g2
  have := g2.data rfl
  cases this
  simp only [chkG] at hg
  split at hg
  · rename_i j want' hgu
    simp only [Bool.and_eq_true, beq_iff_eq] at hg
    obtain ⟨rfl, hj⟩ := hg
    simp only [Region.wanted, hgu, yielded, hj, Option.bind_some, g1]
    cases b <;> cases want' <;> rfl
  · cases hg

theorem wanted_void {ops : Array Oper} (h : Stt E a w s) {slot : Nat} {want : Bool} (hg : chkG ops o (some (slot, want)) = true) (hb : nth s.t slot = .tup []) : Region.wanted o (yielded ops a.tmps) = false := by
  obtain ⟨F, ρ, od, cv, g1, g2⟩ := tmps_get h (d := slot) (by rw [hb]; exact fun h => by cases h)
  rw [hb] at g2
  have hcv : cv = .tuple #[] := by
    cases g2 with
    | e _ _ _ g2 => cases g2 with | d _ _ g2 => cases g2
    | tup cvs _ _ g2 => cases g2; rfl
  subst hcv
  simp only [chkG] at hg
  split at hg
  · rename_i j want' hgu
    simp only [Bool.and_eq_true, beq_iff_eq] at hg
    obtain ⟨rfl, hj⟩ := hg
    simp only [Region.wanted, hgu, yielded, hj, Option.bind_some, g1]
    rfl
  · cases hg

def chkI (P : Program) (ops : Array Oper) (o : Oper) (i : AI) : Bool := (o.dst == i.dst) && chkG ops o i.g && chkX P o.op i.op

/-- One operation of a region, with its guard. -/
theorem stt_ai {ops : Array Oper} (hs : SoundCall P call) (h : Stt E a w s) (hd : a.defers = dfs) {i : AI} (hc : chkI P ops o i = true) {r : Ex × St} (hr : stepI call i s = some r)
    {next : Act → World → Prop} {Q : Exit → Act → World → Prop} (hn : r.1 = .norm → ∀ a' w', Stt E a' w' r.2 → a'.defers = dfs → next a' w')
    (hp : ∀ v chain a' w', r.1 = .pan v → Rel E dfs r.1 r.2 (.panic chain) a' w' → Q (.panic chain) a' w') : if Region.wanted o (yielded ops a.tmps) then o.wp P a w next Q else next (a.put o.dst undef) w := by
  simp only [chkI, Bool.and_eq_true, beq_iff_eq] at hc
  obtain ⟨⟨hdst, hg⟩, hx⟩ := hc
  unfold stepI at hr
  rw [← hdst] at hr
  cases hig : i.g with
  | none =>
    rw [hig] at hr hg
    rw [wanted_none hg, if_pos rfl]
    exact stt_op hs h hd hx hr hn hp
  | some gw =>
    obtain ⟨slot, want⟩ := gw
    rw [hig] at hr hg
    simp only at hr
    split at hr
    · rename_i b hb
      rw [wanted_bool h hg hb]
      split at hr
      · rename_i hbw
        rw [hbw]
        simp only [beq_self_eq_true, if_true]
        exact stt_op hs h hd hx hr hn hp
      · rename_i hbw
        have : (b == want) = false := by simpa using hbw
        rw [this]
        simp only [Bool.false_eq_true, if_false]
        obtain ⟨h1, h2, h3⟩ := stt_skip h hd hr
        exact hn h1 _ _ h2 h3
    · rename_i hb
      rw [wanted_void h hg hb]
      simp only [Bool.false_eq_true, if_false]
      obtain ⟨h1, h2, h3⟩ := stt_skip h hd hr
      exact hn h1 _ _ h2 h3
    · cases hr

/-- The pseudo-operations. -/
def isPs (i : AI) : Bool := i.dst.isNone && i.g.isNone && (match i.op with | .cm _ => true | .cmb _ => true | .cmh _ => true | _ => false)

theorem PsOK.stt {F : Nat → Nat} {ρ osT osH : List Nat} (e0 : Ext E.B E.w E.F w F (fun b => b ∈ E.os)) (r0 : ∀ (id b : Nat), E.ρ[id]? = some b → ρ[id]? = some b) (n0 : ∀ b ∈ osT ++ osH, b ∈ E.os ∨ E.w.heap.size ≤ b) {t' : List V} {h' : Heap}
    (h : PsOK a.tmps.toList E.B w F ρ s E.rest osT osH t' h') : Stt E a w ⟨t', h'⟩ := by
  obtain ⟨F', osT', osH', e1, q1, q2⟩ := h
  obtain ⟨g1, g2⟩ := Stt.next e0 r0 n0 e1
  exact ⟨F', ρ, osT', osH', g1, r0, q1, fun b hb => g2 b (.inl (q2 b hb))⟩

theorem stt_ps (h : Stt E a w s) {i : AI} (hps : isPs i = true) {r : Ex × St} (hr : stepI call i s = some r) : r.1 = .norm ∧ Stt E a w r.2 := by
  obtain ⟨F, ρ, osT, osH, e0, r0, hsim, n0⟩ := h
  obtain ⟨dst, op, g⟩ := i
  simp only [isPs, Bool.and_eq_true, Option.isNone_iff_eq_none] at hps
  obtain ⟨⟨rfl, rfl⟩, hop⟩ := hps
  simp only [stepI] at hr
  split at hop
  · rename_i d
    simp only [opRes, stepR, put, Option.some.injEq] at hr
    subst hr
    exact ⟨rfl, PsOK.stt e0 r0 n0 (ps_cm hsim d)⟩
  · rename_i d
    simp only [opRes] at hr
    split at hr
    · rename_i cs hb
      simp only [stepR, put, Option.some.injEq] at hr
      subst hr
      exact ⟨rfl, PsOK.stt e0 r0 n0 (ps_cmb hsim hb)⟩
    · cases hr
  · rename_i x
    simp only [opRes] at hr
    split at hr
    · rename_i id off he
      simp only [stepR, put, ups, Option.some.injEq] at hr
      subst hr
      refine ⟨rfl, PsOK.stt (s := s) e0 r0 n0 ?_⟩
      by_cases hid : id < s.h.length
      · exact ps_cmh hsim hid
      · have hu : ∀ (hp : Heap) (k : Nat) (x : List V), hp.length ≤ k → hupd hp k x = hp := by
          intro hp
          induction hp with
          | nil => intro k x _; rfl
          | cons c hp ih =>
            intro k x hk
            cases k with
            | zero => simp at hk
            | succ k => simp only [hupd]; rw [ih k x (by simpa using hk)]
        rw [hu s.h id _ (by omega)]
        exact hsim.psrefl
    · cases hr
  · cases hop

def chkOps (P : Program) (ops : Array Oper) : List Oper → List AI → Bool
  | [], [] => true
  | [], i :: is => isPs i && chkOps P ops [] is
  | _ :: _, [] => false
  | o :: os, i :: is => if isPs i then chkOps P ops (o :: os) is else chkI P ops o i && chkOps P ops os is

theorem ops_ok {ops : Array Oper} (hs : SoundCall P call) : ∀ (is : List AI) (l : List Oper) (a : Act) (w : World) (s : St) (e : Ex) (s' : St), chkOps P ops l is = true → Stt E a w s → a.defers = dfs → runOps call is s = some (e, s') →
    wpList P ops (Rel E dfs e s') l a w
  | [], l, a, w, s, e, s', hc, h, hd, hr => by
    simp only [runOps, Option.some.injEq, Prod.mk.injEq] at hr
    obtain ⟨rfl, rfl⟩ := hr
    cases l with
    | nil => exact ⟨h, hd⟩
    | cons o l => cases hc
  | i :: is, l, a, w, s, e, s', hc, h, hd, hr => by
    simp only [runOps] at hr
    cases hi : stepI call i s with
    | none => rw [hi] at hr; cases hr
    | some r =>
      rw [hi] at hr
      have ps : isPs i = true → chkOps P ops l is = true → wpList P ops (Rel E dfs e s') l a w := fun hps hrest => by
        obtain ⟨h1, h2⟩ := stt_ps h hps hi
        obtain ⟨e1, s1⟩ := r
        simp only at h1 h2
        subst h1
        exact ops_ok hs is l a w s1 e s' hrest h2 hd hr
      cases l with
      | nil =>
        simp only [chkOps, Bool.and_eq_true] at hc
        exact ps hc.1 hc.2
      | cons o l =>
        simp only [chkOps] at hc
        split at hc
        · rename_i hps; exact ps hps hc
        · simp only [Bool.and_eq_true] at hc
          have := stt_ai (Q := Rel E dfs e s') (next := wpList P ops (Rel E dfs e s') l) hs h hd hc.1 hi (fun hnorm a' w' hst hdd => by
              obtain ⟨e1, s1⟩ := r
              simp only at hnorm hst
              subst hnorm
              exact ops_ok hs is l a' w' s1 e s' hc.2 hst hdd hr) (fun v chain a' w' hv hrel => by
              obtain ⟨e1, s1⟩ := r
              simp only at hv hrel
              subst hv
              simp only [Option.some.injEq, Prod.mk.injEq] at hr
              obtain ⟨rfl, rfl⟩ := hr
              exact hrel)
          simp only [wpList]
          split
          · rename_i hw; rw [if_pos hw] at this; exact .inl this
          · rename_i hw; rw [if_neg hw] at this; exact this
end
end Go.Am
