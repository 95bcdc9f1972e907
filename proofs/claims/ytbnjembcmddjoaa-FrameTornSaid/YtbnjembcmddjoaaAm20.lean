/- Operations that call. -/
import Derived.Test.YtbnjembcmddjoaaAm19
set_option linter.unusedVariables false
set_option linter.unusedSimpArgs false
namespace Go.Am
open Go Go.RowKit

section
variable {P : Program} {a : Act} {o : Oper} {B : Nat} {w w' : World} {F F' : Nat → Nat} {ρ : List Nat} {s : St} {rest osT osH : List Nat} {call : CallF} {r : Rs} {cvs : List Value}

theorem after_call {t1 : List V} {hp h' : Heap} {osT' osA osX osH2 osV : List Nat} {cv : Value} {v : V} (q1 : Sim B cvs w F ρ ⟨t1, hp⟩ (osA ++ rest) osT' osH) (e : Ext B w F w' F' (fun b => b ∈ osA ++ osX)) (hX : ∀ b ∈ osX, b ∈ osH)
    (hH : RepH w' F' ρ h' osH2) (hv : RepV w' F' ρ cv v osV) (hal : isAl v = false) (once : ∀ b, (osV ++ osH2 ++ (osT' ++ rest)).count b ≤ 1)
    (sub : ∀ b ∈ osV ++ osH2, (b ∈ osA ++ osH ∨ w.heap.size ≤ b) ∧ b < w'.heap.size ∧ F' b = 0) : SimV B cvs w' F' ρ t1 h' cv v rest osT' osH2 osV := by
  have hdis : ∀ b ∈ osT' ++ rest, b ∉ osA ++ osX := fun b hb hbx => by
    have h1 := q1.once b
    have h2 := List.count_pos_iff.2 hb
    simp only [List.count_append] at h1 h2
    simp only [List.mem_append] at hbx
    rcases hbx with hbx | hbx
    · have h3 := List.count_pos_iff.2 hbx; omega
    · have h3 := List.count_pos_iff.2 (hX b hbx); omega
  have old : ∀ b ∈ osT' ++ rest, B ≤ b ∧ b < w'.heap.size ∧ F' b = 0 := fun b hb => by
    obtain ⟨b1, b2, b3⟩ := q1.inb b (by simp only [List.mem_append] at hb ⊢; rcases hb with hb | hb <;> simp [hb])
    exact ⟨b1, Nat.lt_of_lt_of_le b2 e.size, ((e.keep b (hdis b hb) b2).2).trans b3⟩
  have new : ∀ b ∈ osV ++ osH2, B ≤ b ∧ b < w'.heap.size ∧ F' b = 0 := fun b hb => by
    obtain ⟨c1, c2, c3⟩ := sub b hb
    refine ⟨?_, c2, c3⟩
    rcases c1 with c1 | c1
    · exact (q1.inb b (by simp only [List.mem_append] at c1 ⊢; rcases c1 with c1 | c1 <;> simp [c1])).1
    · exact Nat.le_trans q1.base c1
  refine ⟨q1.tmps.ext e (fun _ _ x => x) (fun b hb => (q1.inb b (by simp [hb])).2.1) (fun b hb => hdis b (by simp [hb])), hH, q1.alias, hv, aliasV_of hal, fun b => ?_, fun b hb => ?_, e.fresh, Nat.le_trans q1.base e.size⟩
  · have := once b
    simp only [List.count_append] at this ⊢
    omega
  · simp only [List.mem_append] at hb
    rcases hb with ((hb | hb) | hb) | hb
    · exact old b (by simp [hb])
    · exact new b (by simp [hb])
    · exact new b (by simp [hb])
    · exact old b (by simp [hb])

/-- A call that sees none of the caller's objects. -/
theorem step_callN (hs : SoundCall P call) (h : Sim B a.tmps.toList w F ρ s rest osT osH) {f : FuncId} {vs : List V} {us : List (Nat × V × Bool)} {osT' osA : List Nat} {cargs : List Value}
    (q1 : Sim B a.tmps.toList w F ρ ⟨ups s.t us, s.h⟩ (osA ++ rest) osT' osH) (q2 : RepL (RepV w F ρ) cargs vs osA) (q3 : ∀ v ∈ vs, isAl v = false)
    (q4 : ∀ v ∈ vs, v.data = true ∨ (∃ sz zs, v = .sl true sz zs) ∨ ∃ f, v = .fn f []) (q5 : ∀ b ∈ osT' ++ osA, b ∈ osT)
    (hrun : enterable P f = true → (execOp a.eval o).run P w = .ok (.enter f cargs.toArray) w) (hr : callR false s.h us (call f vs []) = some r) : StepOK P a o B w F ρ s rest osT osH r := by
  obtain ⟨q, hq⟩ := callR_some hr
  rw [hq] at hr
  obtain ⟨he, hcalls⟩ := hs f vs [] q hq
  have q2' : RepL (RepV w F []) cargs vs osA := by
    clear hq hcalls hr q1 q5 hrun q3
    induction q2 with
    | nil => exact .nil
    | cons cv v cvs vs os os' h1 h2 ih => exact .cons _ _ _ _ _ _ (h1.rho (q4 v (by simp))) (ih fun v hv => q4 v (by simp [hv]))
  have hc := hcalls B w F [] (osT' ++ osH ++ rest) osA [] cargs q2' q3 .nil (fun b => by have := q1.once b; simp only [List.count_append, List.count_nil] at this ⊢; omega)
    (fun b hb => q1.inb b (by simp only [List.mem_append] at hb ⊢; rcases hb with (hb | hb) | ((hb | hb) | hb) <;> first | (simp [hb]; done) | cases hb)) q1.fresh q1.base
  intro next Q H
  unfold Oper.wp
  rw [hrun he]
  refine Calls.mono hc fun e w' hend => ?_
  have subT : ∀ b, b ∈ osA ++ [] → b ∈ osT ++ osH := fun b hb => by simp only [List.append_nil] at hb; simp [q5 b (by simp [hb])]
  cases q with
  | ret v h' =>
    simp only [callR, Bool.false_eq_true, if_false] at hr
    split at hr
    · cases hr
    simp only [Option.some.injEq] at hr
    subst hr
    cases e with
    | returned cv =>
      obtain ⟨F', osV, osH2, e1, e2, e3, e4, e5, e6⟩ := hend
      have hdis : ∀ b ∈ osH, b ∉ osA ++ [] := fun b hb hbx => by
        have h1 := q1.once b
        have h2 := List.count_pos_iff.2 hb
        have h3 := List.count_pos_iff.2 (show b ∈ osA by simpa using hbx)
        simp only [List.count_append] at h1
        omega
      refine H cv w' F' ρ osT' osH osV (e1.weaken fun b _ hb => subT b hb) (fun _ _ x => x) (after_call q1 e1 (fun b hb => by cases hb) (q1.heap.ext e1 hdis) (e2.rhoUp fun id b hh => by simp at hh) e3 (fun b => ?_) (fun b hb => ?_)) (fun b hb => ?_)
      · have := e5 b
        simp only [List.count_append] at this ⊢
        omega
      · simp only [List.mem_append] at hb
        rcases hb with hb | hb
        · obtain ⟨c1, c2, c3⟩ := e6 b (by simp [hb])
          refine ⟨?_, c2, c3⟩
          rcases c1 with c1 | c1
          · exact .inl (by simp only [List.append_nil] at c1; simp [c1])
          · exact .inr c1
        · obtain ⟨b1, b2, b3⟩ := q1.inb b (by simp [hb])
          exact ⟨.inl (by simp [hb]), Nat.lt_of_lt_of_le b2 e1.size, ((e1.keep b (hdis b hb) b2).2).trans b3⟩
      · simp only [List.mem_append] at hb
        rcases hb with (hb | hb) | hb
        · exact .inl (by simp [q5 b (by simp [hb])])
        · exact .inl (by simp [hb])
        · rcases (e6 b (by simp [hb])).1 with c1 | c1
          · exact .inl (subT b c1)
          · exact .inr c1
    | panicked chain => exact hend.elim
    | outgrown => exact hend.elim
  | pan v h' =>
    simp only [callR, Bool.false_eq_true, if_false, Option.some.injEq] at hr
    subst hr
    cases e with
    | returned cv => exact hend.elim
    | panicked chain =>
      obtain ⟨F', osH2, cv, e1, rfl, e3, e4, e5, e6⟩ := hend
      have hdis : ∀ b ∈ osH, b ∉ osA ++ [] := fun b hb hbx => by
        have h1 := q1.once b
        have h2 := List.count_pos_iff.2 hb
        have h3 := List.count_pos_iff.2 (show b ∈ osA by simpa using hbx)
        simp only [List.count_append] at h1
        omega
      refine H cv w' ⟨F', ρ, osH, e1.weaken fun b _ hb => subT b hb, fun _ _ x => x, e3, q1.heap.ext e1 hdis, fun b => ?_, fun b hb => ?_⟩
      · have := h.once b
        simp only [List.count_append] at this ⊢
        omega
      · obtain ⟨b1, b2, b3⟩ := q1.inb b (by simp [hb])
        exact ⟨.inl (by simp [hb]), Nat.lt_of_lt_of_le b2 e1.size, ((e1.keep b (hdis b hb) b2).2).trans b3⟩
    | outgrown => exact hend.elim

/-- A call that is handed the caller's objects. -/
theorem step_callH (hs : SoundCall P call) (h : Sim B a.tmps.toList w F ρ s rest osT osH) {f : FuncId} {vs : List V} {us : List (Nat × V × Bool)} {osT' osA : List Nat} {cargs : List Value}
    (q1 : Sim B a.tmps.toList w F ρ ⟨ups s.t us, s.h⟩ (osA ++ rest) osT' osH) (q2 : RepL (RepV w F ρ) cargs vs osA) (q3 : ∀ v ∈ vs, isAl v = false) (q5 : ∀ b ∈ osT' ++ osA, b ∈ osT)
    (hrun : enterable P f = true → (execOp a.eval o).run P w = .ok (.enter f cargs.toArray) w) (hr : callR true s.h us (call f vs s.h) = some r) : StepOK P a o B w F ρ s rest osT osH r := by
  obtain ⟨q, hq⟩ := callR_some hr
  rw [hq] at hr
  obtain ⟨he, hcalls⟩ := hs f vs s.h q hq
  have hc := hcalls B w F ρ (osT' ++ rest) osA osH cargs q2 q3 q1.heap (fun b => by have := q1.once b; simp only [List.count_append] at this ⊢; omega)
    (fun b hb => q1.inb b (by simp only [List.mem_append] at hb ⊢; rcases hb with (hb | hb) | (hb | hb) <;> simp [hb])) q1.fresh q1.base
  intro next Q H
  unfold Oper.wp
  rw [hrun he]
  refine Calls.mono hc fun e w' hend => ?_
  have subT : ∀ b, b ∈ osA ++ osH → b ∈ osT ++ osH := fun b hb => by
    simp only [List.mem_append] at hb ⊢
    rcases hb with hb | hb
    · exact .inl (q5 b (by simp [hb]))
    · exact .inr hb
  cases q with
  | ret v h' =>
    simp only [callR, if_true] at hr
    split at hr
    · cases hr
    simp only [Option.some.injEq] at hr
    subst hr
    cases e with
    | returned cv =>
      obtain ⟨F', osV, osH2, e1, e2, e3, e4, e5, e6⟩ := hend
      refine H cv w' F' ρ osT' osH2 osV (e1.weaken fun b _ hb => subT b hb) (fun _ _ x => x) (after_call q1 e1 (fun b hb => hb) e4 e2 e3 e5 e6) (fun b hb => ?_)
      simp only [List.mem_append] at hb
      have key : b ∈ osV ++ osH2 → b ∈ osT ++ osH ∨ w.heap.size ≤ b := fun hm => by
        rcases (e6 b hm).1 with c1 | c1
        · exact .inl (subT b c1)
        · exact .inr c1
      rcases hb with (hb | hb) | hb
      · exact .inl (by simp [q5 b (by simp [hb])])
      · exact key (by simp [hb])
      · exact key (by simp [hb])
    | panicked chain => exact hend.elim
    | outgrown => exact hend.elim
  | pan v h' =>
    simp only [callR, if_true, Option.some.injEq] at hr
    subst hr
    cases e with
    | returned cv => exact hend.elim
    | panicked chain =>
      obtain ⟨F', osH2, cv, e1, rfl, e3, e4, e5, e6⟩ := hend
      refine H cv w' ⟨F', ρ, osH2, e1.weaken fun b _ hb => subT b hb, fun _ _ x => x, e3, e4, fun b => ?_, fun b hb => ?_⟩
      · have := e5 b
        simp only [List.count_append] at this ⊢
        omega
      · obtain ⟨c1, c2, c3⟩ := e6 b hb
        refine ⟨?_, c2, c3⟩
        rcases c1 with c1 | c1
        · exact .inl (subT b c1)
        · exact .inr c1
    | outgrown => exact hend.elim

def chkCall (op : Op) : AOp → Bool
  | .call f args _ => match op with
    | .call ⟨.value (.func g), xs, _⟩ => g == f && chkArgs xs.toList args
    | _ => false
  | .callv y args => match op with
    | .call ⟨.value x, xs, _⟩ => chkS x y && chkArgs xs.toList args
    | _ => false
  | _ => false

theorem step_call (hs : SoundCall P call) (h : Sim B a.tmps.toList w F ρ s rest osT osH) {ao : AOp} (hc : chkCall o.op ao = true) (hr : opRes call (nth s.t) s.h ao = some r) : StepOK P a o B w F ρ s rest osT osH r := by
  cases ao with
  | call f args useH =>
    simp only [chkCall] at hc
    split at hc
    · rename_i g xs ts hop
      simp only [chkArgs, Bool.and_eq_true, beq_iff_eq] at hc
      obtain ⟨rfl, h1, h2⟩ := hc
      simp only [opRes] at hr
      cases ha : argsOf (nth s.t) useH args with
      | none => rw [ha] at hr; cases hr
      | some q =>
        obtain ⟨vs, us⟩ := q
        rw [ha] at hr
        simp only at hr
        obtain ⟨osT', osA, q1, q2, q3, q4, q5⟩ := args_ok h h1 h2 ha
        have hrun : enterable P g = true → (execOp a.eval o).run P w = .ok (.enter g (xs.toList.map a.eval).toArray) w := fun he => by
          have e1 : (xs.toList.map a.eval).toArray = xs.map a.eval := by apply Array.ext'; simp
          rw [e1]
          have e2 : a.eval (.func g) = .func (.func g) #[] #[] := rfl
          simp [execOp, hop, resolve, e2, Deferred.ofValue, invoke, run_callFunc he]
        cases useH with
        | false => exact step_callN hs h q1 q2 q3 (q4 rfl) q5 hrun (by simpa using hr)
        | true => exact step_callH hs h q1 q2 q3 q5 hrun (by simpa using hr)
    · cases hc
  | callv y args =>
    simp only [chkCall] at hc
    split at hc
    · rename_i x xs ts hop
      simp only [chkArgs, Bool.and_eq_true] at hc
      obtain ⟨h0, h1, h2⟩ := hc
      simp only [opRes] at hr
      split at hr
      · rename_i f caps vs us he ha
        obtain ⟨osT', osA, q1, q2, q3, q4, q5⟩ := args_ok h h1 h2 ha
        obtain ⟨os, hrep, _⟩ := h.ev h0
        rw [he] at hrep
        generalize hx : a.eval x = cx at hrep
        cases hrep with
        | e _ _ _ hrep => cases hrep with | d _ _ hrep => cases hrep
        | fn _ cvs _ c1 c2 =>
          have hcaps : RepL (RepV w F ρ) cvs.toList caps [] := by
            have key : ∀ (l : List Value) (cs : List V), l.length = cs.length → (∀ j, j < cs.length → ∃ id o b, nth cs j = .ptr id o ∧ ρ[id]? = some b ∧ l[j]? = some (.pointer (some ⟨b, o, none⟩))) → RepL (RepV w F ρ) l cs [] := by
              intro l
              induction l with
              | nil => intro cs hl _; cases cs with | nil => exact .nil | cons => simp at hl
              | cons u l ih =>
                intro cs hl hh
                cases cs with
                | nil => simp at hl
                | cons v cs =>
                  obtain ⟨id, o, b, p1, p2, p3⟩ := hh 0 (by simp)
                  simp only [nth] at p1
                  subst p1
                  simp only [List.getElem?_cons_zero, Option.some.injEq] at p3
                  subst p3
                  exact .cons _ _ _ _ [] [] (.ptr id o b p2) (ih cs (by simpa using hl) fun j hj => by simpa [nth] using hh (j + 1) (by simpa using hj))
            exact key cvs.toList caps (by simpa using c1) (fun j hj => by simpa using c2 j hj)
          have happ : RepL (RepV w F ρ) (xs.toList.map a.eval ++ cvs.toList) (vs ++ caps) osA := by
            clear hr ha q1 q3 q4 q5
            generalize xs.toList.map a.eval = L at q2
            induction q2 with
            | nil => exact hcaps
            | cons cv v cs vs o1 o2 p1 _ ih => exact .cons _ _ _ _ _ _ p1 ih
          refine step_callH hs h q1 happ (fun v hv => ?_) q5 (fun hent => ?_) hr
          · simp only [List.mem_append] at hv
            rcases hv with hv | hv
            · exact q3 v hv
            · obtain ⟨j, hj, hjv⟩ := List.getElem_of_mem hv
              obtain ⟨id, o, b, p1, _, _⟩ := c2 j hj
              rw [nth_eq_getElem hj, hjv] at p1
              rw [p1]
              rfl
          · have e1 : (xs.toList.map a.eval ++ cvs.toList).toArray = xs.map a.eval ++ cvs := by apply Array.ext'; simp
            rw [e1]
            simp [execOp, hop, resolve, hx, Deferred.ofValue, invoke, run_callFunc hent]
      · cases hr
    · cases hc
  | _ => cases hc

def chkX (P : Program) (op : Op) (ao : AOp) : Bool := chkO P op ao || chkCall op ao

theorem step_ok (hs : SoundCall P call) (h : Sim B a.tmps.toList w F ρ s rest osT osH) {ao : AOp} (hc : chkX P o.op ao = true) (hr : opRes call (nth s.t) s.h ao = some r) : StepOK P a o B w F ρ s rest osT osH r := by
  simp only [chkX, Bool.or_eq_true] at hc
  rcases hc with hc | hc
  · exact (op_ok h hc hr).step h
  · exact step_call hs h hc hr
end
end Go.Am
