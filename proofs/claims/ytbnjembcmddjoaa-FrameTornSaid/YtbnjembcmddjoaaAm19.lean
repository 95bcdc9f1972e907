/- Calls: what a sound table of calls gives an operation that calls. -/
import Derived.Test.YtbnjembcmddjoaaAm18
set_option linter.unusedVariables false
set_option linter.unusedSimpArgs false
namespace Go.Am
open Go Go.RowKit

def enterable (P : Program) (f : FuncId) : Bool := match P.funcs[f]? with
  | some fn => fn.name != "runtime.NumGoroutine" && fn.body.isSome
  | none => false

theorem run_callFunc {P : Program} {f : FuncId} {args : Array Value} {w : World} (h : enterable P f = true) : (callFunc f args).run P w = .ok (.enter f args) w := by
  unfold enterable at h
  split at h
  · rename_i fn hf
    simp only [Bool.and_eq_true, bne_iff_ne, ne_eq] at h
    obtain ⟨c, hb⟩ := Option.isSome_iff_exists.1 h.2
    simp [callFunc, hf, h.1, hb]
  · cases h

/-- What a call comes to. -/
def CallEnd (B : Nat) (w : World) (F : Nat → Nat) (ρ rest os : List Nat) : Rt → Ending → World → Prop
  | .ret v h', .returned cv, w' => ∃ F' osV osH', Ext B w F w' F' (fun b => b ∈ os) ∧ RepV w' F' ρ cv v osV ∧ isAl v = false ∧ RepH w' F' ρ h' osH' ∧ (∀ b, (osV ++ osH' ++ rest).count b ≤ 1) ∧
      ∀ b ∈ osV ++ osH', (b ∈ os ∨ w.heap.size ≤ b) ∧ b < w'.heap.size ∧ F' b = 0
  | .pan v h', .panicked chain, w' => ∃ F' osH' cv, Ext B w F w' F' (fun b => b ∈ os) ∧ chain = [{ v := cv, recovered := false }] ∧ RepD w' F' cv v ∧ RepH w' F' ρ h' osH' ∧ (∀ b, (osH' ++ rest).count b ≤ 1) ∧
      ∀ b ∈ osH', (b ∈ os ∨ w.heap.size ≤ b) ∧ b < w'.heap.size ∧ F' b = 0
  | _, _, _ => False

/-- A table of calls that the program bears out. -/
def SoundCall (P : Program) (call : CallF) : Prop := ∀ f vs h r, call f vs h = some r → enterable P f = true ∧
  ∀ (B : Nat) (w : World) (F : Nat → Nat) (ρ rest osA osH : List Nat) (cargs : List Value), RepL (RepV w F ρ) cargs vs osA → (∀ v ∈ vs, isAl v = false) → RepH w F ρ h osH → (∀ b, (osA ++ osH ++ rest).count b ≤ 1) →
    (∀ b ∈ osA ++ osH ++ rest, B ≤ b ∧ b < w.heap.size ∧ F b = 0) → (∀ b, w.heap.size ≤ b → F b = 0) → B ≤ w.heap.size →
    Calls P f cargs.toArray w (fun e w' => CallEnd B w F ρ rest (osA ++ osH) r e w')

/-- What is left of a frame that panics. -/
def PanOK (B : Nat) (w : World) (F : Nat → Nat) (ρ rest os : List Nat) (v : V) (h' : Heap) (cv : Value) (w' : World) : Prop :=
  ∃ F' ρ' osH', Ext B w F w' F' (fun b => b ∈ os) ∧ (∀ (id b : Nat), ρ[id]? = some b → ρ'[id]? = some b) ∧ RepD w' F' cv v ∧ RepH w' F' ρ' h' osH' ∧ (∀ b, (osH' ++ rest).count b ≤ 1) ∧
    ∀ b ∈ osH', (b ∈ os ∨ w.heap.size ≤ b) ∧ b < w'.heap.size ∧ F' b = 0

def StepOK (P : Program) (a : Act) (o : Oper) (B : Nat) (w : World) (F : Nat → Nat) (ρ : List Nat) (s : St) (rest osT osH : List Nat) (r : Rs) : Prop :=
  ∀ (next : Act → World → Prop) (Q : Exit → Act → World → Prop),
    (match r with
     | .val us v h' => ∀ cv w' F' ρ' osT' osH' osV, Ext B w F w' F' (fun b => b ∈ osT ++ osH) → (∀ (id b : Nat), ρ[id]? = some b → ρ'[id]? = some b) →
        SimV B a.tmps.toList w' F' ρ' (ups s.t us) h' cv v rest osT' osH' osV → (∀ b ∈ osT' ++ osH' ++ osV, b ∈ osT ++ osH ∨ w.heap.size ≤ b) → next (a.put o.dst cv) w'
     | .pan v h' => ∀ cv w', PanOK B w F ρ rest (osT ++ osH) v h' cv w' → Q (.panic [{ v := cv, recovered := false }]) a w') → o.wp P a w next Q

section
variable {P : Program} {a : Act} {o : Oper} {B : Nat} {w w' : World} {F F' : Nat → Nat} {ρ : List Nat} {s : St} {rest osT osH : List Nat} {call : CallF} {r : Rs}

theorem Sim.pan (h : Sim B a.tmps.toList w F ρ s rest osT osH) {v : V} {cv : Value} (hv : RepD w F cv v) : PanOK B w F ρ rest (osT ++ osH) v s.h cv w := by
  refine ⟨F, ρ, osH, Ext.refl h.fresh, fun _ _ x => x, hv, h.heap, fun b => ?_, fun b hb => ?_⟩
  · have := h.once b
    simp only [List.count_append] at this ⊢
    omega
  · obtain ⟨_, h2, h3⟩ := h.inb b (by simp [hb])
    exact ⟨.inl (by simp [hb]), h2, h3⟩

theorem OpOK.step (h : Sim B a.tmps.toList w F ρ s rest osT osH) (hk : OpOK P a o B w F ρ s rest osT osH r) : StepOK P a o B w F ρ s rest osT osH r := by
  intro next Q H
  unfold Oper.wp
  cases r with
  | val us v h' =>
    obtain ⟨cv, w', F', ρ', osT', osH', osV, hrun, h1, h2, h3, h4⟩ := hk
    have hn := H cv w' F' ρ' osT' osH' osV h1 h2 h3 h4
    rcases hrun with hrun | ⟨hrun, rfl⟩
    · rw [hrun]; exact hn
    · rw [hrun]; exact hn
  | pan v h' =>
    obtain ⟨rfl, cv, hrun, hv⟩ := hk
    rw [hrun]
    exact H cv w (h.pan hv)

def takenL : List (Src × Bool) → List Nat
  | [] => []
  | (.t i, true) :: l => i :: takenL l
  | _ :: l => takenL l

def nodupB : List Nat → Bool
  | [] => true
  | i :: l => !l.contains i && nodupB l

def chkA : List Operand → List (Src × Bool) → Bool
  | [], [] => true
  | x :: xs, (y, _) :: ys => chkS x y && chkA xs ys
  | _, _ => false

def chkArgs (xs : List Operand) (ys : List (Src × Bool)) : Bool := chkA xs ys && nodupB (takenL ys)

/-- What one argument comes to. -/
theorem argsOf_cons {ρ : Nat → V} {useH : Bool} {x : Src} {tk : Bool} {l : List (Src × Bool)} {vs : List V} {us : List (Nat × V × Bool)} (h : argsOf ρ useH ((x, tk) :: l) = some (vs, us)) :
    ∃ v vs' us', vs = v :: vs' ∧ v = Am.ev ρ x ∧ argsOf ρ useH l = some (vs', us') ∧
      (((∃ sz xs, v = .sl true sz xs) ∧ tk = true ∧ us = mvUps ρ x ++ us') ∨ (us = us' ∧ ((useH = true ∧ ∃ id o, v = .ptr id o) ∨ (∃ f caps, v = .fn f caps ∧ (useH = true ∨ caps = [])) ∨ v.data = true))) := by
  simp only [argsOf] at h
  split at h
  · cases h
  · rename_i vs' us' hl
    split at h
    · rename_i sz xs he
      split at h
      · rename_i ht
        simp only [Option.some.injEq, Prod.mk.injEq] at h
        obtain ⟨rfl, rfl⟩ := h
        exact ⟨_, vs', us', rfl, he.symm, hl, .inl ⟨⟨sz, xs, rfl⟩, ht, rfl⟩⟩
      · cases h
    · rename_i id o he
      split at h
      · rename_i ht
        simp only [Option.some.injEq, Prod.mk.injEq] at h
        obtain ⟨rfl, rfl⟩ := h
        exact ⟨_, vs', us', rfl, he.symm, hl, .inr ⟨rfl, .inl ⟨ht, id, o, rfl⟩⟩⟩
      · cases h
    · rename_i f caps he
      split at h
      · rename_i ht
        simp only [Option.some.injEq, Prod.mk.injEq] at h
        obtain ⟨rfl, rfl⟩ := h
        simp only [Bool.or_eq_true, List.isEmpty_iff] at ht
        exact ⟨_, vs', us', rfl, he.symm, hl, .inr ⟨rfl, .inr (.inl ⟨f, caps, rfl, ht⟩)⟩⟩
      · cases h
    · split at h
      · rename_i ht
        simp only [Option.some.injEq, Prod.mk.injEq] at h
        obtain ⟨rfl, rfl⟩ := h
        exact ⟨_, vs', us', rfl, rfl, hl, .inr ⟨rfl, .inr (.inr ht)⟩⟩
      · cases h

/-- The arguments are what they were where another slot has been handed over. -/
theorem argsOf_taken {t : List V} {i : Nat} {useH : Bool} (hi : ∃ sz xs, nth t i = .sl true sz xs) : ∀ {l : List (Src × Bool)} {vs : List V} {us : List (Nat × V × Bool)}, i ∉ takenL l → argsOf (nth t) useH l = some (vs, us) →
    argsOf (nth (ups1 t (i, .undef, true))) useH l = some (vs, us)
  | [], vs, us, _, h => h
  | (x, tk) :: l, vs, us, hn, h => by
    obtain ⟨v, vs', us', rfl, hv, hl, hc⟩ := argsOf_cons h
    have hn' : i ∉ takenL l := by
      cases x <;> cases tk <;> simp only [takenL, List.mem_cons, not_or] at hn <;> first | exact hn | exact hn.2
    have ih := argsOf_taken hi hn' hl
    have hlt : i < t.length := by
      obtain ⟨sz, xs, hh⟩ := hi
      exact nth_lt (fun h0 => by rw [h0] at hh; cases hh)
    have hev : Am.ev (nth (ups1 t (i, .undef, true))) x = Am.ev (nth t) x := by
      cases x with
      | t j =>
        simp only [Am.ev] at hv ⊢
        by_cases hij : i = j
        · subst hij
          exfalso
          obtain ⟨sz, xs, hh⟩ := hi
          rw [hh] at hv
          rcases hc with ⟨_, ht, _⟩ | ⟨_, hc⟩
          · subst ht; simp only [takenL, List.mem_cons, not_or] at hn; exact hn.1 trivial
          · rcases hc with ⟨_, id, o, hc⟩ | ⟨f, caps, hc, _⟩ | hc
            · rw [hc] at hv; cases hv
            · rw [hc] at hv; cases hv
            · rw [hv] at hc; cases hc
        · simp only [ups1]
          rw [nth_upd_ne hij, nth_map_killb, ← hv]
          have hal : isAl v = false := by
            rcases hc with ⟨⟨sz, xs, hc⟩, _⟩ | ⟨_, hc⟩
            · rw [hc]; rfl
            · rcases hc with ⟨_, id, o, hc⟩ | ⟨f, caps, hc, _⟩ | hc
              · rw [hc]; rfl
              · rw [hc]; rfl
              · exact data_isAl hc
          cases v <;> first | rfl | cases hal
      | _ => rfl
    have hmv : ∀ sz xs, v = .sl true sz xs → mvUps (nth (ups1 t (i, .undef, true))) x = mvUps (nth t) x := by
      intro sz xs hvv
      cases x with
      | t j => simp only [Am.ev] at hev; simp only [mvUps, hev]
      | _ => rfl
    simp only [argsOf, ih, hev, ← hv]
    rcases hc with ⟨⟨sz, xs, hc⟩, ht, hu⟩ | ⟨hu, hc⟩
    · rw [hmv sz xs hc]
      subst hc; subst ht; subst hu
      rfl
    · subst hu
      rcases hc with ⟨h1, id, o, hc⟩ | ⟨f, caps, hc, h1⟩ | hc
      · subst hc; simp [h1]
      · subst hc
        have : (useH || caps.isEmpty) = true := by rcases h1 with h1 | h1 <;> simp [h1]
        simp [this]
      · cases v <;> first | (simp [V.data]; done) | (cases hc; done) | (rename_i ow sz xs; cases ow <;> first | (simp [V.data]; done) | cases hc)

/-- The arguments of a call, with what they own taken out of the frame. -/
theorem args_ok {useH : Bool} : ∀ {ys : List (Src × Bool)} {xs : List Operand} {vs : List V} {us : List (Nat × V × Bool)} {s : St} {rest osT osH : List Nat}, Sim B a.tmps.toList w F ρ s rest osT osH → chkA xs ys = true → nodupB (takenL ys) = true →
    argsOf (nth s.t) useH ys = some (vs, us) →
    ∃ osT' osA, Sim B a.tmps.toList w F ρ ⟨ups s.t us, s.h⟩ (osA ++ rest) osT' osH ∧ RepL (RepV w F ρ) (xs.map a.eval) vs osA ∧ (∀ v ∈ vs, isAl v = false) ∧
      (useH = false → ∀ v ∈ vs, v.data = true ∨ (∃ sz zs, v = .sl true sz zs) ∨ ∃ f, v = .fn f []) ∧ ∀ b ∈ osT' ++ osA, b ∈ osT
  | [], [], vs, us, s, rest, osT, osH, h, _, _, ha => by
    simp only [argsOf, Option.some.injEq, Prod.mk.injEq] at ha
    obtain ⟨rfl, rfl⟩ := ha
    exact ⟨osT, [], by simpa [ups] using h, .nil, (fun v hv => by cases hv), (fun _ v hv => by cases hv), fun b hb => by simpa using hb⟩
  | (y, tk) :: ys, x :: xs, vs, us, s, rest, osT, osH, h, hc, hnd, ha => by
    rw [chkA, Bool.and_eq_true] at hc
    obtain ⟨v, vs', us', rfl, hv, hl, hcase⟩ := argsOf_cons ha
    have hal : isAl (Am.ev (nth s.t) y) = false := by
      rw [← hv]
      rcases hcase with ⟨⟨sz, xs, hc⟩, _⟩ | ⟨_, hc⟩
      · rw [hc]; rfl
      · rcases hc with ⟨_, id, o, hc⟩ | ⟨f, caps, hc, _⟩ | hc
        · rw [hc]; rfl
        · rw [hc]; rfl
        · exact data_isAl hc
    have hnd' : nodupB (takenL ys) = true := by
      cases y <;> cases tk <;> simp only [takenL, nodupB, Bool.and_eq_true] at hnd <;> first | exact hnd | exact hnd.2
    obtain ⟨osT1, osV, g1, g2⟩ := h.take hc.1 hal
    have hSim : Sim B a.tmps.toList w F ρ ⟨ups s.t (mvUps (nth s.t) y), s.h⟩ (osV ++ rest) osT1 osH := by
      refine ⟨g1.tmps, g1.heap, g1.alias, fun b => ?_, fun b hb => g1.inb b ?_, g1.fresh, g1.base⟩
      · have := g1.once b
        simp only [List.count_append] at this ⊢
        omega
      · simp only [List.mem_append] at hb ⊢
        rcases hb with (hb | hb) | (hb | hb) <;> simp [hb]
    have hups : us = mvUps (nth s.t) y ++ us' ∧ argsOf (nth (ups s.t (mvUps (nth s.t) y))) useH ys = some (vs', us') := by
      rcases hcase with ⟨⟨sz, zs, hc'⟩, ht, hu⟩ | ⟨hu, hc'⟩
      · refine ⟨hu, ?_⟩
        cases y with
        | t i =>
          simp only [Am.ev] at hv
          have hi : nth s.t i = .sl true sz zs := by rw [← hv, hc']
          have : ups s.t (mvUps (nth s.t) (.t i)) = ups1 s.t (i, .undef, true) := by simp only [mvUps, hi, V.lin, V.owner, if_true]; rfl
          rw [this]
          subst ht
          simp only [takenL, nodupB, Bool.and_eq_true, Bool.not_eq_true'] at hnd
          exact argsOf_taken ⟨sz, zs, hi⟩ (by simpa using hnd.1) hl
        | _ => exact hl
      · have hlin : (Am.ev (nth s.t) y).lin = false := by
          rw [← hv]
          rcases hc' with ⟨_, id, o, hc'⟩ | ⟨f, caps, hc', _⟩ | hc'
          · rw [hc']; rfl
          · rw [hc']; rfl
          · cases v <;> first | rfl | (cases hc'; done) | (rename_i ow sz xs; cases ow <;> first | rfl | cases hc')
        have : mvUps (nth s.t) y = [] := by
          cases y with
          | t i => simp only [Am.ev] at hlin; simp [mvUps, hlin]
          | _ => rfl
        rw [this]
        exact ⟨by rw [hu]; rfl, hl⟩
    obtain ⟨rfl, ha'⟩ := hups
    obtain ⟨osT', osA, q1, q2, q3, q4, q5⟩ := args_ok hSim hc.2 hnd' ha'
    refine ⟨osT', osV ++ osA, ?_, ?_, ?_, ?_, fun b hb => ?_⟩
    · rw [ups_append]
      refine ⟨q1.tmps, q1.heap, q1.alias, fun b => ?_, fun b hb => q1.inb b ?_, q1.fresh, q1.base⟩
      · have := q1.once b
        simp only [List.count_append] at this ⊢
        omega
      · simp only [List.mem_append] at hb ⊢
        rcases hb with (hb | hb) | ((hb | hb) | hb) <;> simp [hb]
    · have := g1.val
      rw [← hv] at this
      exact .cons _ _ _ _ _ _ this q2
    · intro u hu
      cases hu with
      | head => rw [hv]; exact hal
      | tail _ hu => exact q3 u hu
    · intro hf u hu
      cases hu with
      | head =>
        rcases hcase with ⟨hc', _⟩ | ⟨_, hc'⟩
        · exact .inr (.inl hc')
        · rcases hc' with ⟨h1, _⟩ | ⟨f, caps, hc', h1⟩ | hc'
          · rw [hf] at h1; cases h1
          · rcases h1 with h1 | h1
            · rw [hf] at h1; cases h1
            · subst h1; exact .inr (.inr ⟨f, hc'⟩)
          · exact .inl hc'
      | tail _ hu => exact q4 hf u hu
    · simp only [List.mem_append] at hb
      rcases hb with hb | hb | hb
      · exact g2 b (by simp [q5 b (by simp [hb])])
      · exact g2 b (by simp [hb])
      · exact g2 b (by simp [q5 b (by simp [hb])])
  | [], _ :: _, _, _, _, _, _, _, _, hc, _, _ => by cases hc
  | _ :: _, [], _, _, _, _, _, _, _, hc, _, _ => by cases hc

theorem RepV.rho {cv : Value} {v : V} {os ρ' : List Nat} (h : RepV w F ρ cv v os) (hk : v.data = true ∨ (∃ sz zs, v = .sl true sz zs) ∨ ∃ f, v = .fn f []) : RepV w F ρ' cv v os := by
  cases h with
  | e _ _ _ h => exact .e _ _ _ h
  | fn f cvs caps h1 h2 =>
    rcases hk with hk | ⟨sz, zs, hk⟩ | ⟨f', hk⟩
    · cases hk
    · cases hk
    · simp only [V.fn.injEq] at hk
      obtain ⟨rfl, rfl⟩ := hk
      exact .fn _ _ _ h1 (fun j hj => by simp at hj)
  | ptr => rcases hk with hk | ⟨sz, zs, hk⟩ | ⟨f', hk⟩ <;> cases hk
  | rptr => rcases hk with hk | ⟨sz, zs, hk⟩ | ⟨f', hk⟩ <;> cases hk
  | box => rcases hk with hk | ⟨sz, zs, hk⟩ | ⟨f', hk⟩ <;> cases hk
  | bref => rcases hk with hk | ⟨sz, zs, hk⟩ | ⟨f', hk⟩ <;> cases hk
  | al => rcases hk with hk | ⟨sz, zs, hk⟩ | ⟨f', hk⟩ <;> cases hk
  | iter => rcases hk with hk | ⟨sz, zs, hk⟩ | ⟨f', hk⟩ <;> cases hk
  | tup => rcases hk with hk | ⟨sz, zs, hk⟩ | ⟨f', hk⟩ <;> cases hk

theorem RepV.rhoUp {cv : Value} {v : V} {os ρ' : List Nat} (h : RepV w F ρ cv v os) (hρ : ∀ (id b : Nat), ρ[id]? = some b → ρ'[id]? = some b) : RepV w F ρ' cv v os := by
  cases h with
  | e _ _ _ h => exact .e _ _ _ h
  | tup cvs vs os h => exact .tup _ _ _ h
  | ptr id off b h => exact .ptr _ _ _ (hρ _ _ h)
  | rptr b off cs cvf h1 h2 h3 => exact .rptr b off cs cvf h1 h2 h3
  | box b cs os h => exact .box _ _ _ h
  | bref => exact .bref _ _ _
  | al => exact .al _ _
  | fn f cvs caps h1 h2 =>
    refine .fn _ _ _ h1 fun j hj => ?_
    obtain ⟨id, o, b, e1, e2, e3⟩ := h2 j hj
    exact ⟨id, o, b, e1, hρ _ _ e2, e3⟩
  | iter b s l pos h1 h2 h3 => exact .iter b s l pos h1 h2 h3
end
end Go.Am
