/- Operations that may change places: what an operation reads, writes, strikes. -/
import Derived.Test.YtkoecjhljfmkfaaAm21
import Derived.Orders
set_option linter.unusedVariables false
set_option linter.unusedSimpArgs false
namespace Go.Am
open Go Go.RowKit

def rs : Src → List Nat
  | .t i => [i]
  | _ => []
def ob : Option Nat → List Nat
  | some d => [d]
  | none => []
def rso : Option Src → List Nat
  | some x => rs x
  | none => []
def rsP : List (Nat × Nat × Src) → List Nat
  | [] => []
  | (_, _, x) :: l => rs x ++ rsP l
def rsE : List (Nat × Src) → List Nat
  | [] => []
  | (_, x) :: l => rs x ++ rsE l
def rsA : List (Src × Bool) → List Nat
  | [] => []
  | (x, _) :: l => rs x ++ rsA l

/-- The slots that an operation looks at. -/
def reads : AOp → List Nat
  | .mv x => rs x
  | .cp x => rs x
  | .al d => [d]
  | .pick a b c => rs a ++ rs b ++ rs c
  | .boxr x => rs x
  | .boxb x => rs x
  | .build _ ps => rsP ps
  | .bsl _ _ _ ps => rsE ps
  | .fa x _ b => rs x ++ ob b
  | .ia x i _ _ b => rs x ++ rs i ++ ob b
  | .ld x _ _ b => rs x ++ ob b
  | .st x v _ _ b => rs x ++ rs v ++ ob b
  | .nck x b => rs x ++ ob b
  | .bin _ x y => rs x ++ rs y
  | .beq _ x y => rs x ++ rs y
  | .eqs _ _ x y => rs x ++ rs y
  | .un _ x => rs x
  | .cvi _ x => rs x
  | .cvid x => rs x
  | .cvs x b => rs x ++ ob b
  | .cvb x => rs x
  | .cvr x => rs x
  | .mki _ x => rs x
  | .mk _ _ _ x y => rs x ++ rs y
  | .slc _ x lo hi mx => rs x ++ rso lo ++ rso hi ++ rso mx
  | .idx x i _ _ _ => rs x ++ rs i
  | .fld x _ _ _ => rs x
  | .ext j _ => [j]
  | .call _ args _ => rsA args
  | .len _ x b => rs x ++ ob b
  | .app _ _ x y b => rs x ++ rs y ++ ob b
  | _ => []

/-- The operations that are known to a region whose order is not fixed. -/
def drawable : AOp → Bool
  | .mv _ => true
  | .cp _ => true
  | .al _ => true
  | .pick _ _ _ => true
  | .newbox _ => true
  | .boxr _ => true
  | .boxb _ => true
  | .build _ _ => true
  | .bsl _ _ _ _ => true
  | .fa _ _ _ => true
  | .ia _ _ _ _ _ => true
  | .ld _ _ tr b => b.isSome || !tr
  | .st _ _ _ _ b => b.isSome
  | .nck _ _ => true
  | .bin _ _ _ => true
  | .beq _ _ _ => true
  | .eqs _ _ _ _ => true
  | .un _ _ => true
  | .cvi _ _ => true
  | .cvid _ => true
  | .cvs _ _ => true
  | .cvb _ => true
  | .cvr _ => true
  | .mki _ _ => true
  | .mk _ _ _ _ _ => true
  | .slc _ _ _ _ _ => true
  | .idx _ _ _ _ _ => true
  | .fld _ _ _ _ => true
  | .ext _ _ => true
  | .call _ _ _ => true
  | .len _ _ _ => true
  | .app _ _ _ _ _ => true
  | _ => false

/-- 0: no object is looked at; 1: objects are read; 2: objects may change. -/
def hcl : AOp → Nat
  | .ld _ _ _ none => 1
  | .call _ _ true => 2
  | _ => 0

/-- Slots that change beside the target. -/
def writes : AOp → List Nat
  | .mv x => rs x
  | .ld _ _ true b => ob b
  | .st _ v _ tr b => (if tr then rs v else []) ++ ob b
  | .ext j _ => [j]
  | .call _ args _ => takenL args
  | .app _ _ x _ _ => rs x
  | _ => []

/-- Slots whose aliases are struck. -/
def kills : AOp → List Nat
  | .mv x => rs x
  | .st _ v _ tr _ => if tr then rs v else []
  | .call _ args _ => takenL args
  | .app _ _ x _ _ => rs x
  | _ => []

section
variable {ρ ρ' : Nat → V} {h h' : Heap} {c : CallF} {r : Rs}

theorem ev_congr {x : Src} (e : ∀ k ∈ rs x, ρ k = ρ' k) : Am.ev ρ x = Am.ev ρ' x := by
  cases x with
  | t i => exact e i (by simp [rs])
  | _ => rfl

theorem place_congr {x : Src} {b : Option Nat} (e : ∀ k ∈ rs x, ρ k = ρ' k) : place ρ x b = place ρ' x b := by
  unfold place
  rw [ev_congr e]

theorem dat_congr {x : Src} (e : ∀ k ∈ rs x, ρ k = ρ' k) : dat ρ x = dat ρ' x := by
  unfold dat
  rw [ev_congr e]

theorem intOf_congr {x : Src} (e : ∀ k ∈ rs x, ρ k = ρ' k) : intOf ρ x = intOf ρ' x := by
  unfold intOf
  rw [ev_congr e]

theorem mvUps_congr {x : Src} (e : ∀ k ∈ rs x, ρ k = ρ' k) : mvUps ρ x = mvUps ρ' x := by
  cases x with
  | t i => simp only [mvUps]; rw [e i (by simp [rs])]
  | _ => rfl

theorem cpV_congr {x : Src} (e : ∀ k ∈ rs x, ρ k = ρ' k) : cpV ρ x = cpV ρ' x := by
  cases x with
  | t i => simp only [cpV]; rw [e i (by simp [rs])]
  | _ => rfl

theorem stVal_congr {x : Src} {tr : Bool} (e : ∀ k ∈ rs x, ρ k = ρ' k) : stVal ρ x tr = stVal ρ' x tr := by
  unfold stVal
  rw [ev_congr e, mvUps_congr e]

theorem rdsl_congr {x : Src} {b : Option Nat} (e : ∀ k ∈ rs x ++ ob b, ρ k = ρ' k) : Am.rdsl ρ x b = Am.rdsl ρ' x b := by
  unfold Am.rdsl
  rw [ev_congr (fun k hk => e k (by simp [hk]))]
  split
  · rfl
  · rename_i d _
    cases b with
    | none => rfl
    | some d' =>
      simp only
      by_cases hd : d = d'
      · rw [e d (by subst hd; simp [ob])]
      · simp only [if_neg hd]
  · rfl

theorem bound_congr {x : Option Src} {d : Int} (e : ∀ k ∈ rso x, ρ k = ρ' k) : Am.bound ρ x d = Am.bound ρ' x d := by
  cases x with
  | none => rfl
  | some x => exact intOf_congr e

theorem fill_congr : ∀ {ps : List (Nat × Nat × Src)} {cs : List V}, (∀ k ∈ rsP ps, ρ k = ρ' k) → fill cs ρ ps = fill cs ρ' ps
  | [], _, _ => rfl
  | (off, sz, x) :: ps, cs, e => by
    simp only [fill]
    rw [dat_congr (fun k hk => e k (by simp [rsP, hk]))]
    split
    · split
      · exact fill_congr (fun k hk => e k (by simp [rsP, hk]))
      · rfl
    · rfl

theorem fillE_congr {sz : Nat} : ∀ {ps : List (Nat × Src)} {cs : List V}, (∀ k ∈ rsE ps, ρ k = ρ' k) → fillE sz cs ρ ps = fillE sz cs ρ' ps
  | [], _, _ => rfl
  | (i, x) :: ps, cs, e => by
    simp only [fillE]
    rw [dat_congr (fun k hk => e k (by simp [rsE, hk]))]
    split
    · split
      · exact fillE_congr (fun k hk => e k (by simp [rsE, hk]))
      · rfl
    · rfl

theorem argsOf_congr {useH : Bool} : ∀ {l : List (Src × Bool)}, (∀ k ∈ rsA l, ρ k = ρ' k) → argsOf ρ useH l = argsOf ρ' useH l
  | [], _ => rfl
  | (x, tk) :: l, e => by
    simp only [argsOf]
    rw [argsOf_congr (fun k hk => e k (by simp [rsA, hk])), ev_congr (fun k hk => e k (by simp [rsA, hk])), mvUps_congr (fun k hk => e k (by simp [rsA, hk]))]

/-- An operation sees what it reads alone. -/
theorem op_congr {op : AOp} (hd : drawable op = true) (e : ∀ k ∈ reads op, ρ k = ρ' k) : opRes c ρ h op = opRes c ρ' h op := by
  cases op with
  | mv x => simp only [opRes]; rw [ev_congr e, mvUps_congr e]
  | cp x => simp only [opRes]; rw [cpV_congr e]
  | al d => simp only [opRes]; rw [e d (by simp [reads])]
  | pick a b d => simp only [opRes]; rw [ev_congr (x := a) (fun k hk => e k (by simp [reads, hk])), ev_congr (x := b) (fun k hk => e k (by simp [reads, hk])), ev_congr (x := d) (fun k hk => e k (by simp [reads, hk]))]
  | newbox cs => rfl
  | boxr x => simp only [opRes]; rw [dat_congr e]
  | boxb x => simp only [opRes]; rw [dat_congr e]
  | build z ps => simp only [opRes]; rw [fill_congr e]
  | bsl sz n z ps => simp only [opRes]; rw [fillE_congr e]
  | fa x off b => simp only [opRes]; rw [place_congr (fun k hk => e k (by simp [reads, hk]))]
  | ia x i sz len b =>
    simp only [opRes]
    rw [intOf_congr (x := i) (fun k hk => e k (by simp [reads, hk])), place_congr (x := x) (fun k hk => e k (by simp [reads, hk])), ev_congr (x := x) (fun k hk => e k (by simp [reads, hk]))]
    cases b with
    | none => rfl
    | some d' =>
      split
      · rfl
      · split
        · rfl
        · split
          · rfl
          · rename_i d _
            by_cases hdd : d = d'
            · rw [e d (by subst hdd; simp [reads, ob])]
            · simp only [hdd, false_and, if_false]
              split <;> split <;> rfl
          · rfl
  | ld x n tr b =>
    simp only [opRes]
    rw [place_congr (x := x) (fun k hk => e k (by simp [reads, hk]))]
    split
    · rename_i d o hp
      have hd' : ρ d = ρ' d := by
        unfold place at hp
        split at hp
        · split at hp
          · rename_i i d2 _ _
            split at hp
            · rename_i hid
              simp only [Option.some.injEq, Pl.slot.injEq] at hp
              rw [← hp.1]
              exact e _ (by simp [reads, rs])
            · cases hp
          · cases hp
        · split at hp
          · split at hp
            · rename_i hid
              simp only [Option.some.injEq, Pl.slot.injEq] at hp
              rw [← hp.1]
              exact e _ (by subst hid; simp [reads, ob])
            · cases hp
          · cases hp
        · split at hp <;> cases hp
        · split at hp <;> cases hp
        · cases hp
      rw [hd']
    · rfl
    · rfl
    · rfl
  | st x v n tr b =>
    simp only [opRes]
    rw [stVal_congr (x := v) (fun k hk => e k (by simp [reads, hk]))]
    split
    · rfl
    · split
      · rw [place_congr (x := x) (fun k hk => e k (by simp [reads, hk]))]
        split
        · rename_i d o hp
          have hd' : ρ d = ρ' d := by
            unfold place at hp
            split at hp
            · split at hp
              · rename_i i d2 _ _
                split at hp
                · rename_i hid
                  simp only [Option.some.injEq, Pl.slot.injEq] at hp
                  rw [← hp.1]
                  exact e _ (by simp [reads, rs])
                · cases hp
              · cases hp
            · split at hp
              · split at hp
                · rename_i hid
                  simp only [Option.some.injEq, Pl.slot.injEq] at hp
                  rw [← hp.1]
                  exact e _ (by subst hid; simp [reads, ob])
                · cases hp
              · cases hp
            · split at hp <;> cases hp
            · split at hp <;> cases hp
            · cases hp
          rw [hd']
        · rfl
        · rfl
      · rfl
  | nck x b => simp only [opRes]; rw [place_congr (x := x) (fun k hk => e k (by simp [reads, hk])), ev_congr (x := x) (fun k hk => e k (by simp [reads, hk]))]
  | bin o x y => simp only [opRes]; rw [ev_congr (x := x) (fun k hk => e k (by simp [reads, hk])), ev_congr (x := y) (fun k hk => e k (by simp [reads, hk]))]
  | beq o x y => simp only [opRes]; rw [ev_congr (x := x) (fun k hk => e k (by simp [reads, hk])), ev_congr (x := y) (fun k hk => e k (by simp [reads, hk]))]
  | eqs o ks x y => simp only [opRes]; rw [ev_congr (x := x) (fun k hk => e k (by simp [reads, hk])), ev_congr (x := y) (fun k hk => e k (by simp [reads, hk]))]
  | un o x => simp only [opRes]; rw [ev_congr e]
  | cvi k x => simp only [opRes]; rw [ev_congr e]
  | cvid x => simp only [opRes]; rw [ev_congr e]
  | cvs x b => simp only [opRes]; rw [rdsl_congr e]
  | cvb x => simp only [opRes]; rw [ev_congr e]
  | cvr x => simp only [opRes]; rw [ev_congr e]
  | mki t x => simp only [opRes]; rw [dat_congr e]
  | mk sz bytes z x y => simp only [opRes]; rw [intOf_congr (x := x) (fun k hk => e k (by simp [reads, hk])), intOf_congr (x := y) (fun k hk => e k (by simp [reads, hk]))]
  | slc sz x lo hi mx =>
    simp only [opRes]
    rw [ev_congr (x := x) (fun k hk => e k (by simp [reads, hk]))]
    simp only [bound_congr (x := lo) (fun k hk => e k (by simp [reads, hk])), bound_congr (x := hi) (fun k hk => e k (by simp [reads, hk])), bound_congr (x := mx) (fun k hk => e k (by simp [reads, hk]))]
  | idx x i len n ag => simp only [opRes]; rw [intOf_congr (x := i) (fun k hk => e k (by simp [reads, hk])), ev_congr (x := x) (fun k hk => e k (by simp [reads, hk]))]
  | fld x off n ag => simp only [opRes]; rw [ev_congr e]
  | ext j i => simp only [opRes]; rw [e j (by simp [reads])]
  | call f args useH => simp only [opRes]; rw [argsOf_congr e]
  | len st x b => simp only [opRes]; rw [ev_congr (x := x) (fun k hk => e k (by simp [reads, hk])), rdsl_congr e]
  | app sz bytes x y b =>
    simp only [opRes]
    rw [ev_congr (x := x) (fun k hk => e k (by simp [reads, hk])), ev_congr (x := y) (fun k hk => e k (by simp [reads, hk])), rdsl_congr (x := y) (b := b) (fun k hk => e k (by simp only [List.mem_append] at hk; simp only [reads, List.mem_append]; rcases hk with hk | hk <;> simp [hk])), mvUps_congr (x := x) (fun k hk => e k (by simp [reads, hk]))]
  | _ => cases hd
end


def setH (h : Heap) : Rs → Rs
  | .val us v _ => .val us v h
  | .pan v _ => .pan v h

section
variable {ρ ρ' : Nat → V} {h h' : Heap} {c : CallF} {r : Rs}

theorem place_some {x : Src} {d : Nat} {p : Pl} (hp : place ρ x (some d) = some p) : ∃ o, p = .slot d o := by
  unfold place at hp
  cases hx : Am.ev ρ x with
  | box cs =>
    rw [hx] at hp
    cases x with
    | t i =>
      simp only at hp
      split at hp
      · rename_i hid
        subst hid
        simp only [Option.some.injEq] at hp
        exact ⟨0, hp.symm⟩
      · cases hp
    | _ => cases hp
  | bref d2 o =>
    rw [hx] at hp
    simp only at hp
    split at hp
    · rename_i hid
      subst hid
      simp only [Option.some.injEq] at hp
      exact ⟨o, hp.symm⟩
    · cases hp
  | _ => rw [hx] at hp; cases hp

theorem place_none {x : Src} {d o : Nat} (hp : place ρ x none = some (.slot d o)) : False := by
  unfold place at hp
  cases hx : Am.ev ρ x with
  | box cs =>
    rw [hx] at hp
    cases x <;> cases hp
  | _ => rw [hx] at hp; cases hp

/-- The objects play no part. -/
theorem op_setH {op : AOp} (hd : drawable op = true) (h0 : hcl op = 0) : opRes c ρ h' op = (opRes c ρ h op).map (setH h') := by
  cases op with
  | ld x n tr b =>
    cases b with
    | none => cases h0
    | some d =>
      simp only [opRes]
      cases hp : place ρ x (some d) with
      | none => rfl
      | some p =>
        obtain ⟨o, rfl⟩ := place_some hp
        simp only
        (repeat' split) <;> rfl
  | st x v n tr b =>
    cases b with
    | none => cases hd
    | some d =>
      simp only [opRes]
      cases stVal ρ v tr with
      | none => rfl
      | some q =>
        cases hp : place ρ x (some d) with
        | none => simp only; split <;> rfl
        | some p =>
          obtain ⟨o, rfl⟩ := place_some hp
          simp only
          (repeat' split) <;> rfl
  | call f args useH =>
    cases useH with
    | true => cases h0
    | false =>
      simp only [opRes]
      split
      · simp only [Bool.false_eq_true, if_false]
        cases c f _ [] with
        | none => rfl
        | some q => cases q <;> rfl
      · rfl
  | mv x => simp only [opRes]; (repeat' split) <;> rfl
  | cp x => simp only [opRes]; (repeat' split) <;> rfl
  | al d => simp only [opRes]; (repeat' split) <;> rfl
  | pick a b d => simp only [opRes]; (repeat' split) <;> rfl
  | newbox cs => rfl
  | boxr x => simp only [opRes]; (repeat' split) <;> rfl
  | boxb x => simp only [opRes]; (repeat' split) <;> rfl
  | build z ps => simp only [opRes]; (repeat' split) <;> rfl
  | bsl sz n z ps => simp only [opRes]; (repeat' split) <;> rfl
  | fa x off b => simp only [opRes]; (repeat' split) <;> rfl
  | ia x i sz len b => simp only [opRes]; (repeat' split) <;> rfl
  | nck x b => simp only [opRes]; (repeat' split) <;> rfl
  | bin o x y => simp only [opRes]; (repeat' split) <;> rfl
  | beq o x y => simp only [opRes]; (repeat' split) <;> rfl
  | eqs o ks x y => simp only [opRes]; (repeat' split) <;> rfl
  | un o x => simp only [opRes]; (repeat' split) <;> rfl
  | cvi k x => simp only [opRes]; (repeat' split) <;> rfl
  | cvid x => simp only [opRes]; (repeat' split) <;> rfl
  | cvs x b => simp only [opRes]; (repeat' split) <;> rfl
  | cvb x => simp only [opRes]; (repeat' split) <;> rfl
  | cvr x => simp only [opRes]; (repeat' split) <;> rfl
  | mki t x => simp only [opRes]; (repeat' split) <;> rfl
  | mk sz bytes z x y => simp only [opRes]; (repeat' split) <;> rfl
  | slc sz x lo hi mx => simp only [opRes]; (repeat' split) <;> rfl
  | idx x i len n ag => simp only [opRes]; (repeat' split) <;> rfl
  | fld x off n ag => simp only [opRes]; (repeat' split) <;> rfl
  | ext j i => simp only [opRes]; (repeat' split) <;> rfl
  | len st x b => simp only [opRes]; (repeat' split) <;> rfl
  | app sz bytes x y b => simp only [opRes]; (repeat' split) <;> rfl
  | _ => cases hd

theorem mvUps_mem {x : Src} {u : Nat × V × Bool} (hu : u ∈ mvUps ρ x) : u.1 ∈ rs x ∧ u.2.1 = .undef := by
  cases x with
  | t i =>
    simp only [mvUps] at hu
    split at hu
    · obtain rfl := List.mem_singleton.1 hu; exact ⟨by simp [rs], rfl⟩
    · cases hu
  | _ => cases hu

theorem argsOf_mem {useH : Bool} {u : Nat × V × Bool} : ∀ {l : List (Src × Bool)} {vs : List V} {us : List (Nat × V × Bool)}, argsOf ρ useH l = some (vs, us) → u ∈ us → u.1 ∈ takenL l ∧ u.2.1 = .undef
  | [], vs, us, h, hu => by
    simp only [argsOf, Option.some.injEq, Prod.mk.injEq] at h
    obtain ⟨rfl, rfl⟩ := h
    cases hu
  | (x, tk) :: l, vs, us, h, hu => by
    obtain ⟨v, vs', us', rfl, hv, hl, hc⟩ := argsOf_cons h
    have up : ∀ k, k ∈ takenL l → k ∈ takenL ((x, tk) :: l) := fun k hk => by
      cases x <;> cases tk <;> simp [takenL, hk]
    rcases hc with ⟨_, rfl, rfl⟩ | ⟨rfl, _⟩
    · simp only [List.mem_append] at hu
      rcases hu with hu | hu
      · obtain ⟨h1, h2⟩ := mvUps_mem hu
        refine ⟨?_, h2⟩
        cases x with
        | t i => simp only [rs, List.mem_singleton] at h1; simp [takenL, h1]
        | _ => cases h1
      · obtain ⟨h1, h2⟩ := argsOf_mem hl hu
        exact ⟨up _ h1, h2⟩
    · obtain ⟨h1, h2⟩ := argsOf_mem hl hu
      exact ⟨up _ h1, h2⟩

/-- What changes beside the target. -/
theorem op_ups {op : AOp} {us : List (Nat × V × Bool)} {v : V} {h1 : Heap} (hd : drawable op = true) (H : opRes c ρ h op = some (.val us v h1)) :
    ∀ u ∈ us, u.1 ∈ writes op ∧ (u.2.2 = true → u.1 ∈ kills op) ∧ isAl u.2.1 = false := by
  have nil : ∀ {us : List (Nat × V × Bool)}, us = [] → ∀ u ∈ us, u.1 ∈ writes op ∧ (u.2.2 = true → u.1 ∈ kills op) ∧ isAl u.2.1 = false := fun h u hu => by subst h; cases hu
  cases op with
  | mv x =>
    simp only [opRes] at H
    split at H
    · cases H
    · simp only [Option.some.injEq, Rs.val.injEq] at H
      intro u hu
      rw [← H.1] at hu
      obtain ⟨h1, h2⟩ := mvUps_mem hu
      exact ⟨h1, fun _ => h1, by rw [h2]; rfl⟩
  | ld x n tr b =>
    simp only [opRes] at H
    split at H
    · rename_i d o hp
      cases b with
      | none => exact (place_none hp).elim
      | some d' =>
        obtain ⟨o', ho⟩ := place_some hp
        simp only [Pl.slot.injEq] at ho
        obtain ⟨rfl, rfl⟩ := ho
        split at H
        · cases H
        · split at H
          · split at H
            · cases tr with
              | true =>
                simp only [if_true] at H
                split at H
                · simp only [Option.some.injEq, Rs.val.injEq] at H
                  intro u hu
                  rw [← H.1] at hu
                  obtain rfl := List.mem_singleton.1 hu
                  exact ⟨by simp [writes, ob], (fun hh => by cases hh), rfl⟩
                · cases H
              | false =>
                simp only [Bool.false_eq_true, if_false] at H
                split at H
                · simp only [Option.some.injEq, Rs.val.injEq] at H; exact nil H.1.symm
                · cases H
            · cases H
          · split at H
            · split at H
              · simp only [Option.some.injEq, Rs.val.injEq] at H; exact nil H.1.symm
              · cases H
            · cases H
    · (repeat' split at H) <;> first | (cases H; done) | (simp only [Option.some.injEq, Rs.val.injEq] at H; exact nil H.1.symm)
    · (repeat' split at H) <;> first | (cases H; done) | (simp only [Option.some.injEq, Rs.val.injEq] at H; exact nil H.1.symm)
    · cases H
  | st x v n tr b =>
    cases b with
    | none => cases hd
    | some d' =>
      simp only [opRes] at H
      split at H
      · cases H
      · rename_i wv us0 hst
        have hus0 : ∀ u ∈ us0, (tr = true ∧ u.1 ∈ rs v) ∧ u.2.1 = .undef := by
          intro u hu
          unfold stVal at hst
          split at hst
          · split at hst
            · rename_i htr
              simp only [Option.some.injEq, Prod.mk.injEq] at hst
              rw [← hst.2] at hu
              obtain ⟨h1, h2⟩ := mvUps_mem hu
              exact ⟨⟨htr, h1⟩, h2⟩
            · cases hst
          · split at hst
            · simp only [Option.some.injEq, Prod.mk.injEq] at hst
              rw [← hst.2] at hu
              cases hu
            · cases hst
        split at H
        · split at H
          · rename_i d o hp
            obtain ⟨o', ho⟩ := place_some hp
            simp only [Pl.slot.injEq] at ho
            obtain ⟨rfl, rfl⟩ := ho
            split at H
            · split at H
              · simp only [Option.some.injEq, Rs.val.injEq] at H
                intro u hu
                rw [← H.1] at hu
                simp only [List.mem_append, List.mem_singleton] at hu
                rcases hu with hu | rfl
                · obtain ⟨⟨h1, h2⟩, h3⟩ := hus0 u hu
                  exact ⟨by simp [writes, h1, h2], (fun _ => by simp [kills, h1, h2]), by rw [h3]; rfl⟩
                · exact ⟨by simp [writes, ob], (fun hh => by cases hh), rfl⟩
              · cases H
            · split at H
              · simp only [Option.some.injEq, Rs.val.injEq] at H
                intro u hu
                rw [← H.1] at hu
                obtain rfl := List.mem_singleton.1 hu
                exact ⟨by simp [writes, ob], (fun hh => by cases hh), rfl⟩
              · cases H
            · cases H
          · rename_i id o hp
            obtain ⟨o', ho⟩ := place_some hp
            cases ho
          · cases H
        · cases H
  | ext j i =>
    simp only [opRes] at H
    split at H
    · split at H
      · split at H
        · simp only [Option.some.injEq, Rs.val.injEq] at H
          intro u hu
          rw [← H.1] at hu
          obtain rfl := List.mem_singleton.1 hu
          exact ⟨by simp [writes], (fun hh => by cases hh), rfl⟩
        · simp only [Option.some.injEq, Rs.val.injEq] at H; exact nil H.1.symm
      · cases H
    · cases H
  | call f args useH =>
    simp only [opRes] at H
    split at H
    · rename_i vs us0 ha
      obtain ⟨q, hq⟩ := callR_some H
      rw [hq] at H
      cases q with
      | ret v h2 =>
        simp only [callR, Option.some.injEq, Rs.val.injEq] at H
        intro u hu
        rw [← H.1] at hu
        obtain ⟨h1, h2⟩ := argsOf_mem ha hu
        exact ⟨h1, fun _ => h1, by rw [h2]; rfl⟩
      | pan v h2 => simp [callR] at H
    · cases H
  | app sz bytes x y b =>
    simp only [opRes] at H
    split at H
    · split at H
      · split at H
        · simp only [Option.some.injEq, Rs.val.injEq] at H
          intro u hu
          rw [← H.1] at hu
          obtain ⟨h1, h2⟩ := mvUps_mem hu
          exact ⟨h1, fun _ => h1, by rw [h2]; rfl⟩
        · cases H
      · cases H
    · cases H
  | cp x => simp only [opRes] at H; (repeat' split at H) <;> first | (cases H; done) | (simp only [Option.some.injEq, Rs.val.injEq] at H; exact nil H.1.symm)
  | al d => simp only [opRes] at H; (repeat' split at H) <;> first | (cases H; done) | (simp only [Option.some.injEq, Rs.val.injEq] at H; exact nil H.1.symm)
  | pick a b d => simp only [opRes] at H; (repeat' split at H) <;> first | (cases H; done) | (simp only [Option.some.injEq, Rs.val.injEq] at H; exact nil H.1.symm)
  | newbox cs => simp only [opRes, Option.some.injEq, Rs.val.injEq] at H; exact nil H.1.symm
  | boxr x => simp only [opRes] at H; (repeat' split at H) <;> first | (cases H; done) | (simp only [Option.some.injEq, Rs.val.injEq] at H; exact nil H.1.symm)
  | boxb x => simp only [opRes] at H; (repeat' split at H) <;> first | (cases H; done) | (simp only [Option.some.injEq, Rs.val.injEq] at H; exact nil H.1.symm)
  | build z ps => simp only [opRes] at H; (repeat' split at H) <;> first | (cases H; done) | (simp only [Option.some.injEq, Rs.val.injEq] at H; exact nil H.1.symm)
  | bsl sz n z ps => simp only [opRes] at H; (repeat' split at H) <;> first | (cases H; done) | (simp only [Option.some.injEq, Rs.val.injEq] at H; exact nil H.1.symm)
  | fa x off b => simp only [opRes] at H; (repeat' split at H) <;> first | (cases H; done) | (simp only [Option.some.injEq, Rs.val.injEq] at H; exact nil H.1.symm)
  | ia x i sz len b => simp only [opRes] at H; (repeat' split at H) <;> first | (cases H; done) | (simp only [Option.some.injEq, Rs.val.injEq] at H; exact nil H.1.symm)
  | nck x b => simp only [opRes] at H; (repeat' split at H) <;> first | (cases H; done) | (simp only [Option.some.injEq, Rs.val.injEq] at H; exact nil H.1.symm)
  | bin o x y => simp only [opRes] at H; (repeat' split at H) <;> first | (cases H; done) | (simp only [Option.some.injEq, Rs.val.injEq] at H; exact nil H.1.symm)
  | beq o x y => simp only [opRes] at H; (repeat' split at H) <;> first | (cases H; done) | (simp only [Option.some.injEq, Rs.val.injEq] at H; exact nil H.1.symm)
  | eqs o ks x y => simp only [opRes] at H; (repeat' split at H) <;> first | (cases H; done) | (simp only [Option.some.injEq, Rs.val.injEq] at H; exact nil H.1.symm)
  | un o x => simp only [opRes] at H; (repeat' split at H) <;> first | (cases H; done) | (simp only [Option.some.injEq, Rs.val.injEq] at H; exact nil H.1.symm)
  | cvi k x => simp only [opRes] at H; (repeat' split at H) <;> first | (cases H; done) | (simp only [Option.some.injEq, Rs.val.injEq] at H; exact nil H.1.symm)
  | cvid x => simp only [opRes] at H; (repeat' split at H) <;> first | (cases H; done) | (simp only [Option.some.injEq, Rs.val.injEq] at H; exact nil H.1.symm)
  | cvs x b => simp only [opRes] at H; (repeat' split at H) <;> first | (cases H; done) | (simp only [Option.some.injEq, Rs.val.injEq] at H; exact nil H.1.symm)
  | cvb x => simp only [opRes] at H; (repeat' split at H) <;> first | (cases H; done) | (simp only [Option.some.injEq, Rs.val.injEq] at H; exact nil H.1.symm)
  | cvr x => simp only [opRes] at H; (repeat' split at H) <;> first | (cases H; done) | (simp only [Option.some.injEq, Rs.val.injEq] at H; exact nil H.1.symm)
  | mki t x => simp only [opRes] at H; (repeat' split at H) <;> first | (cases H; done) | (simp only [Option.some.injEq, Rs.val.injEq] at H; exact nil H.1.symm)
  | mk sz bytes z x y => simp only [opRes] at H; (repeat' split at H) <;> first | (cases H; done) | (simp only [Option.some.injEq, Rs.val.injEq] at H; exact nil H.1.symm)
  | slc sz x lo hi mx => simp only [opRes] at H; (repeat' split at H) <;> first | (cases H; done) | (simp only [Option.some.injEq, Rs.val.injEq] at H; exact nil H.1.symm)
  | idx x i len n ag => simp only [opRes] at H; (repeat' split at H) <;> first | (cases H; done) | (simp only [Option.some.injEq, Rs.val.injEq] at H; exact nil H.1.symm)
  | fld x off n ag => simp only [opRes] at H; (repeat' split at H) <;> first | (cases H; done) | (simp only [Option.some.injEq, Rs.val.injEq] at H; exact nil H.1.symm)
  | len st x b => simp only [opRes] at H; (repeat' split at H) <;> first | (cases H; done) | (simp only [Option.some.injEq, Rs.val.injEq] at H; exact nil H.1.symm)
  | _ => cases hd

/-- Objects that are only read stay. -/
theorem op_heap {op : AOp} {us : List (Nat × V × Bool)} {v : V} {h1 : Heap} (hd : drawable op = true) (hh : hcl op ≠ 2) (H : opRes c ρ h op = some (.val us v h1)) : h1 = h := by
  by_cases h0 : hcl op = 0
  · have := op_setH (c := c) (ρ := ρ) (h := h) (h' := h) hd h0
    rw [H] at this
    simpa [setH] using this
  · cases op with
    | ld x n tr b =>
      cases b with
      | some d => exact (h0 rfl).elim
      | none =>
        have htr : tr = false := by simpa [drawable] using hd
        subst htr
        simp only [opRes, Bool.false_eq_true, if_false] at H
        (repeat' split at H) <;> first | (cases H; done) | (simp only [Option.some.injEq, Rs.val.injEq] at H; exact H.2.2.symm)
    | call f args useH => cases useH <;> first | exact (hh rfl).elim | exact (h0 rfl).elim
    | _ => exact (h0 rfl).elim
end

section
variable {P : Program} {E : Env} {a : Act} {w : World} {s : St} {call : CallF} {dfs : List Deferred}

def slotsOf (U : List (Nat × V × Bool)) : List Nat := U.map (·.1)

theorem upd_comm (t : List V) {d e : Nat} (h : d ≠ e) (u v : V) : upd (upd t d v) e u = upd (upd t e u) d v := by
  induction t generalizing d e with
  | nil => rfl
  | cons x t ih =>
    cases d with
    | zero => cases e with
      | zero => exact (h rfl).elim
      | succ e => rfl
    | succ d => cases e with
      | zero => rfl
      | succ e => simp only [upd]; rw [ih (by omega)]

def noKill (U : List (Nat × V × Bool)) : Prop := ∀ u ∈ U, u.2.2 = false

theorem ups1_nokill {t : List V} {u : Nat × V × Bool} (h : u.2.2 = false) : ups1 t u = upd t u.1 u.2.1 := by
  obtain ⟨d, v, f⟩ := u
  simp only at h
  subst h
  rfl

theorem ups_comm1 {t : List V} {d : Nat} {v : V} : ∀ {U : List (Nat × V × Bool)}, noKill U → d ∉ slotsOf U → ups (upd t d v) U = upd (ups t U) d v
  | [], _, _ => rfl
  | u :: U, hk, hd => by
    simp only [slotsOf, List.map_cons, List.mem_cons, not_or] at hd
    simp only [ups]
    rw [ups1_nokill (hk u (by simp)), ups1_nokill (hk u (by simp)), upd_comm _ hd.1]
    exact ups_comm1 (t := upd t u.1 u.2.1) (fun x hx => hk x (by simp [hx])) hd.2

theorem ups_comm {U : List (Nat × V × Bool)} (hU : noKill U) : ∀ {t : List V} {T : List (Nat × V × Bool)}, noKill T → (∀ d ∈ slotsOf T, d ∉ slotsOf U) → ups (ups t T) U = ups (ups t U) T
  | t, [], _, _ => rfl
  | t, u :: T, hT, hd => by
    simp only [ups]
    rw [ups_comm hU (fun x hx => hT x (by simp [hx])) (fun d hdd => hd d (by simp only [slotsOf, List.map_cons, List.mem_cons]; exact .inr hdd))]
    rw [ups1_nokill (hT u (by simp)), ups1_nokill (hT u (by simp)), ups_comm1 hU (hd u.1 (by simp [slotsOf]))]

theorem nth_ups_out {k : Nat} : ∀ {t : List V} {U : List (Nat × V × Bool)}, noKill U → k ∉ slotsOf U → nth (ups t U) k = nth t k
  | t, [], _, _ => rfl
  | t, u :: U, hk, hd => by
    simp only [slotsOf, List.map_cons, List.mem_cons, not_or] at hd
    simp only [ups]
    rw [nth_ups_out (fun x hx => hk x (by simp [hx])) hd.2, ups1_nokill (hk u (by simp)), nth_upd_ne (Ne.symm hd.1)]

def dstU (dst : Option Nat) (v : V) : List (Nat × V × Bool) := match dst with | some d => [(d, v, false)] | none => []

/-- What an operation with a guard comes to. -/
def resI (c : CallF) (i : AI) (t : List V) (h : Heap) : Option Rs :=
  match i.g with
  | none => opRes c (nth t) h i.op
  | some (g, want) => match nth t g with
    | .bool b => if b = want then opRes c (nth t) h i.op else some (.val [] (.tup []) h)
    | .tup [] => some (.val [] (.tup []) h)
    | _ => none

theorem stepI_resI (c : CallF) (i : AI) (s : St) : stepI c i s = stepR i.dst s (resI c i s.t s.h) := by
  unfold stepI resI
  cases hg : i.g with
  | none => rfl
  | some gw =>
    obtain ⟨g, want⟩ := gw
    simp only
    cases nth s.t g with
    | bool b =>
      simp only
      by_cases hb : b = want
      · rw [if_pos hb, if_pos hb]
      · rw [if_neg hb, if_neg hb]
    | tup vs => cases vs <;> rfl
    | _ => rfl

def gs : Option (Nat × Bool) → List Nat
  | some (g, _) => [g]
  | none => []

theorem resI_congr {c : CallF} {i : AI} {t t' : List V} {h : Heap} (hd : drawable i.op = true) (e : ∀ k ∈ gs i.g ++ reads i.op, nth t k = nth t' k) : resI c i t h = resI c i t' h := by
  have h1 : opRes c (nth t) h i.op = opRes c (nth t') h i.op := op_congr hd (fun k hk => e k (by simp [hk]))
  unfold resI
  cases hg : i.g with
  | none => exact h1
  | some gw =>
    obtain ⟨g, want⟩ := gw
    simp only
    rw [e g (by simp [hg, gs]), h1]

theorem resI_setH {c : CallF} {i : AI} {t : List V} {h h' : Heap} (hd : drawable i.op = true) (h0 : hcl i.op = 0) : resI c i t h' = (resI c i t h).map (setH h') := by
  have h1 : opRes c (nth t) h' i.op = (opRes c (nth t) h i.op).map (setH h') := op_setH hd h0
  unfold resI
  cases hg : i.g with
  | none => exact h1
  | some gw =>
    obtain ⟨g, want⟩ := gw
    simp only
    split
    · split
      · exact h1
      · rfl
    · rfl
    · rfl

theorem resI_heap {c : CallF} {i : AI} {t : List V} {h h1 : Heap} {us : List (Nat × V × Bool)} {v : V} (hd : drawable i.op = true) (hh : hcl i.op ≠ 2) (H : resI c i t h = some (.val us v h1)) : h1 = h := by
  unfold resI at H
  split at H
  · exact op_heap hd hh H
  · split at H
    · split at H
      · exact op_heap hd hh H
      · simp only [Option.some.injEq, Rs.val.injEq] at H; exact H.2.2.symm
    · simp only [Option.some.injEq, Rs.val.injEq] at H; exact H.2.2.symm
    · cases H

theorem resI_ups {c : CallF} {i : AI} {t : List V} {h h1 : Heap} {us : List (Nat × V × Bool)} {v : V} (hd : drawable i.op = true) (H : resI c i t h = some (.val us v h1)) :
    ∀ u ∈ us, u.1 ∈ writes i.op ∧ (u.2.2 = true → u.1 ∈ kills i.op) := by
  have nil : ∀ {us : List (Nat × V × Bool)}, us = [] → ∀ u ∈ us, u.1 ∈ writes i.op ∧ (u.2.2 = true → u.1 ∈ kills i.op) := fun h u hu => by subst h; cases hu
  have run : opRes c (nth t) h i.op = some (.val us v h1) → ∀ u ∈ us, u.1 ∈ writes i.op ∧ (u.2.2 = true → u.1 ∈ kills i.op) := fun H u hu => by
    obtain ⟨x1, x2, _⟩ := op_ups hd H u hu
    exact ⟨x1, x2⟩
  unfold resI at H
  split at H
  · exact run H
  · split at H
    · split at H
      · exact run H
      · simp only [Option.some.injEq, Rs.val.injEq] at H; exact nil H.1.symm
    · simp only [Option.some.injEq, Rs.val.injEq] at H; exact nil H.1.symm
    · cases H

def disj (l m : List Nat) : Bool := l.all fun x => !m.contains x

theorem disj_ok {l m : List Nat} (h : disj l m = true) : ∀ x ∈ l, x ∉ m := fun x hx hm => by
  have := List.all_eq_true.1 h x hx
  simp [hm] at this

def dl (i : AI) : List Nat := match i.dst with | some d => [d] | none => []
def wr (i : AI) : List Nat := dl i ++ writes i.op
def rd (i : AI) : List Nat := dl i ++ gs i.g ++ reads i.op

/-- Two operations that may change places. -/
def comm (i j : AI) : Bool := drawable i.op && drawable j.op && (kills i.op).isEmpty && (kills j.op).isEmpty && disj (wr i) (rd j) && disj (wr j) (rd i) && disj (wr j) (wr i) &&
  (hcl i.op == 0 || hcl j.op == 0 || (hcl i.op != 2 && hcl j.op != 2))

theorem stepR_norm {dst : Option Nat} {s s' : St} {r : Option Rs} (h : stepR dst s r = some (.norm, s')) : ∃ us v h', r = some (.val us v h') ∧ put (ups s.t us) dst v = some s'.t ∧ s'.h = h' := by
  cases r with
  | none => cases h
  | some r =>
    cases r with
    | val us v h' =>
      simp only [stepR] at h
      split at h
      · rename_i t' hp
        simp only [Option.some.injEq, Prod.mk.injEq, true_and] at h
        subst h
        exact ⟨us, v, h', rfl, hp, rfl⟩
      · cases h
    | pan v h' => simp [stepR] at h

theorem put_ups {t t' : List V} {us : List (Nat × V × Bool)} {dst : Option Nat} {v : V} (h : put (ups t us) dst v = some t') : t' = ups t (us ++ dstU dst v) := by
  rw [ups_append]
  cases dst with
  | none => simp only [put, Option.some.injEq] at h; exact h.symm
  | some d =>
    simp only [put] at h
    split at h
    · cases h
    · simp only [Option.some.injEq] at h; exact h.symm

theorem comm_ok {c : CallF} {i j : AI} {s sj s2 : St} (hc : comm i j = true) (hj : stepI c j s = some (.norm, sj)) (hi : stepI c i sj = some (.norm, s2)) : ∃ s1, stepI c i s = some (.norm, s1) ∧ stepI c j s1 = some (.norm, s2) := by
  simp only [comm, Bool.and_eq_true, List.isEmpty_iff] at hc
  obtain ⟨⟨⟨⟨⟨⟨⟨d1, d2⟩, k1⟩, k2⟩, x1⟩, x2⟩, x3⟩, hh⟩ := hc
  rw [stepI_resI] at hj hi
  obtain ⟨uj, vj, hpj, rj, pj, qj⟩ := stepR_norm hj
  obtain ⟨ui, vi, hpi, ri, pi, qi⟩ := stepR_norm hi
  have tj := put_ups pj
  have ti := put_ups pi
  have nkj : noKill (uj ++ dstU j.dst vj) := fun u hu => by
    simp only [List.mem_append] at hu
    rcases hu with hu | hu
    · have := (resI_ups d2 rj u hu).2
      cases hf : u.2.2 with
      | false => rfl
      | true => have := this hf; rw [k2] at this; cases this
    · cases hd : j.dst with
      | none => rw [hd] at hu; cases hu
      | some d => rw [hd] at hu; obtain rfl := List.mem_singleton.1 hu; rfl
  have nki : noKill (ui ++ dstU i.dst vi) := fun u hu => by
    simp only [List.mem_append] at hu
    rcases hu with hu | hu
    · have := (resI_ups d1 ri u hu).2
      cases hf : u.2.2 with
      | false => rfl
      | true => have := this hf; rw [k1] at this; cases this
    · cases hd : i.dst with
      | none => rw [hd] at hu; cases hu
      | some d => rw [hd] at hu; obtain rfl := List.mem_singleton.1 hu; rfl
  have slj : ∀ k ∈ slotsOf (uj ++ dstU j.dst vj), k ∈ wr j := fun k hk => by
    simp only [slotsOf, List.map_append, List.mem_append, List.mem_map] at hk
    simp only [wr, List.mem_append]
    rcases hk with ⟨u, hu, rfl⟩ | ⟨u, hu, rfl⟩
    · exact .inr (resI_ups d2 rj u hu).1
    · cases hd : j.dst with
      | none => rw [hd] at hu; cases hu
      | some d => rw [hd] at hu; obtain rfl := List.mem_singleton.1 hu; simp [dl, hd]
  have sli : ∀ k ∈ slotsOf (ui ++ dstU i.dst vi), k ∈ wr i := fun k hk => by
    simp only [slotsOf, List.map_append, List.mem_append, List.mem_map] at hk
    simp only [wr, List.mem_append]
    rcases hk with ⟨u, hu, rfl⟩ | ⟨u, hu, rfl⟩
    · exact .inr (resI_ups d1 ri u hu).1
    · cases hd : i.dst with
      | none => rw [hd] at hu; cases hu
      | some d => rw [hd] at hu; obtain rfl := List.mem_singleton.1 hu; simp [dl, hd]
  have seei : ∀ k ∈ rd i, nth sj.t k = nth s.t k := fun k hk => by
    rw [tj]
    exact nth_ups_out nkj (fun hm => disj_ok x2 k (slj k hm) hk)
  -- i in the state ahead of j
  have hnon : noKill ui ∧ (∀ d ∈ slotsOf ui, d ∉ slotsOf (uj ++ dstU j.dst vj)) := ⟨fun u hu => nki u (by simp [hu]), fun d hd hm => disj_ok x3 d (slj d hm) (sli d (by simp only [slotsOf, List.map_append, List.mem_append] at hd ⊢; exact .inl hd))⟩
  have hri : ∃ h1, resI c i s.t s.h = some (.val ui vi h1) ∧ ((hcl j.op ≠ 2 → h1 = hpi) ∧ (hcl i.op ≠ 2 → h1 = s.h)) := by
    have e1 : resI c i sj.t sj.h = resI c i s.t sj.h := resI_congr d1 (fun k hk => seei k (by simp only [rd, List.mem_append] at hk ⊢; rcases hk with hk | hk <;> simp [hk]))
    rw [e1] at ri
    by_cases hj2 : hcl j.op = 2
    · have hi0 : hcl i.op = 0 := by
        rw [hj2] at hh
        simpa using hh
      have := resI_setH (c := c) (t := s.t) (h := sj.h) (h' := s.h) d1 hi0
      rw [ri] at this
      exact ⟨s.h, this, fun h => (h hj2).elim, fun _ => rfl⟩
    · have := resI_heap d2 hj2 rj
      rw [qj, this] at ri
      exact ⟨hpi, ri, fun _ => rfl, fun h2 => resI_heap d1 h2 ri⟩
  obtain ⟨h1, hri, hh1, hh2⟩ := hri
  have hputi : put (ups s.t ui) i.dst vi = some (ups s.t (ui ++ dstU i.dst vi)) := by
    cases hd : i.dst with
    | none => simp [put, dstU]
    | some d =>
      rw [hd] at pi
      simp only [put] at pi ⊢
      split at pi
      · cases pi
      · rename_i ho
        have : nth (ups sj.t ui) d = nth (ups s.t ui) d := by
          rw [tj, ups_comm hnon.1 nkj (fun d hd hm => hnon.2 d hm hd)]
          exact nth_ups_out nkj (fun hm => disj_ok x2 d (slj d hm) (by simp [rd, dl, hd]))
        rw [this] at ho
        rw [if_neg ho, ups_append]
        rfl
  let s1 : St := ⟨ups s.t (ui ++ dstU i.dst vi), h1⟩
  refine ⟨s1, by rw [stepI_resI, hri]; simp only [stepR]; rw [hputi], ?_⟩
  have seej : ∀ k ∈ rd j, nth s1.t k = nth s.t k := fun k hk => nth_ups_out nki (fun hm => disj_ok x1 k (sli k hm) hk)
  have hrj : resI c j s1.t s1.h = some (.val uj vj s2.h) := by
    have e1 : resI c j s1.t s1.h = resI c j s.t s1.h := resI_congr d2 (fun k hk => seej k (by simp only [rd, List.mem_append] at hk ⊢; rcases hk with hk | hk <;> simp [hk]))
    rw [e1]
    show resI c j s.t h1 = _
    rw [qi]
    by_cases hi2 : hcl i.op = 2
    · have hj0 : hcl j.op = 0 := by
        rw [hi2] at hh
        simpa using hh
      have hpi1 := hh1 (by rw [hj0]; omega)
      subst hpi1
      have := resI_setH (c := c) (t := s.t) (h := s.h) (h' := h1) d2 hj0
      rw [rj] at this
      exact this
    · have e2 := hh2 hi2
      rw [e2, rj]
      have e3 := resI_heap d1 hi2 ri
      rw [e3, qj]
  have hputj : put (ups s1.t uj) j.dst vj = some (ups s1.t (uj ++ dstU j.dst vj)) := by
    cases hd : j.dst with
    | none => simp [put, dstU]
    | some d =>
      rw [hd] at pj
      simp only [put] at pj ⊢
      split at pj
      · cases pj
      · rename_i ho
        have nkuj : noKill uj := fun u hu => nkj u (by simp [hu])
        have : nth (ups s1.t uj) d = nth (ups s.t uj) d := by
          show nth (ups (ups s.t (ui ++ dstU i.dst vi)) uj) d = _
          rw [ups_comm nkuj nki (fun d hd hm => disj_ok x3 d (slj d (by simp only [slotsOf, List.map_append, List.mem_append] at hm ⊢; exact .inl hm)) (sli d hd))]
          exact nth_ups_out nki (fun hm => disj_ok x1 d (sli d hm) (by simp [rd, dl, hd]))
        rw [this]
        rw [if_neg ho, ups_append]
        rfl
  rw [stepI_resI, hrj]
  simp only [stepR]
  rw [hputj]
  have : ups s1.t (uj ++ dstU j.dst vj) = s2.t := by
    rw [ti, tj]
    exact (ups_comm nkj nki (fun d hd hm => disj_ok x3 d (slj d hm) (sli d hd)))
  simp only [this]
end

def ancB (ops : Array Oper) : Nat → Nat → Nat → Bool
  | 0, _, _ => false
  | f + 1, i, j => match ops[i]? with
    | some o => o.after.toList.any fun e => Region.binds .any e && (e.on == j || ancB ops f e.on j)
    | none => false

def pairOK (ops : Array Oper) (is : List AI) (i j : Nat) : Bool := (match is[i]?, is[j]? with | some x, some y => comm x y | _, _ => false) || ancB ops 12 i j

def atOK (P : Program) (ops : Array Oper) (is : List AI) (i : Nat) : Bool := match ops[i]?, is[i]? with
  | some o, some x => chkI P ops o x && o.after.toList.all (fun e => !Region.binds .any e || decide (e.on < i)) && (List.range i).all (fun j => pairOK ops is i j)
  | _, _ => false

def chkD (P : Program) (ops : Array Oper) (is : List AI) : Bool := is.length == ops.size && P.follows .mixedOrders && (List.range ops.size).all (atOK P ops is)

section
variable {P : Program} {E : Env} {a : Act} {w : World} {s : St} {call : CallF} {dfs : List Deferred}

theorem runOps_cons {c : CallF} {x : AI} {l : List AI} {s s' : St} (h : runOps c (x :: l) s = some (.norm, s')) : ∃ s1, stepI c x s = some (.norm, s1) ∧ runOps c l s1 = some (.norm, s') := by
  simp only [runOps] at h
  cases hx : stepI c x s with
  | none => rw [hx] at h; cases h
  | some q =>
    obtain ⟨e, s1⟩ := q
    rw [hx] at h
    cases e with
    | norm => exact ⟨s1, rfl, h⟩
    | _ => simp only [Option.some.injEq, Prod.mk.injEq] at h; cases h.1

theorem swap {c : CallF} {i : AI} {post : List AI} {s' : St} : ∀ {pre : List AI} {s : St}, (∀ j ∈ pre, comm i j = true) → runOps c (pre ++ i :: post) s = some (.norm, s') →
    ∃ s1, stepI c i s = some (.norm, s1) ∧ runOps c (pre ++ post) s1 = some (.norm, s')
  | [], s, _, h => runOps_cons h
  | j :: pre, s, hc, h => by
    obtain ⟨sj, h1, h2⟩ := runOps_cons h
    obtain ⟨s2, h3, h4⟩ := swap (pre := pre) (fun k hk => hc k (by simp [hk])) h2
    obtain ⟨s1, h5, h6⟩ := comm_ok (hc j (by simp)) h1 h3
    refine ⟨s1, h5, ?_⟩
    simp only [List.cons_append, runOps, h6]
    exact h4

def remL (n : Nat) (listed : Array Bool) : List Nat := (List.range n).filter fun i => !listed.getD i true

theorem mem_rem {n i : Nat} {listed : Array Bool} : i ∈ remL n listed ↔ i < n ∧ listed.getD i true = false := by
  simp only [remL, List.mem_filter, List.mem_range, Bool.not_eq_true']

def ClosedL (ops : Array Oper) (listed : Array Bool) : Prop := ∀ k o, ops[k]? = some o → listed.getD k true = true → ∀ e ∈ o.after.toList, Region.binds .any e = true → listed.getD e.on false = true

theorem getD_true {l : Array Bool} {k : Nat} (h : l.getD k false = true) : l.getD k true = true := by
  simp only [Array.getD_eq_getD_getElem?] at h ⊢
  cases hk : l[k]? with
  | none => rw [hk] at h; cases h
  | some b => rw [hk] at h; simpa using h

theorem mem_ready {ops : Array Oper} {listed : Array Bool} {i : Nat} (h : i ∈ Region.ready .any ops listed) : i < ops.size ∧ listed.getD i true = false ∧ ∃ o, ops[i]? = some o ∧ ∀ e ∈ o.after.toList, Region.binds .any e = true → listed.getD e.on false = true := by
  simp only [Region.ready, List.mem_filter, List.mem_range, Bool.and_eq_true, Bool.not_eq_true'] at h
  obtain ⟨h1, h2, h3⟩ := h
  cases ho : ops[i]? with
  | none => rw [ho] at h3; cases h3
  | some o =>
    rw [ho] at h3
    simp only [Option.map_some, Option.getD_some] at h3
    refine ⟨h1, h2, o, rfl, fun e he hb => ?_⟩
    rw [← Array.all_toList] at h3
    have := List.all_eq_true.1 h3 e he
    simpa [hb] using this

theorem ready_of {ops : Array Oper} {listed : Array Bool} {i : Nat} {o : Oper} (h1 : i < ops.size) (h2 : listed.getD i true = false) (ho : ops[i]? = some o) (h3 : ∀ e ∈ o.after.toList, Region.binds .any e = true → listed.getD e.on false = true) : i ∈ Region.ready .any ops listed := by
  simp only [Region.ready, List.mem_filter, List.mem_range, Bool.and_eq_true, Bool.not_eq_true']
  refine ⟨h1, h2, ?_⟩
  rw [ho]
  simp only [Option.map_some, Option.getD_some]
  rw [← Array.all_toList]
  refine List.all_eq_true.2 fun e he => ?_
  cases hb : Region.binds .any e with
  | false => rfl
  | true => simpa using h3 e he hb

theorem anc_listed {ops : Array Oper} {listed : Array Bool} (hcl : ClosedL ops listed) {j : Nat} : ∀ (f i : Nat), ancB ops f i j = true → (∀ o, ops[i]? = some o → ∀ e ∈ o.after.toList, Region.binds .any e = true → listed.getD e.on false = true) → listed.getD j false = true
  | 0, i, h, _ => by cases h
  | f + 1, i, h, hp => by
    simp only [ancB] at h
    split at h
    · rename_i o ho
      obtain ⟨e, he, hb⟩ := List.any_eq_true.1 h
      simp only [Bool.and_eq_true, Bool.or_eq_true, beq_iff_eq] at hb
      have hl := hp o ho e he hb.1
      rcases hb.2 with rfl | h2
      · exact hl
      · exact anc_listed hcl f e.on h2 (fun o' ho' e' he' hb' => hcl e.on o' ho' (getD_true hl) e' he' hb')
    · cases h

theorem any_ok {ops : Array Oper} {is : List AI} {s' : St} (hs : SoundCall P call) (hlen : is.length = ops.size) (hat : ∀ i, i < ops.size → atOK P ops is i = true) : ∀ (fuel : Nat) (listed : Array Bool) (a : Act) (w : World) (s : St), listed.size = ops.size → ClosedL ops listed →
    (remL ops.size listed).length = fuel → Stt E a w s → a.defers = dfs → runOps call ((remL ops.size listed).filterMap (fun i => is[i]?)) s = some (.norm, s') → wpAny P .any ops (Rel E dfs .norm s') fuel listed a w
  | 0, listed, a, w, s, hsz, hcl, hfu, h, hd, hr => by
    have hnil := List.length_eq_zero_iff.1 hfu
    rw [hnil] at hr
    simp only [List.filterMap_nil, runOps, Option.some.injEq, Prod.mk.injEq, true_and] at hr
    subst hr
    refine ⟨?_, h, hd⟩
    cases hrd : Region.ready .any ops listed with
    | nil => rfl
    | cons i l =>
      obtain ⟨h1, h2, _⟩ := mem_ready (ops := ops) (listed := listed) (i := i) (by rw [hrd]; simp)
      have : i ∈ remL ops.size listed := mem_rem.2 ⟨h1, h2⟩
      rw [hnil] at this
      cases this
  | fuel + 1, listed, a, w, s, hsz, hcl, hfu, h, hd, hr => by
    refine ⟨fun hnil => ?_, fun i hi => ?_⟩
    · exfalso
      have all : ∀ (m k : Nat), k < m → k < ops.size → listed.getD k true = true := by
        intro m
        induction m with
        | zero => intro k hk; omega
        | succ m ih =>
          intro k hk hkn
          cases hl : listed.getD k true with
          | true => rfl
          | false =>
            have hk' := hat k hkn
            unfold atOK at hk'
            split at hk'
            · rename_i o x ho hx
              simp only [Bool.and_eq_true] at hk'
              have : k ∈ Region.ready .any ops listed := ready_of hkn hl ho (fun e he hb => by
                have h1 := List.all_eq_true.1 hk'.1.2 e he
                simp only [hb, Bool.not_true, Bool.false_or, decide_eq_true_eq] at h1
                have h2 := ih e.on (by omega) (by omega)
                simp only [Array.getD_eq_getD_getElem?] at h2 ⊢
                rw [Array.getElem?_eq_getElem (by omega)] at h2 ⊢
                simpa using h2)
              rw [hnil] at this
              cases this
            · cases hk'
      have : remL ops.size listed = [] := by
        unfold remL
        rw [List.filter_eq_nil_iff]
        intro k hk
        have := all (k + 1) k (by omega) (List.mem_range.1 hk)
        simp [this]
      rw [this] at hfu
      cases hfu
    · obtain ⟨h1, h2, o, ho, hp⟩ := mem_ready hi
      have hirem : i ∈ remL ops.size listed := mem_rem.2 ⟨h1, h2⟩
      obtain ⟨pre, post, hsplit⟩ := List.append_of_mem hirem
      have hpair : (pre ++ i :: post).Pairwise (· < ·) := by
        rw [← hsplit]
        exact List.Pairwise.filter _ List.pairwise_lt_range
      have hpre : ∀ j ∈ pre, j < i := fun j hj => (List.pairwise_append.1 hpair).2.2 j hj i (by simp)
      have hpost : ∀ j ∈ post, i < j := fun j hj => (List.pairwise_cons.1 (List.pairwise_append.1 hpair).2.1).1 j hj
      have hk := hat i h1
      unfold atOK at hk
      split at hk
      · rename_i o' x ho' hx
        rw [ho] at ho'
        simp only [Option.some.injEq] at ho'
        subst ho'
        simp only [Bool.and_eq_true] at hk
        have hcomm : ∀ y ∈ pre.filterMap (fun i => is[i]?), comm x y = true := fun y hy => by
          obtain ⟨j, hj, hjy⟩ := List.mem_filterMap.1 hy
          have hji := hpre j hj
          have hpk := List.all_eq_true.1 hk.2 j (List.mem_range.2 hji)
          simp only [pairOK, hx, hjy, Bool.or_eq_true] at hpk
          rcases hpk with hpk | hpk
          · exact hpk
          · exfalso
            have hl := getD_true (anc_listed hcl 12 i hpk (fun o2 ho2 e he hb => by
              rw [ho] at ho2
              simp only [Option.some.injEq] at ho2
              subst ho2
              exact hp e he hb))
            have hjr : j ∈ remL ops.size listed := by rw [hsplit]; simp [hj]
            have := (mem_rem.1 hjr).2
            rw [hl] at this
            cases this
        rw [hsplit] at hr
        simp only [List.filterMap_append, List.filterMap_cons, hx] at hr
        obtain ⟨s1, q1, q2⟩ := swap hcomm hr
        have hset : ∀ k, (listed.setIfInBounds i true).getD k true = (listed.getD k true || decide (k = i)) := fun k => by
          simp only [Array.getD_eq_getD_getElem?, Array.getElem?_setIfInBounds]
          by_cases hki : i = k
          · subst hki
            simp [hsz, h1]
          · simp [hki, Ne.symm hki, show ¬ k = i from fun hh => hki hh.symm]
        have hrem : remL ops.size (listed.setIfInBounds i true) = pre ++ post := by
          have e1 : remL ops.size (listed.setIfInBounds i true) = (remL ops.size listed).filter (fun k => !decide (k = i)) := by
            unfold remL
            rw [List.filter_filter]
            congr 1
            funext k
            rw [hset k]
            cases listed.getD k true <;> simp
          rw [e1, hsplit, List.filter_append, List.filter_cons]
          have f1 : pre.filter (fun k => !decide (k = i)) = pre := List.filter_eq_self.2 fun k hk => by have := hpre k hk; simp; omega
          have f2 : post.filter (fun k => !decide (k = i)) = post := List.filter_eq_self.2 fun k hk => by have := hpost k hk; simp; omega
          rw [f1, f2]
          simp
        have hclosed : ClosedL ops (listed.setIfInBounds i true) := fun k o2 ho2 hl e he hb => by
          have up : ∀ m, listed.getD m false = true → (listed.setIfInBounds i true).getD m false = true := fun m hm => by
            simp only [Array.getD_eq_getD_getElem?, Array.getElem?_setIfInBounds] at hm ⊢
            by_cases hmi : i = m
            · subst hmi; simp [hsz, h1]
            · simpa [hmi] using hm
          rw [hset k] at hl
          simp only [Bool.or_eq_true, decide_eq_true_eq] at hl
          rcases hl with hl | rfl
          · exact up _ (hcl k o2 ho2 hl e he hb)
          · rw [ho] at ho2
            simp only [Option.some.injEq] at ho2
            subst ho2
            exact up _ (hp e he hb)
        have hgo := stt_ai (Q := Rel E dfs .norm s') (next := wpAny P .any ops (Rel E dfs .norm s') fuel (listed.setIfInBounds i true)) hs h hd hk.1.1 q1
          (fun _ a' w' hst hdd => any_ok hs hlen hat fuel (listed.setIfInBounds i true) a' w' s1 (by simpa using hsz) hclosed (by
            rw [hrem]
            rw [hsplit] at hfu
            simp only [List.length_append, List.length_cons] at hfu ⊢
            omega) hst hdd (by rw [hrem, List.filterMap_append]; exact q2))
          (fun v chain a' w' hv _ => by cases hv)
        unfold wpOp
        simp only [ho]
        split
        · rename_i hw; rw [if_pos hw] at hgo; exact .inl hgo
        · rename_i hw; rw [if_neg hw] at hgo; exact hgo
      · cases hk

theorem stt_drew (h : Stt E a w s) : Stt E a { w with drawn := w.drawn + 1 } s := by
  obtain ⟨F, ρ, osT, osH, e0, r0, hsim, n0⟩ := h
  have e1 : Ext E.B w F w.drew F (fun _ => False) := Ext.drew hsim.fresh
  exact ⟨F, ρ, osT, osH, (e0.trans e1).weaken (fun b _ hb => hb.elim id False.elim), r0, hsim.ext e1 (fun _ _ => id), n0⟩

theorem draw_ok {id : Nat} {ops : Array Oper} (hs : SoundCall P call) {is : List AI} {s' : St} (hc : chkD P ops is = true) (h : Stt E a w s) (hd : a.defers = dfs) (hr : runOps call is s = some (.norm, s')) :
    (Code.region id ops true).wp P (Rel E dfs .norm s') a w := by
  simp only [chkD, Bool.and_eq_true, beq_iff_eq] at hc
  obtain ⟨⟨hlen, hm⟩, hall⟩ := hc
  have hrem : remL ops.size (Array.replicate ops.size false) = List.range ops.size := by
    unfold remL
    refine List.filter_eq_self.2 fun k hk => ?_
    have := List.mem_range.1 hk
    simp [Array.getD_eq_getD_getElem?, this]
  refine wp_region_any hm (any_ok hs hlen (fun i hi => List.all_eq_true.1 hall i (List.mem_range.2 hi)) _ _ _ _ s (by simp) (fun k o ho hl e he hb => ?_) (by rw [hrem]; simp) (stt_drew h) hd ?_)
  · have hk := (Array.getElem?_eq_some_iff.1 ho).1
    simp [Array.getD_eq_getD_getElem?, hk] at hl
  · rw [hrem]
    have : (List.range ops.size).filterMap (fun i => is[i]?) = is := by
      rw [← hlen]
      apply List.ext_getElem?
      intro i
      have key : ∀ (l : List AI), (List.range l.length).filterMap (fun i => l[i]?) = l := by
        intro l
        induction l with
        | nil => rfl
        | cons x l ih => rw [List.length_cons, List.range_succ_eq_map, List.filterMap_cons]; simp only [List.getElem?_cons_zero, List.filterMap_map]; congr 1
      rw [key is]
    rw [this]
    exact hr
end
end Go.Am
