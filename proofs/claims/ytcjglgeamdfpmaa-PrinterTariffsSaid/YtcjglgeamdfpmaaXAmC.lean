/- The abstract machine. -/
import Derived.Test.YtcjglgeamdfpmaaXAmB
import Derived.Orders
set_option linter.unusedVariables false
set_option linter.unusedSimpArgs false
namespace Go.Am
open Go Go.RowKit
def rs : Src → List Nat
 | .t i => [i]
 | _ => []
def ob : Option Nat → List Nat
 | some d => [d]
 | none => []
def rso : Option Src → List Nat
 | some x => rs x
 | none => []
def rsP : List (Nat × Nat × Src) → List Nat
 | [] => []
 | (_, _, x) :: l => rs x ++ rsP l
def rsE : List (Nat × Src) → List Nat
 | [] => []
 | (_, x) :: l => rs x ++ rsE l
def rsA : List (Src × Bool) → List Nat
 | [] => []
 | (x, _) :: l => rs x ++ rsA l
def reads : AOp → List Nat
 | .mv x => rs x
 | .cp x => rs x
 | .al d => [d]
 | .pick a b c => rs a ++ rs b ++ rs c
 | .boxr x => rs x
 | .boxb x => rs x
 | .build _ ps => rsP ps
 | .bsl _ _ _ ps => rsE ps
 | .bsf _ _ _ ps => rsE ps
 | .fa x _ b => rs x ++ ob b
 | .ia x i _ _ b => rs x ++ rs i ++ ob b
 | .ld x _ _ b => rs x ++ ob b
 | .st x v _ _ b => rs x ++ rs v ++ ob b
 | .nck x b => rs x ++ ob b
 | .bin _ x y => rs x ++ rs y
 | .beq _ x y => rs x ++ rs y
 | .eqs _ _ x y => rs x ++ rs y
 | .un _ x => rs x
 | .cvi _ x => rs x
 | .cvid x => rs x
 | .cvs x b => rs x ++ ob b
 | .cvb x => rs x
 | .cvr x => rs x
 | .mki _ x => rs x
 | .mk _ _ _ x y => rs x ++ rs y
 | .slc _ x lo hi mx => rs x ++ rso lo ++ rso hi ++ rso mx
 | .idx x i _ _ _ => rs x ++ rs i
 | .fld x _ _ _ => rs x
 | .ext j _ => [j]
 | .call _ args _ => rsA args
 | .callr _ args => rsA args
 | .len _ x b => rs x ++ ob b
 | .app _ _ x y b => rs x ++ rs y ++ ob b
 | _ => []
def drawable : AOp → Bool
 | .mv _ => true
 | .cp _ => true
 | .al _ => true
 | .pick _ _ _ => true
 | .newbox _ => true
 | .boxr _ => true
 | .boxb _ => true
 | .build _ _ => true
 | .bsl _ _ _ _ => true
 | .bsf _ _ _ _ => true
 | .fa _ _ _ => true
 | .ia _ _ _ _ _ => true
 | .ld _ _ tr b => b.isSome || !tr
 | .st _ _ _ _ _ => true
 | .nck _ _ => true
 | .bin _ _ _ => true
 | .beq _ _ _ => true
 | .eqs _ _ _ _ => true
 | .un _ _ => true
 | .cvi _ _ => true
 | .cvid _ => true
 | .cvs _ _ => true
 | .cvb _ => true
 | .cvr _ => true
 | .mki _ _ => true
 | .mk _ _ _ _ _ => true
 | .slc _ _ _ _ _ => true
 | .idx _ _ _ _ _ => true
 | .fld _ _ _ _ => true
 | .ext _ _ => true
 | .call _ _ _ => true
 | .callr _ _ => true
 | .len _ _ _ => true
 | .app _ _ _ _ _ => true
 | _ => false
def hcl : AOp → Nat
 | .ld _ _ _ none => 1
 | .st _ _ _ _ none => 2
 | .callr _ _ => 1
 | .call _ _ true => 2
 | _ => 0
def writes : AOp → List Nat
 | .mv x => rs x
 | .ld _ _ true b => ob b
 | .st _ v _ tr b => (if tr then rs v else []) ++ ob b
 | .ext j _ => [j]
 | .call _ args _ => takenL args
 | .callr _ args => takenL args
 | .app _ _ x _ _ => rs x
 | _ => []
def kills : AOp → List Nat
 | .mv x => rs x
 | .st _ v _ tr _ => if tr then rs v else []
 | .call _ args _ => takenL args
 | .callr _ args => takenL args
 | .app _ _ x _ _ => rs x
 | _ => []
section
variable {ρ ρ' : Nat → V} {h h' : Heap} {c : CallF} {r : Rs}
theorem ev_congr {x : Src} (e : ∀ k ∈ rs x, ρ k = ρ' k) : Am.ev ρ x = Am.ev ρ' x := by
 cases x with
 | t i => exact e i (by simp [rs])
 | _ => rfl
theorem place_congr {x : Src} {b : Option Nat} (e : ∀ k ∈ rs x, ρ k = ρ' k) : place ρ x b = place ρ' x b := by
 unfold place
 rw [ev_congr e]
theorem dat_congr {x : Src} (e : ∀ k ∈ rs x, ρ k = ρ' k) : dat ρ x = dat ρ' x := by
 unfold dat
 rw [ev_congr e]
theorem intOf_congr {x : Src} (e : ∀ k ∈ rs x, ρ k = ρ' k) : intOf ρ x = intOf ρ' x := by
 unfold intOf
 rw [ev_congr e]
theorem mvUps_congr {x : Src} (e : ∀ k ∈ rs x, ρ k = ρ' k) : mvUps ρ x = mvUps ρ' x := by
 cases x with
 | t i => simp only [mvUps]; rw [e i (by simp [rs])]
 | _ => rfl
theorem cpV_congr {x : Src} (e : ∀ k ∈ rs x, ρ k = ρ' k) : cpV ρ x = cpV ρ' x := by
 cases x with
 | t i => simp only [cpV]; rw [e i (by simp [rs])]
 | _ => rfl
theorem stVal_congr {x : Src} {tr : Bool} (e : ∀ k ∈ rs x, ρ k = ρ' k) : stVal ρ x tr = stVal ρ' x tr := by
 unfold stVal
 rw [ev_congr e, mvUps_congr e]
theorem rdsl_congr {x : Src} {b : Option Nat} (e : ∀ k ∈ rs x ++ ob b, ρ k = ρ' k) : Am.rdsl ρ x b = Am.rdsl ρ' x b := by
 unfold Am.rdsl
 rw [ev_congr (fun k hk => e k (by simp [hk]))]
 split
 ·rfl
 ·rename_i d _
  cases b with
  | none => rfl
  | some d' =>
   simp only
   by_cases hd : d = d'
   ·rw [e d (by subst hd; simp [ob])]
   ·simp only [if_neg hd]
 ·rfl
theorem bound_congr {x : Option Src} {d : Int} (e : ∀ k ∈ rso x, ρ k = ρ' k) : Am.bound ρ x d = Am.bound ρ' x d := by
 cases x with
 | none => rfl
 | some x => exact intOf_congr e
theorem fill_congr : ∀ {ps : List (Nat × Nat × Src)} {cs : List V}, (∀ k ∈ rsP ps, ρ k = ρ' k) → fill cs ρ ps = fill cs ρ' ps
 | [], _, _ => rfl
 | (off, sz, x) :: ps, cs, e => by
  simp only [fill]
  rw [dat_congr (fun k hk => e k (by simp [rsP, hk]))]
  split
  ·split
   ·exact fill_congr (fun k hk => e k (by simp [rsP, hk]))
   ·rfl
  ·rfl
theorem fillE_congr {sz : Nat} : ∀ {ps : List (Nat × Src)} {cs : List V}, (∀ k ∈ rsE ps, ρ k = ρ' k) → fillE sz cs ρ ps = fillE sz cs ρ' ps
 | [], _, _ => rfl
 | (i, x) :: ps, cs, e => by
  simp only [fillE]
  rw [dat_congr (fun k hk => e k (by simp [rsE, hk]))]
  split
  ·split
   ·exact fillE_congr (fun k hk => e k (by simp [rsE, hk]))
   ·rfl
  ·rfl
theorem argsOf_congr {useH : Bool} : ∀ {l : List (Src × Bool)}, (∀ k ∈ rsA l, ρ k = ρ' k) → argsOf ρ useH l = argsOf ρ' useH l
 | [], _ => rfl
 | (x, tk) :: l, e => by
  simp only [argsOf]
  rw [argsOf_congr (fun k hk => e k (by simp [rsA, hk])), ev_congr (fun k hk => e k (by simp [rsA, hk])), mvUps_congr (fun k hk => e k (by simp [rsA, hk]))]
theorem op_congr {op : AOp} (hd : drawable op = true) (e : ∀ k ∈ reads op, ρ k = ρ' k) : opRes c ρ h op = opRes c ρ' h op := by
 cases op with
 | mv x => simp only [opRes]; rw [ev_congr e, mvUps_congr e]
 | cp x => simp only [opRes]; rw [cpV_congr e]
 | al d => simp only [opRes]; rw [e d (by simp [reads])]
 | pick a b d => simp only [opRes]; rw [ev_congr (x := a) (fun k hk => e k (by simp [reads, hk])), ev_congr (x := b) (fun k hk => e k (by simp [reads, hk])), ev_congr (x := d) (fun k hk => e k (by simp [reads, hk]))]
 | newbox cs => rfl
 | boxr x => simp only [opRes]; rw [dat_congr e]
 | boxb x => simp only [opRes]; rw [dat_congr e]
 | build z ps => simp only [opRes]; rw [fill_congr e]
 | bsl sz n z ps => simp only [opRes]; rw [fillE_congr e]
 | bsf sz n z ps => simp only [opRes]; rw [fillE_congr e]
 | fa x off b => simp only [opRes]; rw [place_congr (fun k hk => e k (by simp [reads, hk]))]
 | ia x i sz len b =>
  simp only [opRes]
  rw [intOf_congr (x := i) (fun k hk => e k (by simp [reads, hk])), place_congr (x := x) (fun k hk => e k (by simp [reads, hk])), ev_congr (x := x) (fun k hk => e k (by simp [reads, hk]))]
  cases b with
  | none => rfl
  | some d' =>
   split
   ·rfl
   ·split
    ·rfl
    ·split
     ·rfl
     ·rename_i d _
      by_cases hdd : d = d'
      ·rw [e d (by subst hdd; simp [reads, ob])]
      ·simp only [hdd, false_and, if_false]
       split <;> split <;> rfl
     ·rfl
 | ld x n tr b =>
  simp only [opRes]
  rw [place_congr (x := x) (fun k hk => e k (by simp [reads, hk]))]
  split
  ·rename_i d o hp
   have hd' : ρ d = ρ' d := by
    unfold place at hp
    split at hp
    ·split at hp
     ·rename_i i d2 _ _
      split at hp
      ·rename_i hid
       simp only [Option.some.injEq, Pl.slot.injEq] at hp
       rw [← hp.1]
       exact e _ (by simp [reads, rs])
      ·cases hp
     ·cases hp
    ·split at hp
     ·split at hp
      ·rename_i hid
       simp only [Option.some.injEq, Pl.slot.injEq] at hp
       rw [← hp.1]
       exact e _ (by subst hid; simp [reads, ob])
      ·cases hp
     ·cases hp
    ·split at hp <;> cases hp
    ·split at hp <;> cases hp
    ·cases hp
   rw [hd']
  ·rfl
  ·rfl
  ·rfl
 | st x v n tr b =>
  simp only [opRes]
  rw [stVal_congr (x := v) (fun k hk => e k (by simp [reads, hk]))]
  split
  ·rfl
  ·split
   ·rw [place_congr (x := x) (fun k hk => e k (by simp [reads, hk]))]
    split
    ·rename_i d o hp
     have hd' : ρ d = ρ' d := by
      unfold place at hp
      split at hp
      ·split at hp
       ·rename_i i d2 _ _
        split at hp
        ·rename_i hid
         simp only [Option.some.injEq, Pl.slot.injEq] at hp
         rw [← hp.1]
         exact e _ (by simp [reads, rs])
        ·cases hp
       ·cases hp
      ·split at hp
       ·split at hp
        ·rename_i hid
         simp only [Option.some.injEq, Pl.slot.injEq] at hp
         rw [← hp.1]
         exact e _ (by subst hid; simp [reads, ob])
        ·cases hp
       ·cases hp
      ·split at hp <;> cases hp
      ·split at hp <;> cases hp
      ·cases hp
     rw [hd']
    ·rfl
    ·rfl
   ·rfl
 | nck x b => simp only [opRes]; rw [place_congr (x := x) (fun k hk => e k (by simp [reads, hk])), ev_congr (x := x) (fun k hk => e k (by simp [reads, hk]))]
 | bin o x y => simp only [opRes]; rw [ev_congr (x := x) (fun k hk => e k (by simp [reads, hk])), ev_congr (x := y) (fun k hk => e k (by simp [reads, hk]))]
 | beq o x y => simp only [opRes]; rw [ev_congr (x := x) (fun k hk => e k (by simp [reads, hk])), ev_congr (x := y) (fun k hk => e k (by simp [reads, hk]))]
 | eqs o ks x y => simp only [opRes]; rw [ev_congr (x := x) (fun k hk => e k (by simp [reads, hk])), ev_congr (x := y) (fun k hk => e k (by simp [reads, hk]))]
 | un o x => simp only [opRes]; rw [ev_congr e]
 | cvi k x => simp only [opRes]; rw [ev_congr e]
 | cvid x => simp only [opRes]; rw [ev_congr e]
 | cvs x b => simp only [opRes]; rw [rdsl_congr e]
 | cvb x => simp only [opRes]; rw [ev_congr e]
 | cvr x => simp only [opRes]; rw [ev_congr e]
 | mki t x => simp only [opRes]; rw [dat_congr e]
 | mk sz bytes z x y => simp only [opRes]; rw [intOf_congr (x := x) (fun k hk => e k (by simp [reads, hk])), intOf_congr (x := y) (fun k hk => e k (by simp [reads, hk]))]
 | slc sz x lo hi mx =>
  simp only [opRes]
  rw [ev_congr (x := x) (fun k hk => e k (by simp [reads, hk]))]
  simp only [bound_congr (x := lo) (fun k hk => e k (by simp [reads, hk])), bound_congr (x := hi) (fun k hk => e k (by simp [reads, hk])), bound_congr (x := mx) (fun k hk => e k (by simp [reads, hk]))]
 | idx x i len n ag => simp only [opRes]; rw [intOf_congr (x := i) (fun k hk => e k (by simp [reads, hk])), ev_congr (x := x) (fun k hk => e k (by simp [reads, hk]))]
 | fld x off n ag => simp only [opRes]; rw [ev_congr e]
 | ext j i => simp only [opRes]; rw [e j (by simp [reads])]
 | call f args useH => simp only [opRes]; rw [argsOf_congr e]
 | callr f args => simp only [opRes]; rw [argsOf_congr e]
 | len st x b => simp only [opRes]; rw [ev_congr (x := x) (fun k hk => e k (by simp [reads, hk])), rdsl_congr e]
 | app sz bytes x y b =>
  simp only [opRes]
  rw [ev_congr (x := x) (fun k hk => e k (by simp [reads, hk])), ev_congr (x := y) (fun k hk => e k (by simp [reads, hk])), rdsl_congr (x := y) (b := b) (fun k hk => e k (by simp only [List.mem_append] at hk; simp only [reads, List.mem_append]; rcases hk with hk | hk <;> simp [hk])), mvUps_congr (x := x) (fun k hk => e k (by simp [reads, hk]))]
 | _ => cases hd
end
def setH (h : Heap) : Rs → Rs
 | .val us v _ => .val us v h
 | .pan v _ => .pan v h
section
variable {ρ ρ' : Nat → V} {h h' : Heap} {c : CallF} {r : Rs}
theorem place_some {x : Src} {d : Nat} {p : Pl} (hp : place ρ x (some d) = some p) : ∃ o, p = .slot d o := by
 unfold place at hp
 cases hx : Am.ev ρ x with
 | box cs =>
  rw [hx] at hp
  cases x with
  | t i =>
   simp only at hp
   split at hp
   ·rename_i hid
    subst hid
    simp only [Option.some.injEq] at hp
    exact ⟨0, hp.symm⟩
   ·cases hp
  | _ => cases hp
 | bref d2 o =>
  rw [hx] at hp
  simp only at hp
  split at hp
  ·rename_i hid
   subst hid
   simp only [Option.some.injEq] at hp
   exact ⟨o, hp.symm⟩
  ·cases hp
 | _ => rw [hx] at hp; cases hp
theorem place_none {x : Src} {d o : Nat} (hp : place ρ x none = some (.slot d o)) : False := by
 unfold place at hp
 cases hx : Am.ev ρ x with
 | box cs =>
  rw [hx] at hp
  cases x <;> cases hp
 | _ => rw [hx] at hp; cases hp
theorem op_setH {op : AOp} (hd : drawable op = true) (h0 : hcl op = 0) : opRes c ρ h' op = (opRes c ρ h op).map (setH h') := by
 cases op with
 | ld x n tr b =>
  cases b with
  | none => cases h0
  | some d =>
   simp only [opRes]
   cases hp : place ρ x (some d) with
   | none => rfl
   | some p =>
    obtain ⟨o, rfl⟩ := place_some hp
    simp only
    (repeat' split) <;> rfl
 | callr f args => cases h0
 | st x v n tr b =>
  cases b with
  | none => cases h0
  | some d =>
   simp only [opRes]
   cases stVal ρ v tr with
   | none => rfl
   | some q =>
    cases hp : place ρ x (some d) with
    | none => simp only; split <;> rfl
    | some p =>
     obtain ⟨o, rfl⟩ := place_some hp
     simp only
     (repeat' split) <;> rfl
 | call f args useH =>
  cases useH with
  | true => cases h0
  | false =>
   simp only [opRes]
   split
   ·simp only [Bool.false_eq_true, if_false]
    cases c f _ [] with
    | none => rfl
    | some q => cases q with
     | ret v h2 => simp only [callR]; split <;> rfl
     | pan v h2 => rfl
   ·rfl
 | mv x => simp only [opRes]; (repeat' split) <;> rfl
 | cp x => simp only [opRes]; (repeat' split) <;> rfl
 | al d => simp only [opRes]; (repeat' split) <;> rfl
 | pick a b d => simp only [opRes]; (repeat' split) <;> rfl
 | newbox cs => rfl
 | boxr x => simp only [opRes]; (repeat' split) <;> rfl
 | boxb x => simp only [opRes]; (repeat' split) <;> rfl
 | build z ps => simp only [opRes]; (repeat' split) <;> rfl
 | bsl sz n z ps => simp only [opRes]; (repeat' split) <;> rfl
 | bsf sz n z ps => simp only [opRes]; (repeat' split) <;> rfl
 | fa x off b => simp only [opRes]; (repeat' split) <;> rfl
 | ia x i sz len b => simp only [opRes]; (repeat' split) <;> rfl
 | nck x b => simp only [opRes]; (repeat' split) <;> rfl
 | bin o x y => simp only [opRes]; (repeat' split) <;> rfl
 | beq o x y => simp only [opRes]; (repeat' split) <;> rfl
 | eqs o ks x y => simp only [opRes]; (repeat' split) <;> rfl
 | un o x => simp only [opRes]; (repeat' split) <;> rfl
 | cvi k x => simp only [opRes]; (repeat' split) <;> rfl
 | cvid x => simp only [opRes]; (repeat' split) <;> rfl
 | cvs x b => simp only [opRes]; (repeat' split) <;> rfl
 | cvb x => simp only [opRes]; (repeat' split) <;> rfl
 | cvr x => simp only [opRes]; (repeat' split) <;> rfl
 | mki t x => simp only [opRes]; (repeat' split) <;> rfl
 | mk sz bytes z x y => simp only [opRes]; (repeat' split) <;> rfl
 | slc sz x lo hi mx => simp only [opRes]; (repeat' split) <;> rfl
 | idx x i len n ag => simp only [opRes]; (repeat' split) <;> rfl
 | fld x off n ag => simp only [opRes]; (repeat' split) <;> rfl
 | ext j i => simp only [opRes]; (repeat' split) <;> rfl
 | len st x b => simp only [opRes]; (repeat' split) <;> rfl
 | app sz bytes x y b => simp only [opRes]; (repeat' split) <;> rfl
 | _ => cases hd
theorem mvUps_mem {x : Src} {u : Nat × V × Bool} (hu : u ∈ mvUps ρ x) : u.1 ∈ rs x ∧ u.2.1 = .undef := by
 cases x with
 | t i =>
  simp only [mvUps] at hu
  split at hu
  ·obtain rfl := List.mem_singleton.1 hu; exact ⟨by simp [rs], rfl⟩
  ·cases hu
 | _ => cases hu
theorem argsOf_mem {useH : Bool} {u : Nat × V × Bool} : ∀ {l : List (Src × Bool)} {vs : List V} {us : List (Nat × V × Bool)}, argsOf ρ useH l = some (vs, us) → u ∈ us → u.1 ∈ takenL l ∧ u.2.1 = .undef
 | [], vs, us, h, hu => by
  simp only [argsOf, Option.some.injEq, Prod.mk.injEq] at h
  obtain ⟨rfl, rfl⟩ := h
  cases hu
 | (x, tk) :: l, vs, us, h, hu => by
  obtain ⟨v, vs', us', rfl, hv, hl, hc⟩ := argsOf_cons h
  have up : ∀ k, k ∈ takenL l → k ∈ takenL ((x, tk) :: l) := fun k hk => by
   cases x <;> cases tk <;> simp [takenL, hk]
  rcases hc with ⟨_, rfl, rfl⟩ | ⟨rfl, _⟩
  ·simp only [List.mem_append] at hu
   rcases hu with hu | hu
   ·obtain ⟨h1, h2⟩ := mvUps_mem hu
    refine ⟨?_, h2⟩
    cases x with
    | t i => simp only [rs, List.mem_singleton] at h1; simp [takenL, h1]
    | _ => cases h1
   ·obtain ⟨h1, h2⟩ := argsOf_mem hl hu
    exact ⟨up _ h1, h2⟩
  ·obtain ⟨h1, h2⟩ := argsOf_mem hl hu
   exact ⟨up _ h1, h2⟩
theorem op_ups {op : AOp} {us : List (Nat × V × Bool)} {v : V} {h1 : Heap} (hd : drawable op = true) (H : opRes c ρ h op = some (.val us v h1)) :
    ∀ u ∈ us, u.1 ∈ writes op ∧ (u.2.2 = true → u.1 ∈ kills op) ∧ isAl u.2.1 = false := by
  have nil : ∀ {us : List (Nat × V × Bool)}, us = [] → ∀ u ∈ us, u.1 ∈ writes op ∧ (u.2.2 = true → u.1 ∈ kills op) ∧ isAl u.2.1 = false := fun h u hu => by subst h; cases hu
  cases op with
  | mv x =>
    simp only [opRes] at H
    split at H
    · cases H
    · simp only [Option.some.injEq, Rs.val.injEq] at H
      intro u hu
      rw [← H.1] at hu
      obtain ⟨h1, h2⟩ := mvUps_mem hu
      exact ⟨h1, fun _ => h1, by rw [h2]; rfl⟩
  | ld x n tr b =>
    simp only [opRes] at H
    split at H
    · rename_i d o hp
      cases b with
      | none => exact (place_none hp).elim
      | some d' =>
        obtain ⟨o', ho⟩ := place_some hp
        simp only [Pl.slot.injEq] at ho
        obtain ⟨rfl, rfl⟩ := ho
        split at H
        · cases H
        · split at H
          · split at H
            · cases tr with
              | true =>
                simp only [if_true] at H
                split at H
                · simp only [Option.some.injEq, Rs.val.injEq] at H
                  intro u hu
                  rw [← H.1] at hu
                  obtain rfl := List.mem_singleton.1 hu
                  exact ⟨by simp [writes, ob], (fun hh => by cases hh), rfl⟩
                · cases H
              | false =>
                simp only [Bool.false_eq_true, if_false] at H
                split at H
                · simp only [Option.some.injEq, Rs.val.injEq] at H; exact nil H.1.symm
                · cases H
            · cases H
          · split at H
            · split at H
              · simp only [Option.some.injEq, Rs.val.injEq] at H; exact nil H.1.symm
              · cases H
            · cases H
    · (repeat' split at H) <;> first | (cases H; done) | (simp only [Option.some.injEq, Rs.val.injEq] at H; exact nil H.1.symm)
    · (repeat' split at H) <;> first | (cases H; done) | (simp only [Option.some.injEq, Rs.val.injEq] at H; exact nil H.1.symm)
    · cases H
  | st x v n tr b =>
    simp only [opRes] at H
    split at H
    · cases H
    · rename_i wv us0 hst
      have hus0 : ∀ u ∈ us0, (tr = true ∧ u.1 ∈ rs v) ∧ u.2.1 = .undef := by
        intro u hu
        unfold stVal at hst
        split at hst
        · split at hst
          · rename_i htr
            simp only [Option.some.injEq, Prod.mk.injEq] at hst
            rw [← hst.2] at hu
            obtain ⟨h1, h2⟩ := mvUps_mem hu
            exact ⟨⟨htr, h1⟩, h2⟩
          · cases hst
        · split at hst
          · simp only [Option.some.injEq, Prod.mk.injEq] at hst
            rw [← hst.2] at hu
            cases hu
          · cases hst
      cases b with
      | none =>
        split at H
        · split at H
          · rename_i hp; exact (place_none hp).elim
          · split at H
            · simp only [Option.some.injEq, Rs.val.injEq] at H
              intro u hu
              rw [← H.1] at hu
              obtain ⟨⟨h1, h2⟩, h3⟩ := hus0 u hu
              exact ⟨by simp [writes, h1, h2], (fun _ => by simp [kills, h1, h2]), by rw [h3]; rfl⟩
            · cases H
          · cases H
        · cases H
      | some d' =>
        split at H
        · split at H
          · rename_i d o hp
            obtain ⟨o', ho⟩ := place_some hp
            simp only [Pl.slot.injEq] at ho
            obtain ⟨rfl, rfl⟩ := ho
            split at H
            · split at H
              · simp only [Option.some.injEq, Rs.val.injEq] at H
                intro u hu
                rw [← H.1] at hu
                simp only [List.mem_append, List.mem_singleton] at hu
                rcases hu with hu | rfl
                · obtain ⟨⟨h1, h2⟩, h3⟩ := hus0 u hu
                  exact ⟨by simp [writes, h1, h2], (fun _ => by simp [kills, h1, h2]), by rw [h3]; rfl⟩
                · exact ⟨by simp [writes, ob], (fun hh => by cases hh), rfl⟩
              · cases H
            · split at H
              · simp only [Option.some.injEq, Rs.val.injEq] at H
                intro u hu
                rw [← H.1] at hu
                obtain rfl := List.mem_singleton.1 hu
                exact ⟨by simp [writes, ob], (fun hh => by cases hh), rfl⟩
              · cases H
            · cases H
          · rename_i id o hp
            obtain ⟨o', ho⟩ := place_some hp
            cases ho
          · cases H
        · cases H
  | ext j i =>
    simp only [opRes] at H
    split at H
    · split at H
      · split at H
        · simp only [Option.some.injEq, Rs.val.injEq] at H
          intro u hu
          rw [← H.1] at hu
          obtain rfl := List.mem_singleton.1 hu
          exact ⟨by simp [writes], (fun hh => by cases hh), rfl⟩
        · simp only [Option.some.injEq, Rs.val.injEq] at H; exact nil H.1.symm
      · cases H
    · cases H
  | call f args useH =>
    simp only [opRes] at H
    split at H
    · rename_i vs us0 ha
      obtain ⟨q, hq⟩ := callR_some H
      rw [hq] at H
      cases q with
      | ret v h2 =>
        simp only [callR] at H
        split at H
        · cases H
        simp only [Option.some.injEq, Rs.val.injEq] at H
        intro u hu
        rw [← H.1] at hu
        obtain ⟨h1, h2⟩ := argsOf_mem ha hu
        exact ⟨h1, fun _ => h1, by rw [h2]; rfl⟩
      | pan v h2 => simp [callR] at H
    · cases H
  | callr f args =>
    simp only [opRes] at H
    split at H
    · rename_i vs us0 ha
      obtain ⟨q, hq⟩ := callR'_some H
      rw [hq] at H
      cases q with
      | ret v h2 =>
        simp only [callR'] at H
        split at H
        · split at H
          · cases H
          simp only [Option.some.injEq, Rs.val.injEq] at H
          intro u hu
          rw [← H.1] at hu
          obtain ⟨h1, h2⟩ := argsOf_mem ha hu
          exact ⟨h1, fun _ => h1, by rw [h2]; rfl⟩
        · cases H
      | pan v h2 => simp [callR'] at H
    · cases H
  | app sz bytes x y b =>
    simp only [opRes] at H
    split at H
    · split at H
      · split at H
        · simp only [Option.some.injEq, Rs.val.injEq] at H
          intro u hu
          rw [← H.1] at hu
          obtain ⟨h1, h2⟩ := mvUps_mem hu
          exact ⟨h1, fun _ => h1, by rw [h2]; rfl⟩
        · cases H
      · cases H
    · cases H
  | cp x => simp only [opRes] at H; (repeat' split at H) <;> first | (cases H; done) | (simp only [Option.some.injEq, Rs.val.injEq] at H; exact nil H.1.symm)
  | al d => simp only [opRes] at H; (repeat' split at H) <;> first | (cases H; done) | (simp only [Option.some.injEq, Rs.val.injEq] at H; exact nil H.1.symm)
  | pick a b d => simp only [opRes] at H; (repeat' split at H) <;> first | (cases H; done) | (simp only [Option.some.injEq, Rs.val.injEq] at H; exact nil H.1.symm)
  | newbox cs => simp only [opRes, Option.some.injEq, Rs.val.injEq] at H; exact nil H.1.symm
  | boxr x => simp only [opRes] at H; (repeat' split at H) <;> first | (cases H; done) | (simp only [Option.some.injEq, Rs.val.injEq] at H; exact nil H.1.symm)
  | boxb x => simp only [opRes] at H; (repeat' split at H) <;> first | (cases H; done) | (simp only [Option.some.injEq, Rs.val.injEq] at H; exact nil H.1.symm)
  | build z ps => simp only [opRes] at H; (repeat' split at H) <;> first | (cases H; done) | (simp only [Option.some.injEq, Rs.val.injEq] at H; exact nil H.1.symm)
  | bsl sz n z ps => simp only [opRes] at H; (repeat' split at H) <;> first | (cases H; done) | (simp only [Option.some.injEq, Rs.val.injEq] at H; exact nil H.1.symm)
  | bsf sz n z ps => simp only [opRes] at H; (repeat' split at H) <;> first | (cases H; done) | (simp only [Option.some.injEq, Rs.val.injEq] at H; exact nil H.1.symm)
  | fa x off b => simp only [opRes] at H; (repeat' split at H) <;> first | (cases H; done) | (simp only [Option.some.injEq, Rs.val.injEq] at H; exact nil H.1.symm)
  | ia x i sz len b => simp only [opRes] at H; (repeat' split at H) <;> first | (cases H; done) | (simp only [Option.some.injEq, Rs.val.injEq] at H; exact nil H.1.symm)
  | nck x b => simp only [opRes] at H; (repeat' split at H) <;> first | (cases H; done) | (simp only [Option.some.injEq, Rs.val.injEq] at H; exact nil H.1.symm)
  | bin o x y => simp only [opRes] at H; (repeat' split at H) <;> first | (cases H; done) | (simp only [Option.some.injEq, Rs.val.injEq] at H; exact nil H.1.symm)
  | beq o x y => simp only [opRes] at H; (repeat' split at H) <;> first | (cases H; done) | (simp only [Option.some.injEq, Rs.val.injEq] at H; exact nil H.1.symm)
  | eqs o ks x y => simp only [opRes] at H; (repeat' split at H) <;> first | (cases H; done) | (simp only [Option.some.injEq, Rs.val.injEq] at H; exact nil H.1.symm)
  | un o x => simp only [opRes] at H; (repeat' split at H) <;> first | (cases H; done) | (simp only [Option.some.injEq, Rs.val.injEq] at H; exact nil H.1.symm)
  | cvi k x => simp only [opRes] at H; (repeat' split at H) <;> first | (cases H; done) | (simp only [Option.some.injEq, Rs.val.injEq] at H; exact nil H.1.symm)
  | cvid x => simp only [opRes] at H; (repeat' split at H) <;> first | (cases H; done) | (simp only [Option.some.injEq, Rs.val.injEq] at H; exact nil H.1.symm)
  | cvs x b => simp only [opRes] at H; (repeat' split at H) <;> first | (cases H; done) | (simp only [Option.some.injEq, Rs.val.injEq] at H; exact nil H.1.symm)
  | cvb x => simp only [opRes] at H; (repeat' split at H) <;> first | (cases H; done) | (simp only [Option.some.injEq, Rs.val.injEq] at H; exact nil H.1.symm)
  | cvr x => simp only [opRes] at H; (repeat' split at H) <;> first | (cases H; done) | (simp only [Option.some.injEq, Rs.val.injEq] at H; exact nil H.1.symm)
  | mki t x => simp only [opRes] at H; (repeat' split at H) <;> first | (cases H; done) | (simp only [Option.some.injEq, Rs.val.injEq] at H; exact nil H.1.symm)
  | mk sz bytes z x y => simp only [opRes] at H; (repeat' split at H) <;> first | (cases H; done) | (simp only [Option.some.injEq, Rs.val.injEq] at H; exact nil H.1.symm)
  | slc sz x lo hi mx => simp only [opRes] at H; (repeat' split at H) <;> first | (cases H; done) | (simp only [Option.some.injEq, Rs.val.injEq] at H; exact nil H.1.symm)
  | idx x i len n ag => simp only [opRes] at H; (repeat' split at H) <;> first | (cases H; done) | (simp only [Option.some.injEq, Rs.val.injEq] at H; exact nil H.1.symm)
  | fld x off n ag => simp only [opRes] at H; (repeat' split at H) <;> first | (cases H; done) | (simp only [Option.some.injEq, Rs.val.injEq] at H; exact nil H.1.symm)
  | len st x b => simp only [opRes] at H; (repeat' split at H) <;> first | (cases H; done) | (simp only [Option.some.injEq, Rs.val.injEq] at H; exact nil H.1.symm)
  | _ => cases hd
theorem op_heap {op : AOp} {us : List (Nat × V × Bool)} {v : V} {h1 : Heap} (hd : drawable op = true) (hh : hcl op ≠ 2) (H : opRes c ρ h op = some (.val us v h1)) : h1 = h := by
 by_cases h0 : hcl op = 0
 ·have := op_setH (c := c) (ρ := ρ) (h := h) (h' := h) hd h0
  rw [H] at this
  simpa [setH] using this
 ·cases op with
  | ld x n tr b =>
   cases b with
   | some d => exact (h0 rfl).elim
   | none =>
    have htr : tr = false := by simpa [drawable] using hd
    subst htr
    simp only [opRes, Bool.false_eq_true, if_false] at H
    (repeat' split at H) <;> first | (cases H; done) | (simp only [Option.some.injEq, Rs.val.injEq] at H; exact H.2.2.symm)
  | call f args useH => cases useH <;> first | exact (hh rfl).elim | exact (h0 rfl).elim
  | callr f args =>
   simp only [opRes] at H
   split at H
   ·rename_i vs us0 ha
    obtain ⟨q, hq⟩ := callR'_some H
    rw [hq] at H
    cases q with
    | ret v h2 =>
     simp only [callR'] at H
     (repeat' split at H) <;> first | (cases H; done) | (simp only [Option.some.injEq, Rs.val.injEq] at H; exact H.2.2.symm)
    | pan v h2 => simp [callR'] at H
   ·cases H
  | st x v n tr b => cases b <;> first | exact (hh rfl).elim | exact (h0 rfl).elim
  | _ => exact (h0 rfl).elim
end
section
variable {P : Program} {E : Env} {a : Act} {w : World} {s : St} {call : CallF} {dfs : List Deferred}
def slotsOf (U : List (Nat × V × Bool)) : List Nat := U.map (·.1)
theorem upd_comm (t : List V) {d e : Nat} (h : d ≠ e) (u v : V) : upd (upd t d v) e u = upd (upd t e u) d v := by
 induction t generalizing d e with
 | nil => rfl
 | cons x t ih =>
  cases d with
  | zero => cases e with
   | zero => exact (h rfl).elim
   | succ e => rfl
  | succ d => cases e with
   | zero => rfl
   | succ e => simp only [upd]; rw [ih (by omega)]
def noKill (U : List (Nat × V × Bool)) : Prop := ∀ u ∈ U, u.2.2 = false
theorem ups1_nokill {t : List V} {u : Nat × V × Bool} (h : u.2.2 = false) : ups1 t u = upd t u.1 u.2.1 := by
 obtain ⟨d, v, f⟩ := u
 simp only at h
 subst h
 rfl
theorem ups_comm1 {t : List V} {d : Nat} {v : V} : ∀ {U : List (Nat × V × Bool)}, noKill U → d ∉ slotsOf U → ups (upd t d v) U = upd (ups t U) d v
 | [], _, _ => rfl
 | u :: U, hk, hd => by
  simp only [slotsOf, List.map_cons, List.mem_cons, not_or] at hd
  simp only [ups]
  rw [ups1_nokill (hk u (by simp)), ups1_nokill (hk u (by simp)), upd_comm _ hd.1]
  exact ups_comm1 (t := upd t u.1 u.2.1) (fun x hx => hk x (by simp [hx])) hd.2
theorem ups_comm {U : List (Nat × V × Bool)} (hU : noKill U) : ∀ {t : List V} {T : List (Nat × V × Bool)}, noKill T → (∀ d ∈ slotsOf T, d ∉ slotsOf U) → ups (ups t T) U = ups (ups t U) T
 | t, [], _, _ => rfl
 | t, u :: T, hT, hd => by
  simp only [ups]
  rw [ups_comm hU (fun x hx => hT x (by simp [hx])) (fun d hdd => hd d (by simp only [slotsOf, List.map_cons, List.mem_cons]; exact .inr hdd))]
  rw [ups1_nokill (hT u (by simp)), ups1_nokill (hT u (by simp)), ups_comm1 hU (hd u.1 (by simp [slotsOf]))]
theorem nth_ups_out {k : Nat} : ∀ {t : List V} {U : List (Nat × V × Bool)}, noKill U → k ∉ slotsOf U → nth (ups t U) k = nth t k
 | t, [], _, _ => rfl
 | t, u :: U, hk, hd => by
  simp only [slotsOf, List.map_cons, List.mem_cons, not_or] at hd
  simp only [ups]
  rw [nth_ups_out (fun x hx => hk x (by simp [hx])) hd.2, ups1_nokill (hk u (by simp)), nth_upd_ne (Ne.symm hd.1)]
def dstU (dst : Option Nat) (v : V) : List (Nat × V × Bool) := match dst with | some d => [(d, v, false)] | none => []
def resI (c : CallF) (i : AI) (t : List V) (h : Heap) : Option Rs :=
 match i.g with
 | none => opRes c (nth t) h i.op
 | some (g, want) => match nth t g with
  | .bool b => if b = want then opRes c (nth t) h i.op else some (.val [] (.tup []) h)
  | .tup [] => some (.val [] (.tup []) h)
  | _ => none
theorem stepI_resI (c : CallF) (i : AI) (s : St) : stepI c i s = stepR i.dst s (resI c i s.t s.h) := by
 unfold stepI resI
 cases hg : i.g with
 | none => rfl
 | some gw =>
  obtain ⟨g, want⟩ := gw
  simp only
  cases nth s.t g with
  | bool b =>
   simp only
   by_cases hb : b = want
   ·rw [if_pos hb, if_pos hb]
   ·rw [if_neg hb, if_neg hb]
  | tup vs => cases vs <;> rfl
  | _ => rfl
def gs : Option (Nat × Bool) → List Nat
 | some (g, _) => [g]
 | none => []
theorem resI_congr {c : CallF} {i : AI} {t t' : List V} {h : Heap} (hd : drawable i.op = true) (e : ∀ k ∈ gs i.g ++ reads i.op, nth t k = nth t' k) : resI c i t h = resI c i t' h := by
 have h1 : opRes c (nth t) h i.op = opRes c (nth t') h i.op := op_congr hd (fun k hk => e k (by simp [hk]))
 unfold resI
 cases hg : i.g with
 | none => exact h1
 | some gw =>
  obtain ⟨g, want⟩ := gw
  simp only
  rw [e g (by simp [hg, gs]), h1]
theorem resI_setH {c : CallF} {i : AI} {t : List V} {h h' : Heap} (hd : drawable i.op = true) (h0 : hcl i.op = 0) : resI c i t h' = (resI c i t h).map (setH h') := by
 have h1 : opRes c (nth t) h' i.op = (opRes c (nth t) h i.op).map (setH h') := op_setH hd h0
 unfold resI
 cases hg : i.g with
 | none => exact h1
 | some gw =>
  obtain ⟨g, want⟩ := gw
  simp only
  split
  ·split
   ·exact h1
   ·rfl
  ·rfl
  ·rfl
theorem resI_heap {c : CallF} {i : AI} {t : List V} {h h1 : Heap} {us : List (Nat × V × Bool)} {v : V} (hd : drawable i.op = true) (hh : hcl i.op ≠ 2) (H : resI c i t h = some (.val us v h1)) : h1 = h := by
 unfold resI at H
 split at H
 ·exact op_heap hd hh H
 ·split at H
  ·split at H
   ·exact op_heap hd hh H
   ·simp only [Option.some.injEq, Rs.val.injEq] at H; exact H.2.2.symm
  ·simp only [Option.some.injEq, Rs.val.injEq] at H; exact H.2.2.symm
  ·cases H
theorem resI_ups {c : CallF} {i : AI} {t : List V} {h h1 : Heap} {us : List (Nat × V × Bool)} {v : V} (hd : drawable i.op = true) (H : resI c i t h = some (.val us v h1)) :
    ∀ u ∈ us, u.1 ∈ writes i.op ∧ (u.2.2 = true → u.1 ∈ kills i.op) := by
  have nil : ∀ {us : List (Nat × V × Bool)}, us = [] → ∀ u ∈ us, u.1 ∈ writes i.op ∧ (u.2.2 = true → u.1 ∈ kills i.op) := fun h u hu => by subst h; cases hu
  have run : opRes c (nth t) h i.op = some (.val us v h1) → ∀ u ∈ us, u.1 ∈ writes i.op ∧ (u.2.2 = true → u.1 ∈ kills i.op) := fun H u hu => by
    obtain ⟨x1, x2, _⟩ := op_ups hd H u hu
    exact ⟨x1, x2⟩
  unfold resI at H
  split at H
  · exact run H
  · split at H
    · split at H
      · exact run H
      · simp only [Option.some.injEq, Rs.val.injEq] at H; exact nil H.1.symm
    · simp only [Option.some.injEq, Rs.val.injEq] at H; exact nil H.1.symm
    · cases H
def disj (l m : List Nat) : Bool := l.all fun x => !m.contains x
theorem disj_ok {l m : List Nat} (h : disj l m = true) : ∀ x ∈ l, x ∉ m := fun x hx hm => by
 have := List.all_eq_true.1 h x hx
 simp [hm] at this
def dl (i : AI) : List Nat := match i.dst with | some d => [d] | none => []
def wr (i : AI) : List Nat := dl i ++ writes i.op
def rd (i : AI) : List Nat := dl i ++ gs i.g ++ reads i.op
def plainOp : AOp → Bool
 | .fa _ _ none => true
 | .ld _ _ false none => true
 | .nck _ none => true
 | .bin _ _ _ => true
 | .cvi _ _ => true
 | .len true _ none => true
 | .slc _ _ _ _ _ => true
 | .call _ args _ => (takenL args).isEmpty
 | _ => false
def extPair (i j : AI) : Bool := match i.op, j.op, i.g, j.g, i.dst, j.dst with
 | .ext a x, .ext b y, none, none, some d, some e => a == b && x != y && d != e && d != a && e != a
 | _, _, _, _, _, _ => false
def commB (i j : AI) : Bool := drawable i.op && drawable j.op && ((kills i.op).isEmpty && (kills j.op).isEmpty || plainOp i.op || plainOp j.op) && disj (wr i) (rd j) && disj (wr j) (rd i) && disj (wr j) (wr i) &&
 (hcl i.op == 0 || hcl j.op == 0 || (hcl i.op != 2 && hcl j.op != 2))
def reads' : AOp → List Nat
 | .fa x _ _ => rs x
 | .nck x _ => rs x
 | op => reads op
def bases : AOp → List Nat
 | .fa _ _ b => ob b
 | .nck _ b => ob b
 | .ld _ _ _ b => ob b
 | _ => []
def semiA : AOp → Bool
 | .fa _ _ (some _) => true
 | .nck _ (some _) => true
 | .ld _ _ false (some _) => true
 | .bsl _ _ _ _ => true
 | .bsf _ _ _ _ => true
 | .cp (.t _) => true
 | .call _ _ _ => true
 | op => plainOp op
def semiB : AOp → Bool
 | .mv _ => true
 | op => semiA op
def commK (i j : AI) : Bool := drawable i.op && drawable j.op && semiA i.op && semiB j.op && disj (bases i.op) (kills j.op) && disj (bases j.op) (kills i.op) && disj (wr i) (rd j) && disj (wr j) (rd i) && disj (wr j) (wr i) &&
 (hcl i.op == 0 || hcl j.op == 0 || (hcl i.op != 2 && hcl j.op != 2))
def comm (i j : AI) : Bool := commB i j || extPair i j || commK i j
theorem data_isAl' {v : V} (h : v.data = true) : isAl v = false ∧ v ≠ .undef := by cases v <;> simp_all [V.data, isAl]
def okRead (ρ : Nat → V) (l : List Nat) : Prop := ∀ k ∈ l, isAl (ρ k) = false ∧ ρ k ≠ .undef
theorem okRead_app {ρ : Nat → V} {l m : List Nat} (h1 : okRead ρ l) (h2 : okRead ρ m) : okRead ρ (l ++ m) := fun k hk => by
 rcases List.mem_append.1 hk with hk | hk
 ·exact h1 k hk
 ·exact h2 k hk
theorem okRead_nil {ρ : Nat → V} : okRead ρ [] := fun k hk => by cases hk
theorem okRead_ev {ρ : Nat → V} {x : Src} {v : V} (h : Am.ev ρ x = v) (hv : isAl v = false ∧ v ≠ .undef) : okRead ρ (rs x) := fun k hk => by
 cases x with
 | t i =>
  simp only [rs, List.mem_singleton] at hk
  subst hk
  have : ρ k = v := h
  rw [this]; exact hv
 | _ => cases hk
theorem okRead_int {ρ : Nat → V} {x : Src} {n : Int} (h : intOf ρ x = some n) : okRead ρ (rs x) := by
 unfold intOf at h
 split at h
 ·rename_i k m he; exact okRead_ev he ⟨rfl, by simp⟩
 ·cases h
theorem okRead_bound {ρ : Nat → V} {x : Option Src} {d n : Int} (h : Am.bound ρ x d = some n) : okRead ρ (rso x) := by
 cases x with
 | none => exact okRead_nil
 | some x => exact okRead_int h
theorem okRead_place {ρ : Nat → V} {x : Src} {p : Pl} (h : place ρ x none = some p) : okRead ρ (rs x) := by
 unfold place at h
 cases hx : Am.ev ρ x with
 | ptr i o => exact okRead_ev hx ⟨rfl, by simp⟩
 | rptr cs => exact okRead_ev hx ⟨rfl, by simp⟩
 | box cs => rw [hx] at h; cases x <;> cases h
 | _ => rw [hx] at h; cases h
theorem okRead_bin {ρ : Nat → V} {op : BinOp} {x y : Src} {v : V} (h : binV op (Am.ev ρ x) (Am.ev ρ y) = some v) : okRead ρ (rs x ++ rs y) ∧ isAl v = false := by
 unfold binV at h
 split at h
 ·rename_i k a k' b e1 e2
  refine ⟨okRead_app (okRead_ev e1 ⟨rfl, by simp⟩) (okRead_ev e2 ⟨rfl, by simp⟩), ?_⟩
  (repeat' split at h) <;> first | (cases h; done) | (simp only [Option.some.injEq] at h; subst h; rfl)
 ·rename_i a b e1 e2
  refine ⟨okRead_app (okRead_ev e1 ⟨rfl, by simp⟩) (okRead_ev e2 ⟨rfl, by simp⟩), ?_⟩
  (repeat' split at h) <;> first | (cases h; done) | (simp only [Option.some.injEq] at h; subst h; rfl)
 ·cases h
theorem okRead_args {ρ : Nat → V} {useH : Bool} : ∀ {l : List (Src × Bool)} {vs : List V} {us : List (Nat × V × Bool)}, takenL l = [] → argsOf ρ useH l = some (vs, us) → okRead ρ (rsA l)
 | [], _, _, _, _ => okRead_nil
 | (x, tk) :: l, vs, us, ht, h => by
  have ht2 : takenL l = [] := by cases x <;> cases tk <;> simp_all [takenL]
  simp only [argsOf] at h
  cases hl : argsOf ρ useH l with
  | none => rw [hl] at h; cases h
  | some q =>
   have ih := okRead_args ht2 hl
   rw [hl] at h
   simp only at h
   refine okRead_app ?_ ih
   split at h
   ·rename_i sz xs he
    split at h
    ·rename_i htk
     subst htk
     cases x with
     | t i => simp [takenL] at ht
     | _ => exact okRead_nil
    ·cases h
   ·rename_i he; exact okRead_ev he ⟨rfl, by simp⟩
   ·rename_i he; exact okRead_ev he ⟨rfl, by simp⟩
   ·rename_i v he _ _
    split at h
    ·rename_i hd; exact okRead_ev rfl (data_isAl' hd)
    ·cases h
theorem one_isAl {v : V} (h : v.one = true) : isAl v = false := by cases v <;> simp_all [V.one, isAl]
theorem plain_op {c : CallF} {ρ : Nat → V} {h h1 : Heap} {op : AOp} {us : List (Nat × V × Bool)} {v : V} (hp : plainOp op = true) (hd : drawable op = true) (H : opRes c ρ h op = some (.val us v h1)) :
    us = [] ∧ isAl v = false ∧ okRead ρ (reads op) := by
  have hus : us = [] := by
    cases hu : us with
    | nil => rfl
    | cons u l =>
      exfalso
      have := (op_ups hd H u (by rw [hu]; simp)).1
      cases op with
      | fa x o b => cases this
      | ld x n tr b => cases b <;> cases tr <;> first | (cases hp; done) | cases this
      | nck x b => cases this
      | bin o x y => cases this
      | cvi k x => cases this
      | len st x b => cases this
      | slc sz x lo hi mx => cases this
      | call f args useH =>
        have hp : (takenL args).isEmpty = true := hp
        rw [List.isEmpty_iff] at hp
        have this : u.1 ∈ takenL args := this
        rw [hp] at this
        cases this
      | _ => cases hp
  subst hus
  refine ⟨rfl, ?_⟩
  cases op with
  | fa x off b =>
    cases b with
    | some d => cases hp
    | none =>
      simp only [opRes] at H
      split at H
      · rename_i hpl; exact (place_none hpl).elim
      · rename_i hpl
        simp only [Option.some.injEq, Rs.val.injEq] at H
        exact ⟨by rw [← H.2.1]; rfl, okRead_app (okRead_place hpl) okRead_nil⟩
      · rename_i hpl
        split at H
        · simp only [Option.some.injEq, Rs.val.injEq] at H
          exact ⟨by rw [← H.2.1]; rfl, okRead_app (okRead_place hpl) okRead_nil⟩
        · cases H
      · cases H
  | ld x n tr b =>
    cases b with
    | some d => cases tr <;> cases hp
    | none =>
      cases tr with
      | true => cases hp
      | false =>
        simp only [opRes, Bool.false_eq_true, if_false] at H
        split at H
        · rename_i hpl; exact (place_none hpl).elim
        · rename_i hpl
          refine ⟨?_, okRead_app (okRead_place hpl) okRead_nil⟩
          (repeat' split at H) <;> first | (cases H; done) | (rename_i ho; simp only [Option.some.injEq, Rs.val.injEq] at H; rw [← H.2.1]; first | exact one_isAl ho | rfl)
        · rename_i hpl
          refine ⟨?_, okRead_app (okRead_place hpl) okRead_nil⟩
          (repeat' split at H) <;> first | (cases H; done) | (rename_i ho; simp only [Option.some.injEq, Rs.val.injEq] at H; rw [← H.2.1]; first | exact one_isAl ho | rfl)
        · cases H
  | nck x b =>
    cases b with
    | some d => cases hp
    | none =>
      simp only [opRes] at H
      split at H
      · rename_i hpl; exact (place_none hpl).elim
      · rename_i hpl
        simp only [Option.some.injEq, Rs.val.injEq] at H
        exact ⟨by rw [← H.2.1]; rfl, okRead_app (okRead_place hpl) okRead_nil⟩
      · rename_i hpl
        simp only [Option.some.injEq, Rs.val.injEq] at H
        exact ⟨by rw [← H.2.1]; rfl, okRead_app (okRead_place hpl) okRead_nil⟩
      · split at H
        · rename_i he
          simp only [Option.some.injEq, Rs.val.injEq] at H
          exact ⟨by rw [← H.2.1]; rfl, okRead_app (okRead_ev he ⟨rfl, by simp⟩) okRead_nil⟩
        · cases H
  | bin o x y =>
    simp only [opRes] at H
    split at H
    · rename_i w hw
      simp only [Option.some.injEq, Rs.val.injEq] at H
      obtain ⟨h3, h4⟩ := okRead_bin hw
      exact ⟨by rw [← H.2.1]; exact h4, h3⟩
    · cases H
  | cvi k x =>
    simp only [opRes] at H
    split at H
    · rename_i he
      simp only [Option.some.injEq, Rs.val.injEq] at H
      exact ⟨by rw [← H.2.1]; rfl, okRead_ev he ⟨rfl, by simp⟩⟩
    · cases H
  | len st x b =>
    cases st with
    | false => cases hp
    | true =>
      cases b with
      | some d => cases hp
      | none =>
        simp only [opRes, if_true] at H
        split at H
        · rename_i he
          simp only [Option.some.injEq, Rs.val.injEq] at H
          exact ⟨by rw [← H.2.1]; rfl, okRead_app (okRead_ev he ⟨rfl, by simp⟩) okRead_nil⟩
        · cases H
  | slc sz x lo hi mx =>
    simp only [opRes] at H
    split at H
    · rename_i he
      split at H
      · rename_i hlo hhi
        split at H
        · simp only [Option.some.injEq, Rs.val.injEq] at H
          exact ⟨by rw [← H.2.1]; rfl, okRead_app (okRead_app (okRead_app (okRead_ev he ⟨rfl, by simp⟩) (okRead_bound hlo)) (okRead_bound hhi)) okRead_nil⟩
        · cases H
      · cases H
    · rename_i he
      split at H
      · rename_i hlo hhi hmx
        split at H
        · simp only [Option.some.injEq, Rs.val.injEq] at H
          exact ⟨by rw [← H.2.1]; rfl, okRead_app (okRead_app (okRead_app (okRead_ev he ⟨rfl, by simp⟩) (okRead_bound hlo)) (okRead_bound hhi)) (okRead_bound hmx)⟩
        · cases H
      · cases H
    · cases H
  | call f args useH =>
    have hp : (takenL args).isEmpty = true := hp
    rw [List.isEmpty_iff] at hp
    simp only [opRes] at H
    split at H
    · rename_i vs us ha
      obtain ⟨q, hq⟩ := callR_some H
      rw [hq] at H
      cases q with
      | pan v h => simp [callR] at H
      | ret w h =>
        simp only [callR] at H
        split at H
        · cases H
        · rename_i hal
          simp only [Option.some.injEq, Rs.val.injEq] at H
          exact ⟨by rw [← H.2.1]; simpa using hal, okRead_args hp ha⟩
    · cases H
  | _ => cases hp
theorem killb_cases (d : Nat) (v : V) : V.killb d v = v ∨ (isAl v = true ∧ V.killb d v = .undef) := by
 cases v with
 | bref d' o => simp only [V.killb]; split <;> simp [isAl]
 | al d' => simp only [V.killb]; split <;> simp [isAl]
 | _ => exact .inl rfl
theorem killb_noal {d : Nat} {v : V} (h : isAl v = false) : V.killb d v = v := by
 rcases killb_cases d v with h1 | ⟨h1, _⟩
 ·exact h1
 ·rw [h] at h1; cases h1
theorem nth_killb (d k : Nat) : ∀ t : List V, nth (t.map (V.killb d)) k = V.killb d (nth t k) := by
 intro t
 induction t generalizing k with
 | nil => rfl
 | cons v t ih => cases k with
  | zero => rfl
  | succ k => exact ih k
theorem nth_ups_any {k : Nat} : ∀ {U : List (Nat × V × Bool)} {t : List V}, k ∉ slotsOf U → nth (ups t U) k = nth t k ∨ (isAl (nth t k) = true ∧ nth (ups t U) k = .undef)
 | [], t, _ => .inl rfl
 | (d, v, b) :: U, t, hd => by
  simp only [slotsOf, List.map_cons, List.mem_cons, not_or] at hd
  have h1 : nth (ups1 t (d, v, b)) k = nth t k ∨ (isAl (nth t k) = true ∧ nth (ups1 t (d, v, b)) k = .undef) := by
   cases b with
   | false => exact .inl (nth_upd_ne (Ne.symm hd.1) _)
   | true =>
    simp only [ups1]
    rw [nth_upd_ne (Ne.symm hd.1), nth_killb]
    exact killb_cases d _
  simp only [ups]
  rcases nth_ups_any (k := k) (U := U) (t := ups1 t (d, v, b)) hd.2 with h2 | ⟨h2, h3⟩
  ·rw [h2]; exact h1
  ·rcases h1 with h1 | ⟨h1, h4⟩
   ·rw [h1] at h2; exact .inr ⟨h2, h3⟩
   ·rw [h4] at h2; cases h2
theorem map_upd (f : V → V) : ∀ (t : List V) (d : Nat) (v : V), (upd t d v).map f = upd (t.map f) d (f v)
 | [], _, _ => rfl
 | x :: t, 0, v => rfl
 | x :: t, d + 1, v => by simp only [upd, List.map_cons]; rw [map_upd f t d v]
theorem ups_upd {d : Nat} {v : V} (hv : isAl v = false) : ∀ {U : List (Nat × V × Bool)} {t : List V}, d ∉ slotsOf U → ups (upd t d v) U = upd (ups t U) d v
 | [], t, _ => rfl
 | (e, u, b) :: U, t, hd => by
  simp only [slotsOf, List.map_cons, List.mem_cons, not_or] at hd
  have h1 : ups1 (upd t d v) (e, u, b) = upd (ups1 t (e, u, b)) d v := by
   cases b with
   | false => exact upd_comm _ hd.1 _ _
   | true =>
    simp only [ups1]
    rw [map_upd, killb_noal hv, upd_comm _ hd.1]
  simp only [ups]
  rw [h1]
  exact ups_upd hv hd.2
theorem stepR_norm {dst : Option Nat} {s s' : St} {r : Option Rs} (h : stepR dst s r = some (.norm, s')) : ∃ us v h', r = some (.val us v h') ∧ put (ups s.t us) dst v = some s'.t ∧ s'.h = h' := by
 cases r with
 | none => cases h
 | some r =>
  cases r with
  | val us v h' =>
   simp only [stepR] at h
   split at h
   ·rename_i t' hp
    simp only [Option.some.injEq, Prod.mk.injEq, true_and] at h
    subst h
    exact ⟨us, v, h', rfl, hp, rfl⟩
   ·cases h
  | pan v h' => simp [stepR] at h
theorem put_ups {t t' : List V} {us : List (Nat × V × Bool)} {dst : Option Nat} {v : V} (h : put (ups t us) dst v = some t') : t' = ups t (us ++ dstU dst v) := by
 rw [ups_append]
 cases dst with
 | none => simp only [put, Option.some.injEq] at h; exact h.symm
 | some d =>
  simp only [put] at h
  split at h
  ·cases h
  ·simp only [Option.some.injEq] at h; exact h.symm
theorem plain_resI {c : CallF} {i : AI} {t : List V} {h h1 : Heap} {us : List (Nat × V × Bool)} {v : V} (hd : drawable i.op = true) (hp : plainOp i.op = true) (H : resI c i t h = some (.val us v h1)) :
    us = [] ∧ isAl v = false ∧ ∀ t' : List V, (∀ k ∈ gs i.g ++ reads i.op, isAl (nth t k) = false → nth t k ≠ .undef → nth t' k = nth t k) → ∀ h', resI c i t' h' = resI c i t h' := by
  unfold resI at H ⊢
  cases hg : i.g with
  | none =>
    rw [hg] at H
    simp only at H ⊢
    obtain ⟨x1, x2, x3⟩ := plain_op hp hd H
    exact ⟨x1, x2, fun t' ht h' => op_congr hd (fun k hk => ht k (by simp [gs, hk]) (x3 k hk).1 (x3 k hk).2)⟩
  | some gw =>
    obtain ⟨g, want⟩ := gw
    rw [hg] at H
    simp only at H ⊢
    cases hv : nth t g with
    | bool bb =>
      rw [hv] at H
      simp only at H ⊢
      by_cases hbw : bb = want
      · rw [if_pos hbw] at H
        obtain ⟨x1, x2, x3⟩ := plain_op hp hd H
        refine ⟨x1, x2, fun t' ht h' => ?_⟩
        rw [ht g (by simp [gs]) (by rw [hv]; rfl) (by rw [hv]; simp), hv]
        simp only [if_pos hbw]
        exact op_congr hd (fun k hk => ht k (by simp [hk]) (x3 k hk).1 (x3 k hk).2)
      · rw [if_neg hbw] at H
        simp only [Option.some.injEq, Rs.val.injEq] at H
        refine ⟨H.1.symm, by rw [← H.2.1]; rfl, fun t' ht h' => ?_⟩
        rw [ht g (by simp [gs]) (by rw [hv]; rfl) (by rw [hv]; simp), hv]
        simp only [if_neg hbw]
    | tup vs =>
      rw [hv] at H
      cases vs with
      | cons w ws => cases H
      | nil =>
        simp only [Option.some.injEq, Rs.val.injEq] at H
        refine ⟨H.1.symm, by rw [← H.2.1]; rfl, fun t' ht h' => ?_⟩
        rw [ht g (by simp [gs]) (by rw [hv]; rfl) (by rw [hv]; simp), hv]
    | _ => rw [hv] at H; cases H
theorem put_inv {T T' : List V} {dst : Option Nat} {v : V} (h : put T dst v = some T') : T' = ups T (dstU dst v) ∧ ∀ d, dst = some d → (nth T d).owner = false := by
 cases dst with
 | none => simp only [put, Option.some.injEq] at h; exact ⟨h.symm, fun d hd => by cases hd⟩
 | some d =>
  simp only [put] at h
  split at h
  ·cases h
  ·rename_i ho
   simp only [Option.some.injEq] at h
   exact ⟨h.symm, fun e he => by cases he; simpa using ho⟩
theorem put_mk {T : List V} {dst : Option Nat} {v : V} (h : ∀ d, dst = some d → (nth T d).owner = false) : put T dst v = some (ups T (dstU dst v)) := by
 cases dst with
 | none => rfl
 | some d => simp only [put, h d rfl]; rfl
theorem owner_any {k : Nat} {U : List (Nat × V × Bool)} {t : List V} (h : k ∉ slotsOf U) : (nth (ups t U) k).owner = (nth t k).owner := by
 rcases nth_ups_any (t := t) h with h1 | ⟨h1, h2⟩
 ·rw [h1]
 ·rw [h2]; cases hv : nth t k <;> rw [hv] at h1 <;> first | rfl | cases h1
theorem dst_ups {dst : Option Nat} {v : V} (hv : isAl v = false) {U : List (Nat × V × Bool)} {t : List V} (h : ∀ d, dst = some d → d ∉ slotsOf U) : ups (ups t (dstU dst v)) U = ups (ups t U) (dstU dst v) := by
 cases dst with
 | none => rfl
 | some d => exact ups_upd hv (h d rfl)
theorem slots_dst {dst : Option Nat} {v : V} {k : Nat} (h : k ∈ slotsOf (dstU dst v)) : dst = some k := by
 cases dst with
 | none => cases h
 | some d => simp only [slotsOf, dstU, List.map_cons, List.map_nil, List.mem_singleton] at h; rw [h]
theorem comm_core {c : CallF} {i j : AI} {s s2 : St} {tj t1 : List V} {uj ui : List (Nat × V × Bool)} {vj vi : V} {hj hi : Heap} (d1 : drawable i.op = true) (d2 : drawable j.op = true)
    (hh : (hcl i.op == 0 || hcl j.op == 0 || (hcl i.op != 2 && hcl j.op != 2)) = true) (rj : resI c j s.t s.h = some (.val uj vj hj)) (ri : resI c i tj hj = some (.val ui vi hi)) (qi : s2.h = hi)
    (E1 : ∀ h, resI c i tj h = resI c i s.t h) (P1 : put (ups s.t ui) i.dst vi = some t1) (E2 : ∀ h, resI c j t1 h = resI c j s.t h) (P2 : put (ups t1 uj) j.dst vj = some s2.t) :
    ∃ s1, stepI c i s = some (.norm, s1) ∧ stepI c j s1 = some (.norm, s2) := by
  rw [E1] at ri
  have hri : ∃ h1, resI c i s.t s.h = some (.val ui vi h1) ∧ ((hcl j.op ≠ 2 → h1 = hi) ∧ (hcl i.op ≠ 2 → h1 = s.h)) := by
    by_cases hj2 : hcl j.op = 2
    · have hi0 : hcl i.op = 0 := by
        rw [hj2] at hh
        simpa using hh
      have := resI_setH (c := c) (t := s.t) (h := hj) (h' := s.h) d1 hi0
      rw [ri] at this
      exact ⟨s.h, this, fun h => (h hj2).elim, fun _ => rfl⟩
    · have := resI_heap d2 hj2 rj
      rw [this] at ri
      exact ⟨hi, ri, fun _ => rfl, fun h2 => resI_heap d1 h2 ri⟩
  obtain ⟨h1, hri, hh1, hh2⟩ := hri
  refine ⟨⟨t1, h1⟩, by rw [stepI_resI, hri]; simp only [stepR]; rw [P1], ?_⟩
  have hrj : resI c j t1 h1 = some (.val uj vj s2.h) := by
    rw [E2, qi]
    by_cases hi2 : hcl i.op = 2
    · have hj0 : hcl j.op = 0 := by
        rw [hi2] at hh
        simpa using hh
      have hpi1 := hh1 (by rw [hj0]; omega)
      subst hpi1
      have := resI_setH (c := c) (t := s.t) (h := s.h) (h' := h1) d2 hj0
      rw [rj] at this
      exact this
    · have e2 := hh2 hi2
      rw [e2, rj]
      have e3 := resI_heap d1 hi2 ri
      rw [e3]
  rw [stepI_resI]
  simp only
  rw [hrj]
  simp only [stepR]
  rw [P2]
theorem nth_upd_at {a : Nat} {w : V} : ∀ {t : List V} {x : V}, nth t a = w → w ≠ .undef → nth (upd t a x) a = x := by
 intro t
 induction t generalizing a with
 | nil => intro x h hw; exact (hw h.symm).elim
 | cons v t ih => cases a with
  | zero => intro x h hw; rfl
  | succ a => intro x h hw; exact ih (a := a) h hw
theorem upd_same {a : Nat} {x y : V} : ∀ {t : List V}, upd (upd t a x) a y = upd t a y := by
 intro t
 induction t generalizing a with
 | nil => rfl
 | cons v t ih => cases a with
  | zero => rfl
  | succ a => simp only [upd]; rw [ih]
theorem length_upd' {a : Nat} {x : V} : ∀ {t : List V}, (upd t a x).length = t.length := by
 intro t
 induction t generalizing a with
 | nil => rfl
 | cons v t ih => cases a with
  | zero => rfl
  | succ a => simp only [upd, List.length_cons]; rw [ih]
def extT (t : List V) (a y : Nat) (vs : List V) : List V := if (nth vs y).lin then upd t a (.tup (upd vs y .undef)) else t
def extV (vs : List V) (y : Nat) : List V := if (nth vs y).lin then upd vs y .undef else vs
theorem step_ext {c : CallF} {j : AI} {s s' : St} {a y e : Nat} (hop : j.op = .ext a y) (hg : j.g = none) (hd : j.dst = some e) (hea : e ≠ a) :
    stepI c j s = some (.norm, s') ↔ ∃ vs, nth s.t a = .tup vs ∧ y < vs.length ∧ (nth s.t e).owner = false ∧ s' = ⟨upd (extT s.t a y vs) e (nth vs y), s.h⟩ := by
  have hsv : ∀ (us : List (Nat × V × Bool)) (v : V), stepR (some e) s (some (.val us v s.h)) = if (nth (ups s.t us) e).owner = false then some (.norm, ⟨upd (ups s.t us) e v, s.h⟩) else none := fun us v => by
    unfold stepR put
    cases h : (nth (ups s.t us) e).owner <;> simp [h]
  have hst : stepI c j s = stepR (some e) s (opRes c (nth s.t) s.h (.ext a y)) := by
    unfold stepI
    rw [hg, hop, hd]
  rw [hst]
  simp only [opRes]
  cases hv : nth s.t a with
  | tup vs =>
    simp only
    by_cases hy : y < vs.length
    · rw [if_pos hy]
      have key : ∀ T : List V, T = extT s.t a y vs → ((if (nth T e).owner = false then some (Ex.norm, (⟨upd T e (nth vs y), s.h⟩ : St)) else none) = some (.norm, s') ↔ ∃ vs', V.tup vs = .tup vs' ∧ y < vs'.length ∧ (nth s.t e).owner = false ∧ s' = ⟨upd (extT s.t a y vs') e (nth vs' y), s.h⟩) := fun T hT => by
        have e1 : nth T e = nth s.t e := by
          rw [hT]
          unfold extT
          split
          · exact nth_upd_ne (Ne.symm hea) _
          · rfl
        by_cases ho : (nth s.t e).owner = false
        · rw [if_pos (by rw [e1]; exact ho)]
          constructor
          · intro h
            simp only [Option.some.injEq, Prod.mk.injEq, true_and] at h
            exact ⟨vs, rfl, hy, ho, by rw [← hT]; exact h.symm⟩
          · rintro ⟨vs', h1, _, _, h4⟩
            simp only [V.tup.injEq] at h1
            subst h1
            rw [h4, hT]
        · rw [if_neg (by rw [e1]; exact ho)]
          constructor
          · intro h; cases h
          · rintro ⟨vs', _, _, h3, _⟩; exact (ho h3).elim
      by_cases hl : (nth vs y).lin = true
      · rw [if_pos hl, hsv]
        exact key _ (by unfold extT; rw [if_pos hl]; rfl)
      · rw [if_neg hl, hsv]
        exact key _ (by unfold extT; rw [if_neg hl]; rfl)
    · rw [if_neg hy]
      simp only [stepR]
      constructor
      · intro h; cases h
      · rintro ⟨vs', h1, h2, _⟩
        simp only [V.tup.injEq] at h1
        subst h1
        exact (hy h2).elim
  | _ =>
    simp only [stepR]
    constructor
    · intro h; cases h
    · rintro ⟨vs', h1, _⟩; cases h1
theorem nth_extT {t vs : List V} {a y k : Nat} (h : k ≠ a) : nth (extT t a y vs) k = nth t k := by
 unfold extT
 split
 ·exact nth_upd_ne (Ne.symm h) _
 ·rfl
theorem nth_extT_at {t vs : List V} {a y : Nat} (h : nth t a = .tup vs) : nth (extT t a y vs) a = .tup (extV vs y) := by
 unfold extT extV
 split
 ·exact nth_upd_at h (by simp)
 ·exact h
theorem extV_len {vs : List V} {y : Nat} : (extV vs y).length = vs.length := by
 unfold extV
 split
 ·exact length_upd'
 ·rfl
theorem nth_extV {vs : List V} {x y : Nat} (h : x ≠ y) : nth (extV vs y) x = nth vs x := by
 unfold extV
 split
 ·exact nth_upd_ne (Ne.symm h) _
 ·rfl
theorem extT_upd {t vs : List V} {a y e : Nat} {v : V} (h : e ≠ a) : extT (upd t e v) a y vs = upd (extT t a y vs) e v := by
 unfold extT
 split
 ·exact upd_comm _ h _ _
 ·rfl
theorem extT_comm {t vs : List V} {a x y : Nat} (h : x ≠ y) : extT (extT t a y vs) a x (extV vs y) = extT (extT t a x vs) a y (extV vs x) := by
 have e1 : nth (extV vs y) x = nth vs x := nth_extV h
 have e2 : nth (extV vs x) y = nth vs y := nth_extV (Ne.symm h)
 unfold extT
 rw [e1, e2]
 unfold extV
 by_cases hx : (nth vs x).lin = true <;> by_cases hy : (nth vs y).lin = true
 ·simp only [if_pos hx, if_pos hy, upd_same]
  rw [upd_comm _ (Ne.symm h)]
 ·simp only [if_pos hx, if_neg hy]
 ·simp only [if_neg hx, if_pos hy]
 ·simp only [if_neg hx, if_neg hy]
theorem ext_ok {c : CallF} {i j : AI} {s sj s2 : St} (hc : extPair i j = true) (hj : stepI c j s = some (.norm, sj)) (hi : stepI c i sj = some (.norm, s2)) : ∃ s1, stepI c i s = some (.norm, s1) ∧ stepI c j s1 = some (.norm, s2) := by
 unfold extPair at hc
 split at hc
 ·rename_i a x b y d e o1 o2 o3 o4 o5 o6
  simp only [Bool.and_eq_true, beq_iff_eq, bne_iff_ne, ne_eq] at hc
  obtain ⟨⟨⟨⟨rfl, hxy⟩, hde⟩, hda⟩, hea⟩ := hc
  obtain ⟨vs, v1, v2, v3, rfl⟩ := (step_ext o2 o4 o6 hea).1 hj
  obtain ⟨ws, w1, w2, w3, rfl⟩ := (step_ext o1 o3 o5 hda).1 hi
  simp only at w1 w3
  have ea : nth (upd (extT s.t a y vs) e (nth vs y)) a = .tup (extV vs y) := by
   rw [nth_upd_ne hea]; exact nth_extT_at v1
  rw [ea] at w1
  simp only [V.tup.injEq] at w1
  subst w1
  rw [extV_len] at w2
  rw [nth_upd_ne (Ne.symm hde), nth_extT hda] at w3
  refine ⟨⟨upd (extT s.t a x vs) d (nth vs x), s.h⟩, (step_ext o1 o3 o5 hda).2 ⟨vs, v1, w2, w3, rfl⟩, (step_ext o2 o4 o6 hea).2 ⟨extV vs x, ?_, by rw [extV_len]; exact v2, ?_, ?_⟩⟩
  ·show nth (upd (extT s.t a x vs) d (nth vs x)) a = _
   rw [nth_upd_ne hda]; exact nth_extT_at v1
  ·show (nth (upd (extT s.t a x vs) d (nth vs x)) e).owner = false
   rw [nth_upd_ne hde, nth_extT hea]; exact v3
  ·simp only [St.mk.injEq, and_true]
   rw [nth_extV hxy, nth_extV (Ne.symm hxy), extT_upd hea, extT_upd hda, extT_comm hxy, upd_comm _ (Ne.symm hde)]
 ·cases hc
theorem op_congr' {c : CallF} {ρ ρ' : Nat → V} {h : Heap} {op : AOp} (hd : drawable op = true) (e : ∀ k ∈ reads' op, ρ k = ρ' k) : opRes c ρ h op = opRes c ρ' h op := by
 cases op with
 | fa x off b => simp only [opRes]; rw [place_congr e]
 | nck x b => simp only [opRes]; rw [place_congr e, ev_congr e]
 | _ => exact op_congr hd e
def okR (ρ : Nat → V) (l Bs : List Nat) (A : Bool) : Prop := ∀ k ∈ l, (∀ e, e ∉ Bs → V.killb e (ρ k) = ρ k) ∧ (A = true → ρ k ≠ .undef)
theorem okRead.okR {ρ : Nat → V} {l Bs : List Nat} {A : Bool} (h : okRead ρ l) : okR ρ l Bs A := fun k hk => ⟨fun e _ => killb_noal (h k hk).1, fun _ => (h k hk).2⟩
theorem okR_place {ρ : Nat → V} {x : Src} {d : Nat} {p : Pl} {A : Bool} (hp : place ρ x (some d) = some p) : okR ρ (rs x) [d] A := by
 have key : ∀ i, x = .t i → (∀ e, e ∉ [d] → V.killb e (ρ i) = ρ i) ∧ (A = true → ρ i ≠ .undef) := by
  rintro i rfl
  unfold place at hp
  simp only [Am.ev] at hp
  cases hx : ρ i with
  | box cs => exact ⟨fun e _ => rfl, fun _ h => by cases h⟩
  | bref d2 o =>
   rw [hx] at hp
   simp only at hp
   split at hp
   ·rename_i hid
    subst hid
    refine ⟨fun e he => ?_, fun _ h => by cases h⟩
    simp only [List.mem_singleton] at he
    simp only [V.killb]
    rw [if_neg (fun h => he h.symm)]
   ·cases hp
  | ptr i o => exact ⟨fun e _ => rfl, fun _ h => by cases h⟩
  | rptr cs => exact ⟨fun e _ => rfl, fun _ h => by cases h⟩
  | _ => rw [hx] at hp; cases hp
 intro k hk
 cases x with
 | t i => simp only [rs, List.mem_singleton] at hk; subst hk; exact key _ rfl
 | _ => cases hk
theorem dat_ok {ρ : Nat → V} {x : Src} {v : V} (h : dat ρ x = some v) : okRead ρ (rs x) := by
 unfold dat at h
 split at h
 ·rename_i hd; exact okRead_ev rfl (data_isAl' hd)
 ·cases h
theorem fillE_read {sz : Nat} {ρ : Nat → V} : ∀ {ps : List (Nat × Src)} {xs ys : List V}, fillE sz xs ρ ps = some ys → okRead ρ (rsE ps)
 | [], _, _, _ => okRead_nil
 | (i, x) :: ps, xs, ys, h => by
  simp only [fillE] at h
  split at h
  ·rename_i v hv
   split at h
   ·exact okRead_app (dat_ok hv) (fillE_read h)
   ·cases h
  ·cases h
theorem args_read {ρ : Nat → V} {useH : Bool} : ∀ {l : List (Src × Bool)} {vs : List V} {us : List (Nat × V × Bool)}, argsOf ρ useH l = some (vs, us) → okRead ρ (rsA l)
 | [], _, _, _ => okRead_nil
 | (x, tk) :: l, vs, us, h => by
  simp only [argsOf] at h
  cases hl : argsOf ρ useH l with
  | none => rw [hl] at h; cases h
  | some q =>
   have ih := args_read hl
   rw [hl] at h
   simp only at h
   refine okRead_app ?_ ih
   split at h
   ·rename_i he; exact okRead_ev he ⟨rfl, by simp⟩
   ·rename_i he; exact okRead_ev he ⟨rfl, by simp⟩
   ·rename_i he; exact okRead_ev he ⟨rfl, by simp⟩
   ·rename_i v he _ _
    split at h
    ·rename_i hd; exact okRead_ev rfl (data_isAl' hd)
    ·cases h
theorem semi_op {c : CallF} {ρ : Nat → V} {h h1 : Heap} {op : AOp} {us : List (Nat × V × Bool)} {v : V} (hb : semiB op = true) (hd : drawable op = true) (H : opRes c ρ h op = some (.val us v h1)) :
    okR ρ (reads' op) (bases op) (semiA op) ∧ ∀ e, e ∉ bases op → V.killb e v = v := by
  have plain : plainOp op = true → (∀ k, k ∈ reads' op → k ∈ reads op) → okR ρ (reads' op) (bases op) (semiA op) ∧ ∀ e, e ∉ bases op → V.killb e v = v := fun hp hsub => by
    obtain ⟨_, h2, h3⟩ := plain_op hp hd H
    exact ⟨fun k hk => (okRead.okR (A := semiA op) h3) k (hsub k hk), fun e _ => killb_noal h2⟩
  cases op with
  | mv x =>
    simp only [opRes] at H
    split at H
    · cases H
    · rename_i hal
      simp only [Option.some.injEq, Rs.val.injEq] at H
      have hal : isAl (Am.ev ρ x) = false := by simpa using hal
      refine ⟨fun k hk => ?_, fun e _ => by rw [← H.2.1]; exact killb_noal hal⟩
      cases x with
      | t i =>
        simp only [reads', reads, rs, List.mem_singleton] at hk
        subst hk
        exact ⟨fun e _ => killb_noal hal, fun hA => by cases hA⟩
      | _ => cases hk
  | cp x =>
    cases x with
    | t i =>
      simp only [opRes] at H
      split at H
      · rename_i w hw
        simp only [cpV] at hw
        split at hw
        · cases hw
        · rename_i hh
          simp only [Option.some.injEq] at hw
          simp only [Option.some.injEq, Rs.val.injEq] at H
          simp only [Bool.or_eq_true, not_or, Bool.not_eq_true] at hh
          have hne : ρ i ≠ .undef := fun h => by rw [h] at hh; cases hh.2
          refine ⟨fun k hk => ?_, fun e _ => ?_⟩
          · simp only [reads', reads, rs, List.mem_singleton] at hk
            subst hk
            exact ⟨fun e _ => killb_noal hh.1.2, fun _ => hne⟩
          · rw [← H.2.1, ← hw]; exact killb_noal hh.1.2
      · cases H
    | _ => cases hb
  | fa x off b =>
    cases b with
    | none => exact plain rfl (fun k hk => by simpa [reads', reads, ob] using hk)
    | some d =>
      simp only [opRes] at H
      cases hp : place ρ x (some d) with
      | none => rw [hp] at H; cases H
      | some p =>
        obtain ⟨o, rfl⟩ := place_some hp
        rw [hp] at H
        simp only [Option.some.injEq, Rs.val.injEq] at H
        refine ⟨okR_place hp, fun e he => ?_⟩
        simp only [bases, ob, List.mem_singleton] at he
        rw [← H.2.1]
        simp only [V.killb]
        rw [if_neg (fun h => he h.symm)]
  | nck x b =>
    cases b with
    | none => exact plain rfl (fun k hk => by simpa [reads', reads, ob] using hk)
    | some d =>
      simp only [opRes] at H
      cases hp : place ρ x (some d) with
      | none =>
        rw [hp] at H
        simp only at H
        split at H
        · rename_i f caps he
          simp only [Option.some.injEq, Rs.val.injEq] at H
          refine ⟨okRead.okR (okRead_ev he ⟨rfl, by simp⟩), fun e _ => by rw [← H.2.1]; rfl⟩
        · cases H
      | some p =>
        obtain ⟨o, rfl⟩ := place_some hp
        rw [hp] at H
        simp only [Option.some.injEq, Rs.val.injEq] at H
        refine ⟨okR_place hp, fun e he => ?_⟩
        simp only [bases, ob, List.mem_singleton] at he
        rw [← H.2.1]
        simp only [V.killb]
        rw [if_neg (fun h => he h.symm)]
  | ld x n tr b =>
    cases b with
    | none =>
      cases tr with
      | true => cases hb
      | false => exact plain rfl (fun k hk => hk)
    | some d =>
      cases tr with
      | true => cases hb
      | false =>
        simp only [opRes] at H
        cases hp : place ρ x (some d) with
        | none => rw [hp] at H; cases H
        | some p =>
          obtain ⟨o, rfl⟩ := place_some hp
          rw [hp] at H
          simp only [Bool.false_eq_true, if_false] at H
          cases hm : memOf (ρ d) with
          | none => rw [hm] at H; cases H
          | some cs =>
            have hdd : (∀ e, V.killb e (ρ d) = ρ d) ∧ ρ d ≠ .undef := by
              cases hv : ρ d with
              | box cs => exact ⟨fun _ => rfl, fun h => by cases h⟩
              | sl o sz xs => exact ⟨fun _ => rfl, fun h => by cases h⟩
              | _ => rw [hv] at hm; cases hm
            rw [hm] at H
            simp only at H
            refine ⟨fun k hk => ?_, fun e _ => ?_⟩
            · simp only [reads', reads, ob, List.mem_append, List.mem_singleton] at hk
              rcases hk with hk | rfl
              · exact okR_place hp k hk
              · exact ⟨fun e _ => hdd.1 e, fun _ => hdd.2⟩
            · (repeat' split at H) <;> first
                | (cases H; done)
                | (rename_i h1; simp only [Option.some.injEq, Rs.val.injEq] at H; rw [← H.2.1]; first | rfl | exact killb_noal (one_isAl h1))
  | bsl sz n z ps =>
    simp only [opRes] at H
    split at H
    · rename_i xs hx
      simp only [Option.some.injEq, Rs.val.injEq] at H
      exact ⟨okRead.okR (fillE_read hx), fun e _ => by rw [← H.2.1]; rfl⟩
    · cases H
  | bsf sz n z ps =>
    simp only [opRes] at H
    split at H
    · rename_i xs hx
      simp only [Option.some.injEq, Rs.val.injEq] at H
      exact ⟨okRead.okR (fillE_read hx), fun e _ => by rw [← H.2.1]; rfl⟩
    · cases H
  | call f args useH =>
    simp only [opRes] at H
    split at H
    · rename_i vs us ha
      obtain ⟨q, hq⟩ := callR_some H
      rw [hq] at H
      cases q with
      | pan v h => simp [callR] at H
      | ret w h =>
        simp only [callR] at H
        split at H
        · cases H
        · rename_i hal
          simp only [Option.some.injEq, Rs.val.injEq] at H
          exact ⟨okRead.okR (args_read ha), fun e _ => by rw [← H.2.1]; exact killb_noal (by simpa using hal)⟩
    · cases H
  | _ => exact plain hb (fun k hk => hk)
theorem semi_resI {c : CallF} {i : AI} {t : List V} {h h1 : Heap} {us : List (Nat × V × Bool)} {v : V} (hd : drawable i.op = true) (hp : semiB i.op = true) (H : resI c i t h = some (.val us v h1)) :
    (∀ u ∈ us, isAl u.2.1 = false) ∧ (∀ e, e ∉ bases i.op → V.killb e v = v) ∧
    ∀ t' : List V, (∀ k ∈ gs i.g ++ reads i.op, (semiA i.op = true → nth t k ≠ .undef) → (∀ e, e ∉ bases i.op → V.killb e (nth t k) = nth t k) → nth t' k = nth t k) → ∀ h', resI c i t' h' = resI c i t h' := by
  have sub : ∀ k, k ∈ reads' i.op → k ∈ reads i.op := fun k hk => by
    cases hop : i.op <;> rw [hop] at hk <;> first | exact hk | (simp only [reads', reads, List.mem_append] at hk ⊢; exact .inl hk)
  unfold resI at H ⊢
  cases hg : i.g with
  | none =>
    rw [hg] at H
    simp only at H ⊢
    obtain ⟨x1, x2⟩ := semi_op hp hd H
    exact ⟨fun u hu => (op_ups hd H u hu).2.2, x2, fun t' ht h' => op_congr' hd (fun k hk => ht k (by simp [gs, sub k hk]) (x1 k hk).2 (x1 k hk).1)⟩
  | some gw =>
    obtain ⟨g, want⟩ := gw
    rw [hg] at H
    simp only at H ⊢
    cases hv : nth t g with
    | bool bb =>
      rw [hv] at H
      simp only at H ⊢
      have hgk : ∀ t' : List V, (∀ k ∈ gs (some (g, want)) ++ reads i.op, (semiA i.op = true → nth t k ≠ .undef) → (∀ e, e ∉ bases i.op → V.killb e (nth t k) = nth t k) → nth t' k = nth t k) → nth t' g = .bool bb := fun t' ht => by
        rw [ht g (by simp [gs]) (fun _ => by rw [hv]; simp) (fun e _ => by rw [hv]; rfl), hv]
      by_cases hbw : bb = want
      · rw [if_pos hbw] at H
        obtain ⟨x1, x2⟩ := semi_op hp hd H
        refine ⟨fun u hu => (op_ups hd H u hu).2.2, x2, fun t' ht h' => ?_⟩
        rw [hgk t' ht]
        simp only [if_pos hbw]
        exact op_congr' hd (fun k hk => ht k (by simp [sub k hk]) (x1 k hk).2 (x1 k hk).1)
      · rw [if_neg hbw] at H
        simp only [Option.some.injEq, Rs.val.injEq] at H
        refine ⟨(fun u hu => by rw [← H.1] at hu; cases hu), (fun e _ => by rw [← H.2.1]; rfl), fun t' ht h' => ?_⟩
        rw [hgk t' ht]
        simp only [if_neg hbw]
    | tup vs =>
      rw [hv] at H
      cases vs with
      | cons w ws => cases H
      | nil =>
        simp only [Option.some.injEq, Rs.val.injEq] at H
        refine ⟨(fun u hu => by rw [← H.1] at hu; cases hu), (fun e _ => by rw [← H.2.1]; rfl), fun t' ht h' => ?_⟩
        rw [ht g (by simp [gs]) (fun _ => by rw [hv]; simp) (fun e _ => by rw [hv]; rfl), hv]
    | _ => rw [hv] at H; cases H
theorem killb_comm (d e : Nat) (v : V) : V.killb e (V.killb d v) = V.killb d (V.killb e v) := by
 rcases killb_cases d v with h1 | ⟨_, h1⟩ <;> rcases killb_cases e v with h2 | ⟨_, h2⟩
 ·rw [h1, h2, h1]
 ·rw [h1, h2]; rfl
 ·rw [h1, h2, h1]; rfl
 ·rw [h1, h2]; rfl
def calm (u w : Nat × V × Bool) : Prop := u.1 ≠ w.1 ∧ (w.2.2 = true → V.killb w.1 u.2.1 = u.2.1) ∧ (u.2.2 = true → V.killb u.1 w.2.1 = w.2.1)
theorem ups1_comm {t : List V} : ∀ {u w : Nat × V × Bool}, calm u w → ups1 (ups1 t u) w = ups1 (ups1 t w) u
 | (d, v, b), (e, x, c), ⟨h1, h2, h3⟩ => by
  simp only at h1 h2 h3
  cases b with
  | false =>
   cases c with
   | false => exact upd_comm _ h1 _ _
   | true =>
    simp only [ups1]
    rw [map_upd, h2 rfl, upd_comm _ h1]
  | true =>
   cases c with
   | false =>
    simp only [ups1]
    rw [map_upd, h3 rfl, upd_comm _ h1]
   | true =>
    simp only [ups1]
    rw [map_upd, map_upd, h2 rfl, h3 rfl, upd_comm _ h1]
    congr 2
    rw [List.map_map, List.map_map]
    congr 1
    funext y
    exact killb_comm d e y
theorem ups_one {u : Nat × V × Bool} : ∀ {T : List (Nat × V × Bool)} {t : List V}, (∀ w ∈ T, calm u w) → ups (ups1 t u) T = ups1 (ups t T) u
 | [], _, _ => rfl
 | w :: T, t, h => by
  simp only [ups]
  rw [ups1_comm (h w (by simp))]
  exact ups_one (fun x hx => h x (by simp [hx]))
theorem ups_commG {T : List (Nat × V × Bool)} : ∀ {U : List (Nat × V × Bool)} {t : List V}, (∀ u ∈ U, ∀ w ∈ T, calm u w) → ups (ups t U) T = ups (ups t T) U
 | [], _, _ => rfl
 | u :: U, t, h => by
  simp only [ups]
  rw [ups_commG (U := U) (fun x hx => h x (by simp [hx])), ups_one (h u (by simp))]
theorem nth_ups_ne {k : Nat} : ∀ {U : List (Nat × V × Bool)} {t : List V}, k ∉ slotsOf U → (∀ u ∈ U, u.2.2 = true → V.killb u.1 (nth t k) = nth t k) → nth (ups t U) k = nth t k
 | [], t, _, _ => rfl
 | (d, v, b) :: U, t, hd, h => by
  simp only [slotsOf, List.map_cons, List.mem_cons, not_or] at hd
  have h1 : nth (ups1 t (d, v, b)) k = nth t k := by
   cases b with
   | false => exact nth_upd_ne (Ne.symm hd.1) _
   | true =>
    simp only [ups1]
    rw [nth_upd_ne (Ne.symm hd.1), nth_killb]
    exact h (d, v, true) (by simp) rfl
  simp only [ups]
  rw [nth_ups_ne hd.2 (fun u hu hb => by rw [h1]; exact h u (by simp [hu]) hb), h1]
theorem commK_ok {c : CallF} {i j : AI} {s sj s2 : St} (hc : commK i j = true) (hj : stepI c j s = some (.norm, sj)) (hi : stepI c i sj = some (.norm, s2)) : ∃ s1, stepI c i s = some (.norm, s1) ∧ stepI c j s1 = some (.norm, s2) := by
 simp only [commK, Bool.and_eq_true] at hc
 obtain ⟨⟨⟨⟨⟨⟨⟨⟨⟨d1, d2⟩, sA⟩, sB⟩, y1⟩, y2⟩, x1⟩, x2⟩, x3⟩, hh⟩ := hc
 have sBi : semiB i.op = true := by
  unfold semiB
  split
  ·rfl
  ·exact sA
 rw [stepI_resI] at hj hi
 obtain ⟨uj, vj, hpj, rj, pj, qj⟩ := stepR_norm hj
 obtain ⟨ui, vi, hpi, ri, pi, qi⟩ := stepR_norm hi
 rw [qj] at ri
 have slj : ∀ k ∈ slotsOf (uj ++ dstU j.dst vj), k ∈ wr j := fun k hk => by
  simp only [slotsOf, List.map_append, List.mem_append, List.mem_map] at hk
  simp only [wr, List.mem_append]
  rcases hk with ⟨u, hu, rfl⟩ | ⟨u, hu, rfl⟩
  ·exact .inr (resI_ups d2 rj u hu).1
  ·cases hd : j.dst with
   | none => rw [hd] at hu; cases hu
   | some d => rw [hd] at hu; obtain rfl := List.mem_singleton.1 hu; simp [dl, hd]
 have sli : ∀ k ∈ slotsOf (ui ++ dstU i.dst vi), k ∈ wr i := fun k hk => by
  simp only [slotsOf, List.map_append, List.mem_append, List.mem_map] at hk
  simp only [wr, List.mem_append]
  rcases hk with ⟨u, hu, rfl⟩ | ⟨u, hu, rfl⟩
  ·exact .inr (resI_ups d1 ri u hu).1
  ·cases hd : i.dst with
   | none => rw [hd] at hu; cases hu
   | some d => rw [hd] at hu; obtain rfl := List.mem_singleton.1 hu; simp [dl, hd]
 have mem : ∀ {U : List (Nat × V × Bool)} {u : Nat × V × Bool}, u ∈ U → u.1 ∈ slotsOf U := fun h => List.mem_map.2 ⟨_, h, rfl⟩
 have dli : ∀ d, i.dst = some d → d ∈ wr i ∧ d ∈ rd i := fun d hd => by simp [wr, rd, dl, hd]
 have dlj : ∀ d, j.dst = some d → d ∈ wr j ∧ d ∈ rd j := fun d hd => by simp [wr, rd, dl, hd]
 have rdi : ∀ k ∈ gs i.g ++ reads i.op, k ∈ rd i := fun k hk => by simp only [rd, List.mem_append] at hk ⊢; rcases hk with hk | hk <;> simp [hk]
 have rdj : ∀ k ∈ gs j.g ++ reads j.op, k ∈ rd j := fun k hk => by simp only [rd, List.mem_append] at hk ⊢; rcases hk with hk | hk <;> simp [hk]
 obtain ⟨tj, oj⟩ := put_inv pj
 obtain ⟨ti, oi⟩ := put_inv pi
 have tj' : sj.t = ups s.t (uj ++ dstU j.dst vj) := by rw [ups_append]; exact tj
 have ti' : s2.t = ups sj.t (ui ++ dstU i.dst vi) := by rw [ups_append]; exact ti
 obtain ⟨aj1, aj2, aj3⟩ := semi_resI d2 sB rj
 obtain ⟨ai1, ai2, ai3⟩ := semi_resI d1 sBi ri
 have kj : ∀ u ∈ uj ++ dstU j.dst vj, u.2.2 = true → u.1 ∈ kills j.op := fun u hu hb => by
  simp only [List.mem_append] at hu
  rcases hu with hu | hu
  ·exact (resI_ups d2 rj u hu).2 hb
  ·cases hd : j.dst with
   | none => rw [hd] at hu; cases hu
   | some d => rw [hd] at hu; obtain rfl := List.mem_singleton.1 hu; cases hb
 have ki : ∀ u ∈ ui ++ dstU i.dst vi, u.2.2 = true → u.1 ∈ kills i.op := fun u hu hb => by
  simp only [List.mem_append] at hu
  rcases hu with hu | hu
  ·exact (resI_ups d1 ri u hu).2 hb
  ·cases hd : i.dst with
   | none => rw [hd] at hu; cases hu
   | some d => rw [hd] at hu; obtain rfl := List.mem_singleton.1 hu; cases hb
 have vj' : ∀ u ∈ uj ++ dstU j.dst vj, ∀ e, e ∉ bases j.op → V.killb e u.2.1 = u.2.1 := fun u hu e he => by
  simp only [List.mem_append] at hu
  rcases hu with hu | hu
  ·exact killb_noal (aj1 u hu)
  ·cases hd : j.dst with
   | none => rw [hd] at hu; cases hu
   | some d => rw [hd] at hu; obtain rfl := List.mem_singleton.1 hu; exact aj2 e he
 have vi' : ∀ u ∈ ui ++ dstU i.dst vi, ∀ e, e ∉ bases i.op → V.killb e u.2.1 = u.2.1 := fun u hu e he => by
  simp only [List.mem_append] at hu
  rcases hu with hu | hu
  ·exact killb_noal (ai1 u hu)
  ·cases hd : i.dst with
   | none => rw [hd] at hu; cases hu
   | some d => rw [hd] at hu; obtain rfl := List.mem_singleton.1 hu; exact ai2 e he
 have cal : ∀ u ∈ uj ++ dstU j.dst vj, ∀ w ∈ ui ++ dstU i.dst vi, calm u w := fun u hu w hw =>
  ⟨fun h => disj_ok x3 u.1 (slj _ (mem hu)) (by rw [h]; exact sli _ (mem hw)), fun hb => vj' u hu _ (fun hm => disj_ok y2 _ hm (ki w hw hb)), fun hb => vi' w hw _ (fun hm => disj_ok y1 _ hm (kj u hu hb))⟩
 have inl : ∀ {U W : List (Nat × V × Bool)} {u : Nat × V × Bool}, u ∈ U → u ∈ U ++ W := fun h => List.mem_append_left _ h
 refine comm_core (t1 := ups s.t (ui ++ dstU i.dst vi)) d1 d2 hh rj ri qi (fun h => (ai3 s.t (fun k hk h1 _ => ?_) h).symm) ?_ (fun h => aj3 _ (fun k hk _ h2 => ?_) h) ?_
 ·have hk' : k ∉ slotsOf (uj ++ dstU j.dst vj) := fun hm => disj_ok x2 k (slj k hm) (rdi k hk)
  have h1 := h1 sA
  rw [tj'] at h1 ⊢
  rcases nth_ups_any (t := s.t) hk' with h3 | ⟨_, h4⟩
  ·exact h3.symm
  ·exact (h1 h4).elim
 ·rw [ups_append]
  refine put_mk fun d hd => ?_
  have := oi d hd
  rw [tj', ups_commG (fun u hu w hw => cal u hu w (inl hw)), owner_any (fun hm => disj_ok x2 d (slj d hm) (dli d hd).2)] at this
  exact this
 ·have hk' : k ∉ slotsOf (ui ++ dstU i.dst vi) := fun hm => disj_ok x1 k (sli k hm) (rdj k hk)
  exact nth_ups_ne hk' (fun u hu hb => h2 _ (fun hm => disj_ok y2 _ hm (ki u hu hb)))
 ·have e : s2.t = ups (ups (ups s.t (ui ++ dstU i.dst vi)) uj) (dstU j.dst vj) := by
   rw [ti', tj', ups_commG cal, ups_append]
  rw [e]
  refine put_mk fun d hd => ?_
  rw [← ups_commG (fun u hu w hw => cal u (inl hu) w hw), owner_any (fun hm => disj_ok x1 d (sli d hm) (dlj d hd).2)]
  exact oj d hd
theorem comm_ok {c : CallF} {i j : AI} {s sj s2 : St} (hc : comm i j = true) (hj : stepI c j s = some (.norm, sj)) (hi : stepI c i sj = some (.norm, s2)) : ∃ s1, stepI c i s = some (.norm, s1) ∧ stepI c j s1 = some (.norm, s2) := by
 unfold comm at hc
 rw [Bool.or_eq_true, Bool.or_eq_true] at hc
 rcases hc with (hc | hc) | hc
 rotate_left
 ·exact ext_ok hc hj hi
 ·exact commK_ok hc hj hi
 simp only [commB, Bool.and_eq_true] at hc
 obtain ⟨⟨⟨⟨⟨⟨d1, d2⟩, kk⟩, x1⟩, x2⟩, x3⟩, hh⟩ := hc
 rw [stepI_resI] at hj hi
 obtain ⟨uj, vj, hpj, rj, pj, qj⟩ := stepR_norm hj
 obtain ⟨ui, vi, hpi, ri, pi, qi⟩ := stepR_norm hi
 rw [qj] at ri
 have slj : ∀ k ∈ slotsOf (uj ++ dstU j.dst vj), k ∈ wr j := fun k hk => by
  simp only [slotsOf, List.map_append, List.mem_append, List.mem_map] at hk
  simp only [wr, List.mem_append]
  rcases hk with ⟨u, hu, rfl⟩ | ⟨u, hu, rfl⟩
  ·exact .inr (resI_ups d2 rj u hu).1
  ·cases hd : j.dst with
   | none => rw [hd] at hu; cases hu
   | some d => rw [hd] at hu; obtain rfl := List.mem_singleton.1 hu; simp [dl, hd]
 have sli : ∀ k ∈ slotsOf (ui ++ dstU i.dst vi), k ∈ wr i := fun k hk => by
  simp only [slotsOf, List.map_append, List.mem_append, List.mem_map] at hk
  simp only [wr, List.mem_append]
  rcases hk with ⟨u, hu, rfl⟩ | ⟨u, hu, rfl⟩
  ·exact .inr (resI_ups d1 ri u hu).1
  ·cases hd : i.dst with
   | none => rw [hd] at hu; cases hu
   | some d => rw [hd] at hu; obtain rfl := List.mem_singleton.1 hu; simp [dl, hd]
 have inl : ∀ {U W : List (Nat × V × Bool)} {k : Nat}, k ∈ slotsOf U → k ∈ slotsOf (U ++ W) := fun h => by simp only [slotsOf, List.map_append, List.mem_append] at h ⊢; exact .inl h
 have dli : ∀ d, i.dst = some d → d ∈ wr i ∧ d ∈ rd i := fun d hd => by simp [wr, rd, dl, hd]
 have dlj : ∀ d, j.dst = some d → d ∈ wr j ∧ d ∈ rd j := fun d hd => by simp [wr, rd, dl, hd]
 have rdi : ∀ k ∈ gs i.g ++ reads i.op, k ∈ rd i := fun k hk => by simp only [rd, List.mem_append] at hk ⊢; rcases hk with hk | hk <;> simp [hk]
 have rdj : ∀ k ∈ gs j.g ++ reads j.op, k ∈ rd j := fun k hk => by simp only [rd, List.mem_append] at hk ⊢; rcases hk with hk | hk <;> simp [hk]
 obtain ⟨tj, oj⟩ := put_inv pj
 obtain ⟨ti, oi⟩ := put_inv pi
 have tj' : sj.t = ups s.t (uj ++ dstU j.dst vj) := by rw [ups_append]; exact tj
 have nkd : ∀ {dst : Option Nat} {v : V}, noKill (dstU dst v) := fun {dst v} u hu => by
  cases dst with
  | none => cases hu
  | some d => obtain rfl := List.mem_singleton.1 hu; rfl
 rw [Bool.or_eq_true, Bool.or_eq_true] at kk
 rcases kk with (kk | kk) | kk
 · -- nothing is struck
  rw [Bool.and_eq_true, List.isEmpty_iff, List.isEmpty_iff] at kk
  obtain ⟨k1, k2⟩ := kk
  have nkj : noKill (uj ++ dstU j.dst vj) := fun u hu => by
   simp only [List.mem_append] at hu
   rcases hu with hu | hu
   ·have := (resI_ups d2 rj u hu).2
    cases hf : u.2.2 with
    | false => rfl
    | true => have := this hf; rw [k2] at this; cases this
   ·exact nkd u hu
  have nki : noKill (ui ++ dstU i.dst vi) := fun u hu => by
   simp only [List.mem_append] at hu
   rcases hu with hu | hu
   ·have := (resI_ups d1 ri u hu).2
    cases hf : u.2.2 with
    | false => rfl
    | true => have := this hf; rw [k1] at this; cases this
   ·exact nkd u hu
  have nkui : noKill ui := fun u hu => nki u (by simp [hu])
  have nkuj : noKill uj := fun u hu => nkj u (by simp [hu])
  refine comm_core (t1 := ups s.t (ui ++ dstU i.dst vi)) d1 d2 hh rj ri qi (fun h => resI_congr d1 fun k hk => ?_) ?_ (fun h => resI_congr d2 fun k hk => ?_) ?_
  ·rw [tj']
   exact nth_ups_out nkj (fun hm => disj_ok x2 k (slj k hm) (rdi k hk))
  ·rw [ups_append]
   refine put_mk fun d hd => ?_
   have := oi d hd
   rw [tj', ups_comm nkui nkj (fun d hd hm => disj_ok x3 d (slj d hd) (sli d (inl hm)))] at this
   rw [nth_ups_out nkj (fun hm => disj_ok x2 d (slj d hm) (dli d hd).2)] at this
   exact this
  ·exact nth_ups_out nki (fun hm => disj_ok x1 k (sli k hm) (rdj k hk))
  ·have e : s2.t = ups (ups (ups s.t (ui ++ dstU i.dst vi)) uj) (dstU j.dst vj) := by
    rw [ti, tj', ← ups_append, ← ups_append, ups_append, ← ups_append (ups s.t (ui ++ dstU i.dst vi))]
    exact (ups_comm nkj nki (fun d hd hm => disj_ok x3 d (slj d hm) (sli d hd))).symm
   rw [e]
   refine put_mk fun d hd => ?_
   have := oj d hd
   rw [ups_comm nkuj nki (fun d hd hm => disj_ok x3 d (slj d (inl hm)) (sli d hd))]
   rw [nth_ups_out nki (fun hm => disj_ok x1 d (sli d hm) (dlj d hd).2)]
   exact this
 · -- the one that goes ahead is plain
  obtain ⟨rfl, hal, hsee⟩ := plain_resI d1 kk ri
  have out : ∀ d, i.dst = some d → d ∉ slotsOf (uj ++ dstU j.dst vj) := fun d hd hm => disj_ok x2 d (slj d hm) (dli d hd).2
  refine comm_core (t1 := ups s.t (dstU i.dst vi)) d1 d2 hh rj ri qi (fun h => (hsee s.t (fun k hk h1 h2 => ?_) h).symm) ?_ (fun h => resI_congr d2 fun k hk => ?_) ?_
  ·have hk' : k ∉ slotsOf (uj ++ dstU j.dst vj) := fun hm => disj_ok x2 k (slj k hm) (rdi k hk)
   rw [tj'] at h1 h2 ⊢
   rcases nth_ups_any (t := s.t) hk' with h3 | ⟨_, h4⟩
   ·exact h3.symm
   ·exact (h2 h4).elim
  ·refine put_mk fun d hd => ?_
   have := oi d hd
   rw [tj'] at this
   simp only [ups] at this ⊢
   rw [owner_any (out d hd)] at this
   exact this
  ·exact nth_ups_out nkd (fun hm => disj_ok x1 k (sli k (by simpa using hm)) (rdj k hk))
  ·have e0 : ups (ups s.t (dstU i.dst vi)) uj = ups (ups s.t uj) (dstU i.dst vi) := dst_ups hal (fun d hd hm => out d hd (inl hm))
   have e : s2.t = ups (ups (ups s.t (dstU i.dst vi)) uj) (dstU j.dst vj) := by
    rw [ti, tj', e0]
    simp only [ups]
    rw [← ups_append, ups_append, ups_append]
    exact (dst_ups hal (fun d hd hm => out d hd (by simp only [slotsOf, List.map_append, List.mem_append] at hm ⊢; exact .inr hm))).symm
   rw [e]
   refine put_mk fun d hd => ?_
   rw [e0, nth_ups_out nkd (fun hm => ?_)]
   ·exact oj d hd
   ·have := slots_dst hm
    exact disj_ok x2 d (dlj d hd).1 (dli d this).2
 · -- the one that comes behind is plain
  obtain ⟨rfl, hal, hsee⟩ := plain_resI d2 kk rj
  simp only [List.nil_append] at tj' slj
  have outj : ∀ d, j.dst = some d → d ∉ slotsOf (ui ++ dstU i.dst vi) := fun d hd hm => disj_ok x3 d (dlj d hd).1 (sli d hm)
  have e0 : ups sj.t ui = ups (ups s.t ui) (dstU j.dst vj) := by
   rw [tj']
   exact dst_ups hal (fun d hd hm => outj d hd (inl hm))
  refine comm_core (t1 := ups (ups s.t ui) (dstU i.dst vi)) d1 d2 hh rj ri qi (fun h => resI_congr d1 fun k hk => ?_) ?_ (fun h => hsee _ (fun k hk h1 h2 => ?_) h) ?_
  ·rw [tj']
   exact nth_ups_out nkd (fun hm => disj_ok x2 k (slj k hm) (rdi k hk))
  ·refine put_mk fun d hd => ?_
   have := oi d hd
   rw [e0, nth_ups_out nkd (fun hm => ?_)] at this
   ·exact this
   ·have := slots_dst hm
    exact disj_ok x2 d (dlj d this).1 (dli d hd).2
  ·have hk' : k ∉ slotsOf (ui ++ dstU i.dst vi) := fun hm => disj_ok x1 k (sli k hm) (rdj k hk)
   rw [← ups_append]
   rcases nth_ups_any (t := s.t) hk' with h3 | ⟨h3, _⟩
   ·exact h3
   ·rw [h1] at h3; cases h3
  ·have e : s2.t = ups (ups (ups s.t ui) (dstU i.dst vi)) (dstU j.dst vj) := by
    rw [ti, e0]
    exact dst_ups hal (fun d hd hm => outj d hd (by simp only [slotsOf, List.map_append, List.mem_append] at hm ⊢; exact .inr hm))
   rw [e]
   refine put_mk fun d hd => ?_
   simp only [ups]
   rw [← ups_append, owner_any (outj d hd)]
   exact oj d hd
end
def ancB (ops : Array Oper) : Nat → Nat → Nat → Bool
 | 0, _, _ => false
 | f + 1, i, j => match ops[i]? with
  | some o => o.after.toList.any fun e => Region.binds .any e && (e.on == j || ancB ops f e.on j)
  | none => false
def pairOK (ops : Array Oper) (is : List AI) (i j : Nat) : Bool := (match is[i]?, is[j]? with | some x, some y => comm x y | _, _ => false) || ancB ops 12 i j
def atOK (P : Program) (ops : Array Oper) (is : List AI) (i : Nat) : Bool := match ops[i]?, is[i]? with
 | some o, some x => chkI P ops o x && o.after.toList.all (fun e => !Region.binds .any e || decide (e.on < i)) && (List.range i).all (fun j => pairOK ops is i j)
 | _, _ => false
def chkD (P : Program) (ops : Array Oper) (is : List AI) : Bool := is.length == ops.size && P.follows .mixedOrders && (List.range ops.size).all (atOK P ops is)
section
variable {P : Program} {E : Env} {a : Act} {w : World} {s : St} {call : CallF} {dfs : List Deferred}
theorem runOps_cons {c : CallF} {x : AI} {l : List AI} {s s' : St} (h : runOps c (x :: l) s = some (.norm, s')) : ∃ s1, stepI c x s = some (.norm, s1) ∧ runOps c l s1 = some (.norm, s') := by
 simp only [runOps] at h
 cases hx : stepI c x s with
 | none => rw [hx] at h; cases h
 | some q =>
  obtain ⟨e, s1⟩ := q
  rw [hx] at h
  cases e with
  | norm => exact ⟨s1, rfl, h⟩
  | _ => simp only [Option.some.injEq, Prod.mk.injEq] at h; cases h.1
theorem swap {c : CallF} {i : AI} {post : List AI} {s' : St} : ∀ {pre : List AI} {s : St}, (∀ j ∈ pre, comm i j = true) → runOps c (pre ++ i :: post) s = some (.norm, s') →
  ∃ s1, stepI c i s = some (.norm, s1) ∧ runOps c (pre ++ post) s1 = some (.norm, s')
 | [], s, _, h => runOps_cons h
 | j :: pre, s, hc, h => by
  obtain ⟨sj, h1, h2⟩ := runOps_cons h
  obtain ⟨s2, h3, h4⟩ := swap (pre := pre) (fun k hk => hc k (by simp [hk])) h2
  obtain ⟨s1, h5, h6⟩ := comm_ok (hc j (by simp)) h1 h3
  refine ⟨s1, h5, ?_⟩
  simp only [List.cons_append, runOps, h6]
  exact h4
def remL (n : Nat) (listed : Array Bool) : List Nat := (List.range n).filter fun i => !listed.getD i true
theorem mem_rem {n i : Nat} {listed : Array Bool} : i ∈ remL n listed ↔ i < n ∧ listed.getD i true = false := by
 simp only [remL, List.mem_filter, List.mem_range, Bool.not_eq_true']
def ClosedL (ops : Array Oper) (listed : Array Bool) : Prop := ∀ k o, ops[k]? = some o → listed.getD k true = true → ∀ e ∈ o.after.toList, Region.binds .any e = true → listed.getD e.on false = true
theorem getD_true {l : Array Bool} {k : Nat} (h : l.getD k false = true) : l.getD k true = true := by
 simp only [Array.getD_eq_getD_getElem?] at h ⊢
 cases hk : l[k]? with
 | none => rw [hk] at h; cases h
 | some b => rw [hk] at h; simpa using h
theorem mem_ready {ops : Array Oper} {listed : Array Bool} {i : Nat} (h : i ∈ Region.ready .any ops listed) : i < ops.size ∧ listed.getD i true = false ∧ ∃ o, ops[i]? = some o ∧ ∀ e ∈ o.after.toList, Region.binds .any e = true → listed.getD e.on false = true := by
 simp only [Region.ready, List.mem_filter, List.mem_range, Bool.and_eq_true, Bool.not_eq_true'] at h
 obtain ⟨h1, h2, h3⟩ := h
 cases ho : ops[i]? with
 | none => rw [ho] at h3; cases h3
 | some o =>
  rw [ho] at h3
  simp only [Option.map_some, Option.getD_some] at h3
  refine ⟨h1, h2, o, rfl, fun e he hb => ?_⟩
  rw [← Array.all_toList] at h3
  have := List.all_eq_true.1 h3 e he
  simpa [hb] using this
theorem ready_of {ops : Array Oper} {listed : Array Bool} {i : Nat} {o : Oper} (h1 : i < ops.size) (h2 : listed.getD i true = false) (ho : ops[i]? = some o) (h3 : ∀ e ∈ o.after.toList, Region.binds .any e = true → listed.getD e.on false = true) : i ∈ Region.ready .any ops listed := by
 simp only [Region.ready, List.mem_filter, List.mem_range, Bool.and_eq_true, Bool.not_eq_true']
 refine ⟨h1, h2, ?_⟩
 rw [ho]
 simp only [Option.map_some, Option.getD_some]
 rw [← Array.all_toList]
 refine List.all_eq_true.2 fun e he => ?_
 cases hb : Region.binds .any e with
 | false => rfl
 | true => simpa using h3 e he hb
theorem anc_listed {ops : Array Oper} {listed : Array Bool} (hcl : ClosedL ops listed) {j : Nat} : ∀ (f i : Nat), ancB ops f i j = true → (∀ o, ops[i]? = some o → ∀ e ∈ o.after.toList, Region.binds .any e = true → listed.getD e.on false = true) → listed.getD j false = true
 | 0, i, h, _ => by cases h
 | f + 1, i, h, hp => by
  simp only [ancB] at h
  split at h
  ·rename_i o ho
   obtain ⟨e, he, hb⟩ := List.any_eq_true.1 h
   simp only [Bool.and_eq_true, Bool.or_eq_true, beq_iff_eq] at hb
   have hl := hp o ho e he hb.1
   rcases hb.2 with rfl | h2
   ·exact hl
   ·exact anc_listed hcl f e.on h2 (fun o' ho' e' he' hb' => hcl e.on o' ho' (getD_true hl) e' he' hb')
  ·cases h
theorem any_ok {ops : Array Oper} {is : List AI} {s' : St} (hs : SoundCall P call) (hlen : is.length = ops.size) (hat : ∀ i, i < ops.size → atOK P ops is i = true) : ∀ (fuel : Nat) (listed : Array Bool) (a : Act) (w : World) (s : St), listed.size = ops.size → ClosedL ops listed →
  (remL ops.size listed).length = fuel → Stt E a w s → a.defers = dfs → runOps call ((remL ops.size listed).filterMap (fun i => is[i]?)) s = some (.norm, s') → wpAny P .any ops (Rel E dfs .norm s') fuel listed a w
 | 0, listed, a, w, s, hsz, hcl, hfu, h, hd, hr => by
  have hnil := List.length_eq_zero_iff.1 hfu
  rw [hnil] at hr
  simp only [List.filterMap_nil, runOps, Option.some.injEq, Prod.mk.injEq, true_and] at hr
  subst hr
  refine ⟨?_, h, hd⟩
  cases hrd : Region.ready .any ops listed with
  | nil => rfl
  | cons i l =>
   obtain ⟨h1, h2, _⟩ := mem_ready (ops := ops) (listed := listed) (i := i) (by rw [hrd]; simp)
   have : i ∈ remL ops.size listed := mem_rem.2 ⟨h1, h2⟩
   rw [hnil] at this
   cases this
 | fuel + 1, listed, a, w, s, hsz, hcl, hfu, h, hd, hr => by
  refine ⟨fun hnil => ?_, fun i hi => ?_⟩
  ·exfalso
   have all : ∀ (m k : Nat), k < m → k < ops.size → listed.getD k true = true := by
    intro m
    induction m with
    | zero => intro k hk; omega
    | succ m ih =>
     intro k hk hkn
     cases hl : listed.getD k true with
     | true => rfl
     | false =>
      have hk' := hat k hkn
      unfold atOK at hk'
      split at hk'
      ·rename_i o x ho hx
       simp only [Bool.and_eq_true] at hk'
       have : k ∈ Region.ready .any ops listed := ready_of hkn hl ho (fun e he hb => by
        have h1 := List.all_eq_true.1 hk'.1.2 e he
        simp only [hb, Bool.not_true, Bool.false_or, decide_eq_true_eq] at h1
        have h2 := ih e.on (by omega) (by omega)
        simp only [Array.getD_eq_getD_getElem?] at h2 ⊢
        rw [Array.getElem?_eq_getElem (by omega)] at h2 ⊢
        simpa using h2)
       rw [hnil] at this
       cases this
      ·cases hk'
   have : remL ops.size listed = [] := by
    unfold remL
    rw [List.filter_eq_nil_iff]
    intro k hk
    have := all (k + 1) k (by omega) (List.mem_range.1 hk)
    simp [this]
   rw [this] at hfu
   cases hfu
  ·obtain ⟨h1, h2, o, ho, hp⟩ := mem_ready hi
   have hirem : i ∈ remL ops.size listed := mem_rem.2 ⟨h1, h2⟩
   obtain ⟨pre, post, hsplit⟩ := List.append_of_mem hirem
   have hpair : (pre ++ i :: post).Pairwise (· < ·) := by
    rw [← hsplit]
    exact List.Pairwise.filter _ List.pairwise_lt_range
   have hpre : ∀ j ∈ pre, j < i := fun j hj => (List.pairwise_append.1 hpair).2.2 j hj i (by simp)
   have hpost : ∀ j ∈ post, i < j := fun j hj => (List.pairwise_cons.1 (List.pairwise_append.1 hpair).2.1).1 j hj
   have hk := hat i h1
   unfold atOK at hk
   split at hk
   ·rename_i o' x ho' hx
    rw [ho] at ho'
    simp only [Option.some.injEq] at ho'
    subst ho'
    simp only [Bool.and_eq_true] at hk
    have hcomm : ∀ y ∈ pre.filterMap (fun i => is[i]?), comm x y = true := fun y hy => by
     obtain ⟨j, hj, hjy⟩ := List.mem_filterMap.1 hy
     have hji := hpre j hj
     have hpk := List.all_eq_true.1 hk.2 j (List.mem_range.2 hji)
     simp only [pairOK, hx, hjy, Bool.or_eq_true] at hpk
     rcases hpk with hpk | hpk
     ·exact hpk
     ·exfalso
      have hl := getD_true (anc_listed hcl 12 i hpk (fun o2 ho2 e he hb => by
       rw [ho] at ho2
       simp only [Option.some.injEq] at ho2
       subst ho2
       exact hp e he hb))
      have hjr : j ∈ remL ops.size listed := by rw [hsplit]; simp [hj]
      have := (mem_rem.1 hjr).2
      rw [hl] at this
      cases this
    rw [hsplit] at hr
    simp only [List.filterMap_append, List.filterMap_cons, hx] at hr
    obtain ⟨s1, q1, q2⟩ := swap hcomm hr
    have hset : ∀ k, (listed.setIfInBounds i true).getD k true = (listed.getD k true || decide (k = i)) := fun k => by
     simp only [Array.getD_eq_getD_getElem?, Array.getElem?_setIfInBounds]
     by_cases hki : i = k
     ·subst hki
      simp [hsz, h1]
     ·simp [hki, Ne.symm hki, show ¬ k = i from fun hh => hki hh.symm]
    have hrem : remL ops.size (listed.setIfInBounds i true) = pre ++ post := by
     have e1 : remL ops.size (listed.setIfInBounds i true) = (remL ops.size listed).filter (fun k => !decide (k = i)) := by
      unfold remL
      rw [List.filter_filter]
      congr 1
      funext k
      rw [hset k]
      cases listed.getD k true <;> simp
     rw [e1, hsplit, List.filter_append, List.filter_cons]
     have f1 : pre.filter (fun k => !decide (k = i)) = pre := List.filter_eq_self.2 fun k hk => by have := hpre k hk; simp; omega
     have f2 : post.filter (fun k => !decide (k = i)) = post := List.filter_eq_self.2 fun k hk => by have := hpost k hk; simp; omega
     rw [f1, f2]
     simp
    have hclosed : ClosedL ops (listed.setIfInBounds i true) := fun k o2 ho2 hl e he hb => by
     have up : ∀ m, listed.getD m false = true → (listed.setIfInBounds i true).getD m false = true := fun m hm => by
      simp only [Array.getD_eq_getD_getElem?, Array.getElem?_setIfInBounds] at hm ⊢
      by_cases hmi : i = m
      ·subst hmi; simp [hsz, h1]
      ·simpa [hmi] using hm
     rw [hset k] at hl
     simp only [Bool.or_eq_true, decide_eq_true_eq] at hl
     rcases hl with hl | rfl
     ·exact up _ (hcl k o2 ho2 hl e he hb)
     ·rw [ho] at ho2
      simp only [Option.some.injEq] at ho2
      subst ho2
      exact up _ (hp e he hb)
    have hgo := stt_ai (Q := Rel E dfs .norm s') (next := wpAny P .any ops (Rel E dfs .norm s') fuel (listed.setIfInBounds i true)) hs h hd hk.1.1 q1
     (fun _ a' w' hst hdd => any_ok hs hlen hat fuel (listed.setIfInBounds i true) a' w' s1 (by simpa using hsz) hclosed (by
      rw [hrem]
      rw [hsplit] at hfu
      simp only [List.length_append, List.length_cons] at hfu ⊢
      omega) hst hdd (by rw [hrem, List.filterMap_append]; exact q2))
     (fun v chain a' w' hv _ => by cases hv)
    unfold wpOp
    simp only [ho]
    split
    ·rename_i hw; rw [if_pos hw] at hgo; exact .inl hgo
    ·rename_i hw; rw [if_neg hw] at hgo; exact hgo
   ·cases hk
theorem stt_drew (h : Stt E a w s) : Stt E a { w with drawn := w.drawn + 1 } s := by
 obtain ⟨F, ρ, osT, osH, e0, r0, hsim, n0⟩ := h
 have e1 : Ext E.B w F w.drew F (fun _ => False) := Ext.drew hsim.fresh
 exact ⟨F, ρ, osT, osH, (e0.trans e1).weaken (fun b _ hb => hb.elim id False.elim), r0, hsim.ext e1 (fun _ _ => id), n0⟩
def isCall : AOp → Bool
 | .call _ _ _ => true
 | _ => false
def panOK (ops : Array Oper) (is : List AI) (i : Nat) : Bool := match is[i]? with
 | some x => drawable x.op && (List.range i).all (fun j => match is[j]? with
  | some y => (!isCall x.op || ancB ops 12 i j || (disj (wr y) (rd x) && hcl y.op != 2)) && (!isCall y.op || ancB ops 12 i j)
  | none => false)
 | none => false
def chkP (P : Program) (ops : Array Oper) (is : List AI) : Bool := chkD P ops is && (List.range ops.size).all (panOK ops is)
theorem ups_length : ∀ {U : List (Nat × V × Bool)} {t : List V}, (ups t U).length = t.length
 | [], _ => rfl
 | (d, v, b) :: U, t => by
  simp only [ups]
  rw [ups_length]
  cases b <;> simp [ups1, length_upd']
theorem put_length {t t' : List V} {dst : Option Nat} {v : V} (h : put t dst v = some t') : t'.length = t.length := by
 rw [(put_inv h).1, ups_length]
theorem stepR_inv {dst : Option Nat} {s s' : St} {r : Option Rs} {e : Ex} (h : stepR dst s r = some (e, s')) : s'.t.length = s.t.length ∧ (e = .norm ∨ ∃ v, e = .pan v ∧ s'.t = s.t ∧ r = some (.pan v s'.h)) := by
 cases r with
 | none => cases h
 | some r =>
  cases r with
  | val us v h' =>
   simp only [stepR] at h
   split at h
   ·rename_i t' hp
    simp only [Option.some.injEq, Prod.mk.injEq] at h
    obtain ⟨rfl, rfl⟩ := h
    exact ⟨by rw [put_length hp, ups_length], .inl rfl⟩
   ·cases h
  | pan v h' =>
   simp only [stepR, Option.some.injEq, Prod.mk.injEq] at h
   obtain ⟨rfl, rfl⟩ := h
   exact ⟨rfl, .inr ⟨v, rfl, rfl, rfl⟩⟩
theorem stepI_inv {c : CallF} {i : AI} {s s' : St} {e : Ex} (h : stepI c i s = some (e, s')) : s'.t.length = s.t.length ∧ (e = .norm ∨ ∃ v, e = .pan v ∧ s'.t = s.t ∧ resI c i s.t s.h = some (.pan v s'.h)) := by
 rw [stepI_resI] at h
 exact stepR_inv h
theorem opRes_pan {c : CallF} {ρ : Nat → V} {h h1 : Heap} {op : AOp} {v : V} (hd : drawable op = true) (H : opRes c ρ h op = some (.pan v h1)) : isCall op = true ∧ okRead ρ (reads op) := by
 cases op with
 | call f args useH =>
  refine ⟨rfl, ?_⟩
  simp only [opRes] at H
  split at H
  ·rename_i vs us ha; exact args_read ha
  ·cases H
 | callr f args =>
  simp only [opRes] at H
  split at H
  ·obtain ⟨q, hq⟩ := callR'_some H
   rw [hq] at H
   cases q with
   | ret v h2 => simp only [callR'] at H; (repeat' split at H) <;> cases H
   | pan v h2 => simp [callR'] at H
  ·cases H
 | callv x args => cases hd
 | pan x => cases hd
 | _ =>
  exfalso
  simp only [opRes] at H
  first
   | (cases H; done)
   | ((repeat' split at H) <;> cases H)
theorem resI_pan {c : CallF} {i : AI} {t : List V} {h h1 : Heap} {v : V} (hd : drawable i.op = true) (H : resI c i t h = some (.pan v h1)) :
    isCall i.op = true ∧ ∀ t' : List V, (∀ k ∈ gs i.g ++ reads i.op, nth t k ≠ .undef → nth t' k = nth t k) → resI c i t' h = some (.pan v h1) := by
  unfold resI at H ⊢
  cases hg : i.g with
  | none =>
    rw [hg] at H
    simp only at H ⊢
    obtain ⟨x1, x2⟩ := opRes_pan hd H
    exact ⟨x1, fun t' ht => by rw [← H]; exact op_congr hd (fun k hk => ht k (by simp [gs, hk]) (x2 k hk).2)⟩
  | some gw =>
    obtain ⟨g, want⟩ := gw
    rw [hg] at H
    simp only at H ⊢
    cases hv : nth t g with
    | bool bb =>
      rw [hv] at H
      simp only at H ⊢
      by_cases hbw : bb = want
      · rw [if_pos hbw] at H
        obtain ⟨x1, x2⟩ := opRes_pan hd H
        refine ⟨x1, fun t' ht => ?_⟩
        rw [ht g (by simp [gs]) (by rw [hv]; simp), hv]
        simp only [if_pos hbw]
        rw [← H]
        exact op_congr hd (fun k hk => ht k (by simp [hk]) (x2 k hk).2)
      · rw [if_neg hbw] at H
        cases H
    | tup vs =>
      rw [hv] at H
      cases vs with
      | cons w ws => cases H
      | nil => cases H
    | _ => rw [hv] at H; cases H
theorem pan_front {c : CallF} {x : AI} {v : V} {s2 : St} (hx : drawable x.op = true) : ∀ {pre : List AI} {s s1 : St}, (∀ y ∈ pre, drawable y.op = true ∧ disj (wr y) (rd x) = true ∧ hcl y.op ≠ 2) → runOps c pre s = some (.norm, s1) →
  stepI c x s1 = some (.pan v, s2) → ∃ s3, stepI c x s = some (.pan v, s3) ∧ s3.h = s2.h
 | [], s, s1, _, h, hp => by
  simp only [runOps, Option.some.injEq, Prod.mk.injEq, true_and] at h
  subst h
  exact ⟨s2, hp, rfl⟩
 | y :: pre, s, s1, hc, h, hp => by
  obtain ⟨sy, h1, h2⟩ := runOps_cons h
  obtain ⟨s3, h3, h4⟩ := pan_front hx (pre := pre) (fun z hz => hc z (by simp [hz])) h2 hp
  obtain ⟨yd, ydis, yh⟩ := hc y (by simp)
  rcases (stepI_inv h3).2 with he | ⟨v', he, _, hr⟩
  ·cases he
  ·cases he
   obtain ⟨_, hcong⟩ := resI_pan hx hr
   rw [stepI_resI] at h1
   obtain ⟨uy, vy, hpy, ry, py, qy⟩ := stepR_norm h1
   have e1 := resI_heap yd yh ry
   have ty := put_ups py
   have sl : ∀ k ∈ slotsOf (uy ++ dstU y.dst vy), k ∈ wr y := fun k hk => by
    simp only [slotsOf, List.map_append, List.mem_append, List.mem_map] at hk
    simp only [wr, List.mem_append]
    rcases hk with ⟨u, hu, rfl⟩ | ⟨u, hu, rfl⟩
    ·exact .inr (resI_ups yd ry u hu).1
    ·cases hd : y.dst with
     | none => rw [hd] at hu; cases hu
     | some d => rw [hd] at hu; obtain rfl := List.mem_singleton.1 hu; simp [dl, hd]
   have hr' := hcong s.t (fun k hk hne => by
    have hk' : k ∉ slotsOf (uy ++ dstU y.dst vy) := fun hm => disj_ok ydis k (sl k hm) (by simp only [rd, List.mem_append] at hk ⊢; rcases hk with hk | hk <;> simp [hk])
    rw [ty] at hne ⊢
    rcases nth_ups_any (t := s.t) hk' with h5 | ⟨_, h5⟩
    ·exact h5.symm
    ·exact (hne h5).elim)
   rw [qy, e1] at hr'
   refine ⟨⟨s.t, s3.h⟩, ?_, h4⟩
   rw [stepI_resI, hr']
   rfl
theorem runOps_append {c : CallF} : ∀ {l m : List AI} {s : St}, runOps c (l ++ m) s = match runOps c l s with | some (.norm, s1) => runOps c m s1 | r => r
 | [], m, s => rfl
 | x :: l, m, s => by
  simp only [List.cons_append, runOps]
  cases stepI c x s with
  | none => rfl
  | some q =>
   obtain ⟨e, s1⟩ := q
   cases e with
   | norm => exact runOps_append
   | _ => rfl
theorem runOps_length {c : CallF} : ∀ {l : List AI} {s s' : St} {e : Ex}, runOps c l s = some (e, s') → s'.t.length = s.t.length
 | [], s, s', e, h => by
  simp only [runOps, Option.some.injEq, Prod.mk.injEq] at h
  rw [h.2]
 | x :: l, s, s', e, h => by
  simp only [runOps] at h
  cases hx : stepI c x s with
  | none => rw [hx] at h; cases h
  | some q =>
   obtain ⟨e1, s1⟩ := q
   rw [hx] at h
   have h1 := (stepI_inv hx).1
   cases e1 with
   | norm => rw [runOps_length h, h1]
   | _ => simp only [Option.some.injEq, Prod.mk.injEq] at h; rw [← h.2, h1]
theorem runOps_stop {c : CallF} : ∀ {l : List AI} {s s' : St} {e : Ex}, (∀ y ∈ l, drawable y.op = true) → runOps c l s = some (e, s') → e ≠ .norm → (∃ y ∈ l, isCall y.op = true) ∧ ∃ v, e = .pan v
 | [], s, s', e, _, h, hn => by
  simp only [runOps, Option.some.injEq, Prod.mk.injEq] at h
  exact (hn h.1.symm).elim
 | x :: l, s, s', e, hd, h, hn => by
  simp only [runOps] at h
  cases hx : stepI c x s with
  | none => rw [hx] at h; cases h
  | some q =>
   obtain ⟨e1, s1⟩ := q
   rw [hx] at h
   cases e1 with
   | norm =>
    obtain ⟨⟨y, hy, h1⟩, h2⟩ := runOps_stop (fun y hy => hd y (by simp [hy])) h hn
    exact ⟨⟨y, by simp [hy], h1⟩, h2⟩
   | _ =>
    simp only [Option.some.injEq, Prod.mk.injEq] at h
    rcases (stepI_inv hx).2 with he | ⟨v, he, _, hr⟩
    ·cases he
    ·exact ⟨⟨x, by simp, (resI_pan (hd x (by simp)) hr).1⟩, v, by rw [← h.1]; exact he⟩
theorem rel_erase {v : V} {s3 s0 : St} {chain : List PanicEntry} {a : Act} {w : World} (h : Rel E dfs (.pan v) s3 (.panic chain) a w) (hh : s3.h = s0.h) (hl : s3.t.length = s0.t.length) : Rel E dfs (.pan v) (eraseT s0) (.panic chain) a w := by
 obtain ⟨⟨cv, hchain, F, ρ, osH, e0, r0, p1, p2, p3, p4, p5⟩, hd⟩ := h
 refine ⟨⟨cv, hchain, F, ρ, osH, e0, r0, p1, by rw [hh] at p2; exact p2, p3, p4, ?_, fun i id off hi => ?_⟩, hd⟩
 ·rw [p5.1, hl]; simp [eraseT]
 ·exfalso
  have key : ∀ (t : List V) (i : Nat), nth (t.map fun _ => V.undef) i = .undef := by
   intro t
   induction t with
   | nil => intro i; rfl
   | cons y t ih => intro i; cases i with
    | zero => rfl
    | succ i => exact ih i
  simp only [eraseT] at hi
  rw [key] at hi
  cases hi
theorem any_pan {ops : Array Oper} {is : List AI} {v : V} {s0 : St} (hs : SoundCall P call) (hlen : is.length = ops.size) (hat : ∀ i, i < ops.size → atOK P ops is i = true) (hpn : ∀ i, i < ops.size → panOK ops is i = true) : ∀ (fuel : Nat) (listed : Array Bool) (a : Act) (w : World) (s s' : St), listed.size = ops.size → ClosedL ops listed →
  (remL ops.size listed).length = fuel → Stt E a w s → a.defers = dfs → runOps call ((remL ops.size listed).filterMap (fun i => is[i]?)) s = some (.pan v, s') → s'.h = s0.h → s.t.length = s0.t.length → wpAny P .any ops (Rel E dfs (.pan v) (eraseT s0)) fuel listed a w
 | 0, listed, a, w, s, s', hsz, hcl, hfu, h, hd, hr, _, _ => by
  have hnil := List.length_eq_zero_iff.1 hfu
  rw [hnil] at hr
  simp only [List.filterMap_nil, runOps, Option.some.injEq, Prod.mk.injEq] at hr
  cases hr.1
 | fuel + 1, listed, a, w, s, s', hsz, hcl, hfu, h, hd, hr, hh0, hl0 => by
  refine ⟨fun hnil => ?_, fun i hi => ?_⟩
  ·exfalso
   have all : ∀ (m k : Nat), k < m → k < ops.size → listed.getD k true = true := by
    intro m
    induction m with
    | zero => intro k hk; omega
    | succ m ih =>
     intro k hk hkn
     cases hl : listed.getD k true with
     | true => rfl
     | false =>
      have hk' := hat k hkn
      unfold atOK at hk'
      split at hk'
      ·rename_i o x ho hx
       simp only [Bool.and_eq_true] at hk'
       have : k ∈ Region.ready .any ops listed := ready_of hkn hl ho (fun e he hb => by
        have h1 := List.all_eq_true.1 hk'.1.2 e he
        simp only [hb, Bool.not_true, Bool.false_or, decide_eq_true_eq] at h1
        have h2 := ih e.on (by omega) (by omega)
        simp only [Array.getD_eq_getD_getElem?] at h2 ⊢
        rw [Array.getElem?_eq_getElem (by omega)] at h2 ⊢
        simpa using h2)
       rw [hnil] at this
       cases this
      ·cases hk'
   have : remL ops.size listed = [] := by
    unfold remL
    rw [List.filter_eq_nil_iff]
    intro k hk
    have := all (k + 1) k (by omega) (List.mem_range.1 hk)
    simp [this]
   rw [this] at hfu
   cases hfu
  ·obtain ⟨h1, h2, o, ho, hp⟩ := mem_ready hi
   have hirem : i ∈ remL ops.size listed := mem_rem.2 ⟨h1, h2⟩
   obtain ⟨pre, post, hsplit⟩ := List.append_of_mem hirem
   have hpair : (pre ++ i :: post).Pairwise (· < ·) := by
    rw [← hsplit]
    exact List.Pairwise.filter _ List.pairwise_lt_range
   have hpre : ∀ j ∈ pre, j < i := fun j hj => (List.pairwise_append.1 hpair).2.2 j hj i (by simp)
   have hpost : ∀ j ∈ post, i < j := fun j hj => (List.pairwise_cons.1 (List.pairwise_append.1 hpair).2.1).1 j hj
   have hk := hat i h1
   unfold atOK at hk
   split at hk
   ·rename_i o' x ho' hx
    rw [ho] at ho'
    simp only [Option.some.injEq] at ho'
    subst ho'
    simp only [Bool.and_eq_true] at hk
    have hnoanc : ∀ j ∈ pre, ancB ops 12 i j = false := fun j hj => by
     cases hpk : ancB ops 12 i j with
     | false => rfl
     | true =>
      exfalso
      have hl := getD_true (anc_listed hcl 12 i hpk (fun o2 ho2 e he hb => by
       rw [ho] at ho2
       simp only [Option.some.injEq] at ho2
       subst ho2
       exact hp e he hb))
      have hjr : j ∈ remL ops.size listed := by rw [hsplit]; simp [hj]
      have := (mem_rem.1 hjr).2
      rw [hl] at this
      cases this
    have hcomm : ∀ y ∈ pre.filterMap (fun i => is[i]?), comm x y = true := fun y hy => by
     obtain ⟨j, hj, hjy⟩ := List.mem_filterMap.1 hy
     have hji := hpre j hj
     have hpk := List.all_eq_true.1 hk.2 j (List.mem_range.2 hji)
     simp only [pairOK, hx, hjy, hnoanc j hj, Bool.or_false] at hpk
     exact hpk
    have hpx := hpn i h1
    simp only [panOK, hx, Bool.and_eq_true] at hpx
    obtain ⟨hxd, hpx⟩ := hpx
    have hpy : ∀ y ∈ pre.filterMap (fun i => is[i]?), drawable y.op = true ∧ (isCall x.op = true → disj (wr y) (rd x) = true ∧ Am.hcl y.op ≠ 2) ∧ isCall y.op = false := fun y hy => by
     obtain ⟨j, hj, hjy⟩ := List.mem_filterMap.1 hy
     have hji := hpre j hj
     have hq := List.all_eq_true.1 hpx j (List.mem_range.2 hji)
     simp only [hjy, hnoanc j hj, Bool.or_false, Bool.and_eq_true, Bool.or_eq_true, Bool.not_eq_true', bne_iff_ne, ne_eq] at hq
     have hyd := hpn j (by omega)
     simp only [panOK, hjy, Bool.and_eq_true] at hyd
     refine ⟨hyd.1, fun hxc => ?_, hq.2⟩
     rcases hq.1 with h5 | h5
     ·rw [hxc] at h5; cases h5
     ·exact h5
    rw [hsplit] at hr
    simp only [List.filterMap_append, List.filterMap_cons, hx] at hr
    rw [runOps_append] at hr
    have hset : ∀ k, (listed.setIfInBounds i true).getD k true = (listed.getD k true || decide (k = i)) := fun k => by
     simp only [Array.getD_eq_getD_getElem?, Array.getElem?_setIfInBounds]
     by_cases hki : i = k
     ·subst hki
      simp [hsz, h1]
     ·simp [hki, Ne.symm hki, show ¬ k = i from fun hh => hki hh.symm]
    have hrem : remL ops.size (listed.setIfInBounds i true) = pre ++ post := by
     have e1 : remL ops.size (listed.setIfInBounds i true) = (remL ops.size listed).filter (fun k => !decide (k = i)) := by
      unfold remL
      rw [List.filter_filter]
      congr 1
      funext k
      rw [hset k]
      cases listed.getD k true <;> simp
     rw [e1, hsplit, List.filter_append, List.filter_cons]
     have f1 : pre.filter (fun k => !decide (k = i)) = pre := List.filter_eq_self.2 fun k hk => by have := hpre k hk; simp; omega
     have f2 : post.filter (fun k => !decide (k = i)) = post := List.filter_eq_self.2 fun k hk => by have := hpost k hk; simp; omega
     rw [f1, f2]
     simp
    have hclosed : ClosedL ops (listed.setIfInBounds i true) := fun k o2 ho2 hl e he hb => by
     have up : ∀ m, listed.getD m false = true → (listed.setIfInBounds i true).getD m false = true := fun m hm => by
      simp only [Array.getD_eq_getD_getElem?, Array.getElem?_setIfInBounds] at hm ⊢
      by_cases hmi : i = m
      ·subst hmi; simp [hsz, h1]
      ·simpa [hmi] using hm
     rw [hset k] at hl
     simp only [Bool.or_eq_true, decide_eq_true_eq] at hl
     rcases hl with hl | rfl
     ·exact up _ (hcl k o2 ho2 hl e he hb)
     ·rw [ho] at ho2
      simp only [Option.some.injEq] at ho2
      subst ho2
      exact up _ (hp e he hb)
    cases hq1 : runOps call (pre.filterMap fun i => is[i]?) s with
    | none => rw [hq1] at hr; cases hr
    | some q =>
     obtain ⟨e1, s1⟩ := q
     have hnorm : e1 = .norm := by
      cases e1 with
      | norm => rfl
      | _ =>
       exfalso
       obtain ⟨⟨y, hy, hyc⟩, _⟩ := runOps_stop (fun y hy => (hpy y hy).1) hq1 (fun h => by cases h)
       rw [(hpy y hy).2.2] at hyc
       cases hyc
     subst hnorm
     rw [hq1] at hr
     simp only [runOps] at hr
     cases hq2 : stepI call x s1 with
     | none => rw [hq2] at hr; cases hr
     | some q2 =>
      obtain ⟨e2, s2⟩ := q2
      rw [hq2] at hr
      rcases (stepI_inv hq2).2 with rfl | ⟨v', rfl, _, hpn2⟩
      ·simp only at hr
       have hfull : runOps call ((pre.filterMap fun i => is[i]?) ++ x :: []) s = some (.norm, s2) := by
        rw [runOps_append, hq1]
        simp only [runOps, hq2]
       obtain ⟨sx, p1, p2⟩ := swap hcomm hfull
       simp only [List.append_nil] at p2
       have hgo := stt_ai (Q := Rel E dfs (.pan v) (eraseT s0)) (next := wpAny P .any ops (Rel E dfs (.pan v) (eraseT s0)) fuel (listed.setIfInBounds i true)) hs h hd hk.1.1 p1
        (fun _ a' w' hst hdd => any_pan hs hlen hat hpn fuel (listed.setIfInBounds i true) a' w' sx s' (by simpa using hsz) hclosed (by
         rw [hrem]
         rw [hsplit] at hfu
         simp only [List.length_append, List.length_cons] at hfu ⊢
         omega) hst hdd (by rw [hrem, List.filterMap_append, runOps_append, p2]; exact hr) hh0 (by rw [(stepI_inv p1).1]; exact hl0))
        (fun v chain a' w' hv _ => by cases hv)
       unfold wpOp
       simp only [ho]
       split
       ·rename_i hw; rw [if_pos hw] at hgo; exact .inl hgo
       ·rename_i hw; rw [if_neg hw] at hgo; exact hgo
      ·simp only [Option.some.injEq, Prod.mk.injEq, Ex.pan.injEq] at hr
       obtain ⟨rfl, rfl⟩ := hr
       have hxc := (resI_pan hxd hpn2).1
       obtain ⟨s3, p1, p2⟩ := pan_front hxd (fun y hy => ⟨(hpy y hy).1, (hpy y hy).2.1 hxc⟩) hq1 hq2
       have hgo := stt_ai (Q := Rel E dfs (.pan v') (eraseT s0)) (next := wpAny P .any ops (Rel E dfs (.pan v') (eraseT s0)) fuel (listed.setIfInBounds i true)) hs h hd hk.1.1 p1
        (fun hv => by cases hv)
        (fun v2 chain a' w' hv hrel => by
         cases hv
         exact rel_erase hrel (p2.trans hh0) (by rw [(stepI_inv p1).1]; exact hl0))
       unfold wpOp
       simp only [ho]
       split
       ·rename_i hw; rw [if_pos hw] at hgo; exact .inl hgo
       ·rename_i hw; rw [if_neg hw] at hgo; exact hgo
   ·cases hk
theorem draw_ok {id : Nat} {ops : Array Oper} (hs : SoundCall P call) {is : List AI} {s' : St} (hc : chkD P ops is = true) (h : Stt E a w s) (hd : a.defers = dfs) (hr : runOps call is s = some (.norm, s')) :
    (Code.region id ops true).wp P (Rel E dfs .norm s') a w := by
  simp only [chkD, Bool.and_eq_true, beq_iff_eq] at hc
  obtain ⟨⟨hlen, hm⟩, hall⟩ := hc
  have hrem : remL ops.size (Array.replicate ops.size false) = List.range ops.size := by
    unfold remL
    refine List.filter_eq_self.2 fun k hk => ?_
    have := List.mem_range.1 hk
    simp [Array.getD_eq_getD_getElem?, this]
  refine wp_region_any hm (any_ok hs hlen (fun i hi => List.all_eq_true.1 hall i (List.mem_range.2 hi)) _ _ _ _ s (by simp) (fun k o ho hl e he hb => ?_) (by rw [hrem]; simp) (stt_drew h) hd ?_)
  · have hk := (Array.getElem?_eq_some_iff.1 ho).1
    simp [Array.getD_eq_getD_getElem?, hk] at hl
  · rw [hrem]
    have : (List.range ops.size).filterMap (fun i => is[i]?) = is := by
      rw [← hlen]
      apply List.ext_getElem?
      intro i
      have key : ∀ (l : List AI), (List.range l.length).filterMap (fun i => l[i]?) = l := by
        intro l
        induction l with
        | nil => rfl
        | cons x l ih => rw [List.length_cons, List.range_succ_eq_map, List.filterMap_cons]; simp only [List.getElem?_cons_zero, List.filterMap_map]; congr 1
      rw [key is]
    rw [this]
    exact hr
theorem draw_pan {id : Nat} {ops : Array Oper} (hs : SoundCall P call) {is : List AI} {v : V} {s' : St} (hc : chkP P ops is = true) (h : Stt E a w s) (hd : a.defers = dfs) (hr : runOps call is s = some (.pan v, s')) :
    (Code.region id ops true).wp P (Rel E dfs (.pan v) (eraseT s')) a w := by
  simp only [chkP, chkD, Bool.and_eq_true, beq_iff_eq] at hc
  obtain ⟨⟨⟨hlen, hm⟩, hall⟩, hpn⟩ := hc
  have hrem : remL ops.size (Array.replicate ops.size false) = List.range ops.size := by
    unfold remL
    refine List.filter_eq_self.2 fun k hk => ?_
    have := List.mem_range.1 hk
    simp [Array.getD_eq_getD_getElem?, this]
  refine wp_region_any hm (any_pan hs hlen (fun i hi => List.all_eq_true.1 hall i (List.mem_range.2 hi)) (fun i hi => List.all_eq_true.1 hpn i (List.mem_range.2 hi)) _ _ _ _ s s' (by simp) (fun k o ho hl e he hb => ?_) (by rw [hrem]; simp) (stt_drew h) hd ?_ rfl (runOps_length hr).symm)
  · have hk := (Array.getElem?_eq_some_iff.1 ho).1
    simp [Array.getD_eq_getD_getElem?, hk] at hl
  · rw [hrem]
    have : (List.range ops.size).filterMap (fun i => is[i]?) = is := by
      rw [← hlen]
      apply List.ext_getElem?
      intro i
      have key : ∀ (l : List AI), (List.range l.length).filterMap (fun i => l[i]?) = l := by
        intro l
        induction l with
        | nil => rfl
        | cons x l ih => rw [List.length_cons, List.range_succ_eq_map, List.filterMap_cons]; simp only [List.getElem?_cons_zero, List.filterMap_map]; congr 1
      rw [key is]
    rw [this]
    exact hr
end
end Go.Am
