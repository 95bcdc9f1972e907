/- The abstract machine's runs, and the rules by which a run is reckoned from the head on. -/
import Derived.Test.YtbnjembcmddjoaaAm1
namespace Go.Am

structure Mach where
  ft : FuncId → Option AF
  ext : CallF

def callN (M : Mach) : Nat → CallF
  | 0 => M.ext
  | n + 1 => fun f args h => match M.ext f args h with
    | some r => some r
    | none => match M.ft f with
      | none => none
      | some af => finish af h.length (evC (callN M n) n af.body ⟨frame af args, h⟩)

def callLe (c c' : CallF) : Prop := ∀ f args h r, c f args h = some r → c' f args h = some r

theorem callR_some {useH : Bool} {h : Heap} {us : List (Nat × V × Bool)} {o : Option Rt} {r : Rs} (H : callR useH h us o = some r) : ∃ q, o = some q := by
  cases o with
  | none => simp [callR] at H
  | some q => exact ⟨q, rfl⟩

theorem opRes_mono {c c' : CallF} (hc : callLe c c') {ρ : Nat → V} {h : Heap} {op : AOp} {r : Rs} (H : opRes c ρ h op = some r) : opRes c' ρ h op = some r := by
  cases op with
  | call f args useH =>
    simp only [opRes] at H ⊢
    split at H
    · obtain ⟨q, hq⟩ := callR_some H
      rw [hq] at H
      rw [hc _ _ _ _ hq]
      exact H
    · cases H
  | callv x args =>
    simp only [opRes] at H ⊢
    split at H
    · obtain ⟨q, hq⟩ := callR_some H
      rw [hq] at H
      rw [hc _ _ _ _ hq]
      exact H
    · cases H
  | _ => exact H

theorem stepR_some {dst : Option Nat} {s : St} {o : Option Rs} {r : Ex × St} (H : stepR dst s o = some r) : ∃ q, o = some q := by
  cases o with
  | none => simp [stepR] at H
  | some q => exact ⟨q, rfl⟩

theorem stepI_mono {c c' : CallF} (hc : callLe c c') {i : AI} {s : St} {r : Ex × St} (H : stepI c i s = some r) : stepI c' i s = some r := by
  unfold stepI at H ⊢
  have key : ∀ {r}, stepR i.dst s (opRes c (nth s.t) s.h i.op) = some r → stepR i.dst s (opRes c' (nth s.t) s.h i.op) = some r := by
    intro r H
    obtain ⟨q, hq⟩ := stepR_some H
    rw [hq] at H
    rw [opRes_mono hc hq]
    exact H
  cases hg : i.g with
  | none => rw [hg] at H; exact key H
  | some gw =>
    obtain ⟨g, want⟩ := gw
    rw [hg] at H
    simp only at H ⊢
    split at H
    · split at H
      · rename_i hb; rw [if_pos hb]; exact key H
      · rename_i hb; rw [if_neg hb]; exact H
    · exact H
    · cases H

theorem runOps_mono {c c' : CallF} (hc : callLe c c') : ∀ {ops : List AI} {s : St} {r : Ex × St}, runOps c ops s = some r → runOps c' ops s = some r := by
  intro ops
  induction ops with
  | nil => intro s r H; exact H
  | cons i ops ih =>
    intro s r H
    unfold runOps at H ⊢
    cases hs : stepI c i s with
    | none => rw [hs] at H; cases H
    | some q =>
      rw [hs] at H
      rw [stepI_mono hc hs]
      obtain ⟨e, s'⟩ := q
      cases e with
      | norm => exact ih H
      | _ => exact H

theorem iterA_mono {f g : St → Option (Ex × St)} (hf : ∀ s r, f s = some r → g s = some r) : ∀ (n m : Nat), n ≤ m → ∀ s r, iterA f n s = some r → iterA g m s = some r := by
  intro n
  induction n with
  | zero => intro m _ s r H; cases H
  | succ n ih =>
    intro m hm s r H
    obtain ⟨m, rfl⟩ : ∃ k, m = k + 1 := ⟨m - 1, by omega⟩
    unfold iterA at H ⊢
    cases hs : f s with
    | none => rw [hs] at H; cases H
    | some q =>
      rw [hs] at H
      rw [hf _ _ hs]
      obtain ⟨e, s'⟩ := q
      cases e with
      | norm => exact ih m (by omega) s' r H
      | _ => exact H

theorem evC_mono {c c' : CallF} (hc : callLe c c') {n m : Nat} (hm : n ≤ m) : ∀ (a : AC) (s : St) (r : Ex × St), evC c n a s = some r → evC c' m a s = some r := by
  intro a
  induction a with
  | skip => intro s r H; exact H
  | reg ops => intro s r H; exact runOps_mono hc H
  | dreg ops =>
    intro s r H
    unfold evC at H ⊢
    cases hs : runOps c ops s with
    | none => rw [hs] at H; cases H
    | some q =>
      rw [hs] at H
      rw [runOps_mono hc hs]
      exact H
  | seq a b iha ihb =>
    intro s r H
    unfold evC at H ⊢
    cases hs : evC c n a s with
    | none => rw [hs] at H; cases H
    | some q =>
      rw [hs] at H
      rw [iha _ _ hs]
      obtain ⟨e, s'⟩ := q
      cases e with
      | norm => exact ihb _ _ H
      | _ => exact H
  | cond x a b iha ihb =>
    intro s r H
    unfold evC at H ⊢
    split at H
    · split at H
      · rename_i ht; simp only [ht, if_true]; exact iha _ _ H
      · rename_i ht; simp only [ht]; exact ihb _ _ H
    · cases H
  | blk id a ih =>
    intro s r H
    unfold evC at H ⊢
    cases hs : evC c n a s with
    | none => rw [hs] at H; cases H
    | some q => rw [hs] at H; rw [ih _ _ hs]; exact H
  | loop a ih => intro s r H; exact iterA_mono (fun s r => ih s r) n m hm s r H
  | exit id => intro s r H; exact H
  | ret => intro s r H; exact H
  | pre ds a ih => intro s r H; exact ih _ _ H

theorem finish_some {af : AF} {n : Nat} {o : Option (Ex × St)} {r : Rt} (H : finish af n o = some r) : ∃ q, o = some q := by
  cases o with
  | none => simp [finish] at H
  | some q => exact ⟨q, rfl⟩

section
variable (M : Mach)

theorem callN_step (n : Nat) (f : FuncId) (args : List V) (h : Heap) : callN M (n + 1) f args h = match M.ext f args h with
    | some r => some r
    | none => match M.ft f with
      | none => none
      | some af => finish af h.length (evC (callN M n) n af.body ⟨frame af args, h⟩) := rfl

theorem callN_succ : ∀ n, callLe (callN M n) (callN M (n + 1)) := by
  intro n
  induction n with
  | zero => intro f args h r H; simp only [callN] at H ⊢; rw [H]
  | succ n ih =>
    intro f args h r H
    rw [callN_step] at H ⊢
    cases he : M.ext f args h with
    | some q => rw [he] at H; exact H
    | none =>
      rw [he] at H
      simp only at H ⊢
      cases hf : M.ft f with
      | none => rw [hf] at H; cases H
      | some af =>
        rw [hf] at H
        simp only at H ⊢
        obtain ⟨q, hq⟩ := finish_some H
        rw [hq] at H
        rw [evC_mono ih (Nat.le_succ n) _ _ _ hq]
        exact H

theorem callN_le {n m : Nat} (h : n ≤ m) : callLe (callN M n) (callN M m) := by
  induction m with
  | zero => obtain rfl : n = 0 := by omega
            intro f args h r H; exact H
  | succ m ih =>
    by_cases hn : n = m + 1
    · subst hn; intro f args h r H; exact H
    · intro f args h' r H
      exact callN_succ M m f args h' r (ih (by omega) f args h' r H)

open Classical in
/-- What a call comes to. -/
noncomputable def acall : CallF := fun f args h => if H : ∃ n, (callN M n f args h).isSome = true then callN M (Classical.choose H) f args h else none

theorem acall_iff {f : FuncId} {args : List V} {h : Heap} {r : Rt} : acall M f args h = some r ↔ ∃ n, callN M n f args h = some r := by
  constructor
  · intro H
    unfold acall at H
    split at H
    · exact ⟨_, H⟩
    · cases H
  · rintro ⟨n, hn⟩
    have hex : ∃ n, (callN M n f args h).isSome = true := ⟨n, by rw [hn]; rfl⟩
    unfold acall
    rw [dif_pos hex]
    have h1 := Classical.choose_spec hex
    obtain ⟨q, hq⟩ := Option.isSome_iff_exists.1 h1
    rw [hq]
    have h2 := callN_le M (Nat.le_max_left n (Classical.choose hex)) _ _ _ _ hn
    have h3 := callN_le M (Nat.le_max_right n (Classical.choose hex)) _ _ _ _ hq
    rw [h2] at h3
    exact h3.symm

theorem callN_acall (n : Nat) : callLe (callN M n) (acall M) := fun _ _ _ _ H => (acall_iff M).2 ⟨n, H⟩

theorem opRes_acall {ρ : Nat → V} {h : Heap} {op : AOp} {r : Rs} : opRes (acall M) ρ h op = some r ↔ ∃ n, opRes (callN M n) ρ h op = some r := by
  constructor
  · intro H
    cases op with
    | call f args useH =>
      simp only [opRes] at H ⊢
      cases ha : argsOf ρ useH args with
      | none => rw [ha] at H; cases H
      | some q =>
        rw [ha] at H
        simp only at H ⊢
        obtain ⟨q', hq⟩ := callR_some H
        obtain ⟨n, hn⟩ := (acall_iff M).1 hq
        exact ⟨n, by rw [hn]; rw [hq] at H; exact H⟩
    | callv x args =>
      simp only [opRes] at H ⊢
      split at H
      · obtain ⟨q', hq⟩ := callR_some H
        obtain ⟨n, hn⟩ := (acall_iff M).1 hq
        exact ⟨n, by rw [hn]; rw [hq] at H; exact H⟩
      · cases H
    | _ => exact ⟨0, H⟩
  · rintro ⟨n, H⟩
    exact opRes_mono (callN_acall M n) H

theorem stepI_acall {i : AI} {s : St} {r : Ex × St} : stepI (acall M) i s = some r ↔ ∃ n, stepI (callN M n) i s = some r := by
  constructor
  · intro H
    have key : ∀ {r}, stepR i.dst s (opRes (acall M) (nth s.t) s.h i.op) = some r → ∃ n, stepR i.dst s (opRes (callN M n) (nth s.t) s.h i.op) = some r := by
      intro r H
      obtain ⟨q, hq⟩ := stepR_some H
      obtain ⟨n, hn⟩ := (opRes_acall M).1 hq
      exact ⟨n, by rw [hn]; rw [hq] at H; exact H⟩
    unfold stepI at H ⊢
    cases hg : i.g with
    | none => rw [hg] at H; exact key H
    | some gw =>
      obtain ⟨g, want⟩ := gw
      rw [hg] at H
      simp only at H ⊢
      split at H
      · split at H
        · rename_i hb; simp only [if_pos hb]; exact key H
        · rename_i hb; simp only [if_neg hb]; exact ⟨0, H⟩
      · exact ⟨0, H⟩
      · cases H
  · rintro ⟨n, H⟩
    exact stepI_mono (callN_acall M n) H

def Ev (a : AC) (s : St) (e : Ex) (s' : St) : Prop := ∃ n, evC (callN M n) n a s = some (e, s')
def EvOps (ops : List AI) (s : St) (e : Ex) (s' : St) : Prop := ∃ n, runOps (callN M n) ops s = some (e, s')

inductive It where
  | c (a : AC)
  | endB (id : Nat)
  | lp (a : AC)

/-- The rest of the code, run to its end. -/
def Run : List It → Ex → St → (Ex → St → Prop) → Prop
  | [], e, s, Q => Q e s
  | .c a :: k, .norm, s, Q => ∃ e s', Ev M a s e s' ∧ Run k e s' Q
  | .lp a :: k, .norm, s, Q => ∃ e s', Ev M (.loop a) s e s' ∧ Run k e s' Q
  | .endB _ :: k, .norm, s, Q => Run k .norm s Q
  | .endB id :: k, .exit id', s, Q => if id' = id then Run k .norm s Q else Run k (.exit id') s Q
  | _ :: k, e, s, Q => Run k e s Q

def RunO (ops : List AI) (k : List It) (s : St) (Q : Ex → St → Prop) : Prop := ∃ e s', EvOps M ops s e s' ∧ Run M k e s' Q

def RunS (r : Option (Ex × St)) (ops : List AI) (k : List It) (Q : Ex → St → Prop) : Prop :=
  match r with
  | some (.norm, s) => RunO M ops k s Q
  | some (e, s) => Run M k e s Q
  | none => False

variable {M} {k : List It} {s : St} {Q : Ex → St → Prop}

theorem run_nil {e : Ex} : Run M [] e s Q ↔ Q e s := Iff.rfl

theorem run_c {a : AC} : Run M (.c a :: k) .norm s Q ↔ ∃ e s', Ev M a s e s' ∧ Run M k e s' Q := Iff.rfl

theorem run_ret_cons {i : It} : Run M (i :: k) .ret s Q ↔ Run M k .ret s Q := by cases i <;> exact Iff.rfl
theorem run_pan_cons {i : It} {v : V} : Run M (i :: k) (.pan v) s Q ↔ Run M k (.pan v) s Q := by cases i <;> exact Iff.rfl
theorem run_exit_c {a : AC} {id : Nat} : Run M (.c a :: k) (.exit id) s Q ↔ Run M k (.exit id) s Q := Iff.rfl
theorem run_exit_lp {a : AC} {id : Nat} : Run M (.lp a :: k) (.exit id) s Q ↔ Run M k (.exit id) s Q := Iff.rfl
theorem run_exit_endB {id id' : Nat} : Run M (.endB id' :: k) (.exit id) s Q ↔ if id = id' then Run M k .norm s Q else Run M k (.exit id) s Q := Iff.rfl
theorem run_endB {id : Nat} : Run M (.endB id :: k) .norm s Q ↔ Run M k .norm s Q := Iff.rfl

theorem run_ret : Run M k .ret s Q ↔ Q .ret s := by
  induction k with
  | nil => exact Iff.rfl
  | cons i k ih => rw [run_ret_cons]; exact ih
theorem run_pan {v : V} : Run M k (.pan v) s Q ↔ Q (.pan v) s := by
  induction k with
  | nil => exact Iff.rfl
  | cons i k ih => rw [run_pan_cons]; exact ih

theorem Ev.det {a : AC} {e e' : Ex} {s1 s2 : St} (h1 : Ev M a s e s1) (h2 : Ev M a s e' s2) : e = e' ∧ s1 = s2 := by
  obtain ⟨n, hn⟩ := h1
  obtain ⟨m, hm⟩ := h2
  have h3 := evC_mono (callN_le M (Nat.le_max_left n m)) (Nat.le_max_left n m) _ _ _ hn
  have h4 := evC_mono (callN_le M (Nat.le_max_right n m)) (Nat.le_max_right n m) _ _ _ hm
  rw [h3] at h4
  simpa using h4

theorem run_skip : Run M (.c .skip :: k) .norm s Q ↔ Run M k .norm s Q := by
  rw [run_c]
  constructor
  · rintro ⟨e, s', ⟨n, hn⟩, h⟩
    simp only [evC, Option.some.injEq, Prod.mk.injEq] at hn
    obtain ⟨rfl, rfl⟩ := hn
    exact h
  · intro h; exact ⟨.norm, s, ⟨0, rfl⟩, h⟩

theorem run_exit {id : Nat} : Run M (.c (.exit id) :: k) .norm s Q ↔ Run M k (.exit id) s Q := by
  rw [run_c]
  constructor
  · rintro ⟨e, s', ⟨n, hn⟩, h⟩
    simp only [evC, Option.some.injEq, Prod.mk.injEq] at hn
    obtain ⟨rfl, rfl⟩ := hn
    exact h
  · intro h; exact ⟨.exit id, s, ⟨0, rfl⟩, h⟩

theorem run_cret : Run M (.c .ret :: k) .norm s Q ↔ Q .ret s := by
  rw [run_c]
  constructor
  · rintro ⟨e, s', ⟨n, hn⟩, h⟩
    simp only [evC, Option.some.injEq, Prod.mk.injEq] at hn
    obtain ⟨rfl, rfl⟩ := hn
    exact run_ret.1 h
  · intro h; exact ⟨.ret, s, ⟨0, rfl⟩, run_ret.2 h⟩

theorem run_pre {m : List Bool} {a : AC} : Run M (.c (.pre m a) :: k) .norm s Q ↔ Run M (.c a :: k) .norm { s with t := killM m m s.t } Q := by
  rw [run_c, run_c]
  exact Iff.rfl

theorem run_seq {a b : AC} : Run M (.c (.seq a b) :: k) .norm s Q ↔ Run M (.c a :: .c b :: k) .norm s Q := by
  rw [run_c, run_c]
  constructor
  · rintro ⟨e, s', ⟨n, hn⟩, h⟩
    unfold evC at hn
    cases hs : evC (callN M n) n a s with
    | none => rw [hs] at hn; cases hn
    | some q =>
      obtain ⟨e1, s1⟩ := q
      rw [hs] at hn
      refine ⟨e1, s1, ⟨n, hs⟩, ?_⟩
      cases e1 with
      | norm => exact ⟨e, s', ⟨n, hn⟩, h⟩
      | exit id => simp only [Option.some.injEq, Prod.mk.injEq] at hn; obtain ⟨rfl, rfl⟩ := hn; exact h
      | ret => simp only [Option.some.injEq, Prod.mk.injEq] at hn; obtain ⟨rfl, rfl⟩ := hn; exact run_ret_cons.2 h
      | pan v => simp only [Option.some.injEq, Prod.mk.injEq] at hn; obtain ⟨rfl, rfl⟩ := hn; exact run_pan_cons.2 h
  · rintro ⟨e1, s1, ⟨n, hn⟩, h⟩
    cases e1 with
    | norm =>
      obtain ⟨e, s', ⟨m, hm⟩, h'⟩ := h
      refine ⟨e, s', ⟨max n m, ?_⟩, h'⟩
      unfold evC
      rw [evC_mono (callN_le M (Nat.le_max_left n m)) (Nat.le_max_left n m) _ _ _ hn]
      exact evC_mono (callN_le M (Nat.le_max_right n m)) (Nat.le_max_right n m) _ _ _ hm
    | exit id => exact ⟨.exit id, s1, ⟨n, by unfold evC; rw [hn]⟩, h⟩
    | ret => exact ⟨.ret, s1, ⟨n, by unfold evC; rw [hn]⟩, run_ret_cons.1 h⟩
    | pan v => exact ⟨.pan v, s1, ⟨n, by unfold evC; rw [hn]⟩, run_pan_cons.1 h⟩

theorem run_cond {c : Src} {a b : AC} {t : Bool} (hc : ev (nth s.t) c = .bool t) : Run M (.c (.cond c a b) :: k) .norm s Q ↔ if t = true then Run M (.c a :: k) .norm s Q else Run M (.c b :: k) .norm s Q := by
  rw [run_c, run_c, run_c]
  have h1 : ∀ e s', Ev M (.cond c a b) s e s' ↔ (if t = true then Ev M a s e s' else Ev M b s e s') := by
    intro e s'
    unfold Ev
    simp only [evC, hc]
    cases t <;> simp
  cases t <;> simp [h1]

theorem run_blk {id : Nat} {a : AC} : Run M (.c (.blk id a) :: k) .norm s Q ↔ Run M (.c a :: .endB id :: k) .norm s Q := by
  rw [run_c, run_c]
  constructor
  · rintro ⟨e, s', ⟨n, hn⟩, h⟩
    unfold evC at hn
    cases hs : evC (callN M n) n a s with
    | none => rw [hs] at hn; cases hn
    | some q =>
      obtain ⟨e1, s1⟩ := q
      rw [hs] at hn
      refine ⟨e1, s1, ⟨n, hs⟩, ?_⟩
      cases e1 with
      | norm => simp only [Option.some.injEq, Prod.mk.injEq] at hn; obtain ⟨rfl, rfl⟩ := hn; exact h
      | exit id' =>
        rw [run_exit_endB]
        simp only at hn
        split at hn
        · rename_i hid; simp only [Option.some.injEq, Prod.mk.injEq] at hn; obtain ⟨rfl, rfl⟩ := hn; rw [if_pos hid]; exact h
        · rename_i hid; simp only [Option.some.injEq, Prod.mk.injEq] at hn; obtain ⟨rfl, rfl⟩ := hn; rw [if_neg hid]; exact h
      | ret => simp only [Option.some.injEq, Prod.mk.injEq] at hn; obtain ⟨rfl, rfl⟩ := hn; exact run_ret_cons.2 h
      | pan v => simp only [Option.some.injEq, Prod.mk.injEq] at hn; obtain ⟨rfl, rfl⟩ := hn; exact run_pan_cons.2 h
  · rintro ⟨e1, s1, ⟨n, hn⟩, h⟩
    cases e1 with
    | norm => exact ⟨.norm, s1, ⟨n, by unfold evC; rw [hn]⟩, h⟩
    | exit id' =>
      rw [run_exit_endB] at h
      split at h
      · rename_i hid; exact ⟨.norm, s1, ⟨n, by unfold evC; rw [hn]; simp [hid]⟩, h⟩
      · rename_i hid; exact ⟨.exit id', s1, ⟨n, by unfold evC; rw [hn]; simp [hid]⟩, h⟩
    | ret => exact ⟨.ret, s1, ⟨n, by unfold evC; rw [hn]⟩, run_ret_cons.1 h⟩
    | pan v => exact ⟨.pan v, s1, ⟨n, by unfold evC; rw [hn]⟩, run_pan_cons.1 h⟩

theorem run_lp {a : AC} : Run M (.lp a :: k) .norm s Q ↔ Run M (.c (.loop a) :: k) .norm s Q := Iff.rfl

/-- One round. -/
theorem run_loop {a : AC} : Run M (.c (.loop a) :: k) .norm s Q ↔ Run M (.c a :: .lp a :: k) .norm s Q := by
  rw [run_c, run_c]
  constructor
  · rintro ⟨e, s', ⟨n, hn⟩, h⟩
    unfold evC at hn
    cases n with
    | zero => cases hn
    | succ n =>
      unfold iterA at hn
      cases hs : evC (callN M (n + 1)) (n + 1) a s with
      | none => rw [hs] at hn; cases hn
      | some q =>
        obtain ⟨e1, s1⟩ := q
        rw [hs] at hn
        refine ⟨e1, s1, ⟨n + 1, hs⟩, ?_⟩
        cases e1 with
        | norm =>
          refine ⟨e, s', ⟨n + 1, ?_⟩, h⟩
          unfold evC
          exact iterA_mono (fun s r H => H) n (n + 1) (Nat.le_succ n) _ _ hn
        | exit id => simp only [Option.some.injEq, Prod.mk.injEq] at hn; obtain ⟨rfl, rfl⟩ := hn; exact h
        | ret => simp only [Option.some.injEq, Prod.mk.injEq] at hn; obtain ⟨rfl, rfl⟩ := hn; exact run_ret_cons.2 h
        | pan v => simp only [Option.some.injEq, Prod.mk.injEq] at hn; obtain ⟨rfl, rfl⟩ := hn; exact run_pan_cons.2 h
  · rintro ⟨e1, s1, ⟨n, hn⟩, h⟩
    have lift : ∀ m, n ≤ m → evC (callN M m) m a s = some (e1, s1) := fun m hm => evC_mono (callN_le M hm) hm _ _ _ hn
    cases e1 with
    | norm =>
      obtain ⟨e, s', ⟨m, hm⟩, h'⟩ := h
      refine ⟨e, s', ⟨max n m + 1, ?_⟩, h'⟩
      unfold evC iterA
      rw [lift (max n m + 1) (by omega)]
      unfold evC at hm
      exact iterA_mono (fun s r H => evC_mono (callN_le M (by omega)) (by omega) _ _ _ H) m (max n m) (by omega) _ _ hm
    | exit id => exact ⟨.exit id, s1, ⟨n + 1, by unfold evC iterA; rw [lift (n + 1) (by omega)]⟩, h⟩
    | ret => exact ⟨.ret, s1, ⟨n + 1, by unfold evC iterA; rw [lift (n + 1) (by omega)]⟩, run_ret_cons.1 h⟩
    | pan v => exact ⟨.pan v, s1, ⟨n + 1, by unfold evC iterA; rw [lift (n + 1) (by omega)]⟩, run_pan_cons.1 h⟩

theorem run_reg {ops : List AI} : Run M (.c (.reg ops) :: k) .norm s Q ↔ RunO M ops k s Q := Iff.rfl

theorem runO_nil : RunO M [] k s Q ↔ Run M k .norm s Q := by
  constructor
  · rintro ⟨e, s', ⟨n, hn⟩, h⟩
    simp only [runOps, Option.some.injEq, Prod.mk.injEq] at hn
    obtain ⟨rfl, rfl⟩ := hn
    exact h
  · intro h; exact ⟨.norm, s, ⟨0, rfl⟩, h⟩

theorem runO_cons {i : AI} {ops : List AI} : RunO M (i :: ops) k s Q ↔ RunS M (stepI (acall M) i s) ops k Q := by
  constructor
  · rintro ⟨e, s', ⟨n, hn⟩, h⟩
    unfold runOps at hn
    cases hs : stepI (callN M n) i s with
    | none => rw [hs] at hn; cases hn
    | some q =>
      obtain ⟨e1, s1⟩ := q
      rw [hs] at hn
      rw [(stepI_acall M).2 ⟨n, hs⟩]
      cases e1 with
      | norm => exact ⟨e, s', ⟨n, hn⟩, h⟩
      | exit id => simp only [Option.some.injEq, Prod.mk.injEq] at hn; obtain ⟨rfl, rfl⟩ := hn; exact h
      | ret => simp only [Option.some.injEq, Prod.mk.injEq] at hn; obtain ⟨rfl, rfl⟩ := hn; exact h
      | pan v => simp only [Option.some.injEq, Prod.mk.injEq] at hn; obtain ⟨rfl, rfl⟩ := hn; exact h
  · intro h
    cases hs : stepI (acall M) i s with
    | none => rw [hs] at h; exact h.elim
    | some q =>
      obtain ⟨e1, s1⟩ := q
      rw [hs] at h
      obtain ⟨n, hn⟩ := (stepI_acall M).1 hs
      cases e1 with
      | norm =>
        obtain ⟨e, s', ⟨m, hm⟩, h'⟩ := h
        refine ⟨e, s', ⟨max n m, ?_⟩, h'⟩
        unfold runOps
        rw [stepI_mono (callN_le M (Nat.le_max_left n m)) hn]
        exact runOps_mono (callN_le M (Nat.le_max_right n m)) hm
      | exit id => exact ⟨.exit id, s1, ⟨n, by unfold runOps; rw [hn]⟩, h⟩
      | ret => exact ⟨.ret, s1, ⟨n, by unfold runOps; rw [hn]⟩, h⟩
      | pan v => exact ⟨.pan v, s1, ⟨n, by unfold runOps; rw [hn]⟩, h⟩

theorem runS_norm {ops : List AI} : RunS M (some (.norm, s)) ops k Q ↔ RunO M ops k s Q := Iff.rfl
theorem runS_pan {ops : List AI} {v : V} : RunS M (some (.pan v, s)) ops k Q ↔ Q (.pan v) s := run_pan
theorem runS_none {ops : List AI} : RunS M none ops k Q ↔ False := Iff.rfl
theorem runS_ite {ops : List AI} {c : Prop} [Decidable c] {x : Option (Ex × St)} : RunS M (if c then x else none) ops k Q ↔ c ∧ RunS M x ops k Q := by
  split
  · rename_i h; exact ⟨fun x => ⟨h, x⟩, fun x => x.2⟩
  · rename_i h; exact ⟨fun x => x.elim, fun x => (h x.1).elim⟩

/-- Regions that must not panic. -/
def RunN (ops : List AI) (k : List It) (s : St) (Q : Ex → St → Prop) : Prop := ∃ s', EvOps M ops s .norm s' ∧ Run M k .norm s' Q

def RunSN (r : Option (Ex × St)) (ops : List AI) (k : List It) (Q : Ex → St → Prop) : Prop :=
  match r with
  | some (.norm, s) => RunN (M := M) ops k s Q
  | _ => False

theorem run_dreg {ops : List AI} : Run M (.c (.dreg ops) :: k) .norm s Q ↔ RunN (M := M) ops k s Q := by
  rw [run_c]
  constructor
  · rintro ⟨e, s', ⟨n, hn⟩, h⟩
    unfold evC at hn
    cases hs : runOps (callN M n) ops s with
    | none => rw [hs] at hn; cases hn
    | some q =>
      obtain ⟨e1, s1⟩ := q
      rw [hs] at hn
      cases e1 with
      | norm => simp only [Option.some.injEq, Prod.mk.injEq] at hn; obtain ⟨rfl, rfl⟩ := hn; exact ⟨_, ⟨n, hs⟩, h⟩
      | _ => cases hn
  · rintro ⟨s', ⟨n, hn⟩, h⟩
    exact ⟨.norm, s', ⟨n, by unfold evC; rw [hn]⟩, h⟩

theorem runN_nil : RunN (M := M) [] k s Q ↔ Run M k .norm s Q := by
  constructor
  · rintro ⟨s', ⟨n, hn⟩, h⟩
    simp only [runOps, Option.some.injEq, Prod.mk.injEq] at hn
    obtain ⟨_, rfl⟩ := hn
    exact h
  · intro h; exact ⟨s, ⟨0, rfl⟩, h⟩

theorem runN_cons {i : AI} {ops : List AI} : RunN (M := M) (i :: ops) k s Q ↔ RunSN (M := M) (stepI (acall M) i s) ops k Q := by
  constructor
  · rintro ⟨s', ⟨n, hn⟩, h⟩
    unfold runOps at hn
    cases hs : stepI (callN M n) i s with
    | none => rw [hs] at hn; cases hn
    | some q =>
      obtain ⟨e1, s1⟩ := q
      rw [hs] at hn
      rw [(stepI_acall M).2 ⟨n, hs⟩]
      cases e1 with
      | norm => exact ⟨s', ⟨n, hn⟩, h⟩
      | _ => simp only [Option.some.injEq, Prod.mk.injEq] at hn; cases hn.1
  · intro h
    cases hs : stepI (acall M) i s with
    | none => rw [hs] at h; exact h.elim
    | some q =>
      rw [hs] at h
      obtain ⟨e1, s1⟩ := q
      obtain ⟨n, hn⟩ := (stepI_acall M).1 hs
      cases e1 with
      | norm =>
        obtain ⟨s', ⟨m, hm⟩, h'⟩ := h
        refine ⟨s', ⟨max n m, ?_⟩, h'⟩
        unfold runOps
        rw [stepI_mono (callN_le M (Nat.le_max_left n m)) hn]
        exact runOps_mono (callN_le M (Nat.le_max_right n m)) hm
      | _ => exact h.elim

theorem runSN_norm {ops : List AI} : RunSN (M := M) (some (.norm, s)) ops k Q ↔ RunN (M := M) ops k s Q := Iff.rfl
theorem runSN_pan {ops : List AI} {v : V} : RunSN (M := M) (some (.pan v, s)) ops k Q ↔ False := Iff.rfl
theorem runSN_none {ops : List AI} : RunSN (M := M) none ops k Q ↔ False := Iff.rfl
theorem runSN_ite {ops : List AI} {c : Prop} [Decidable c] {x : Option (Ex × St)} : RunSN (M := M) (if c then x else none) ops k Q ↔ c ∧ RunSN (M := M) x ops k Q := by
  split
  · rename_i h; exact ⟨fun x => ⟨h, x⟩, fun x => x.2⟩
  · rename_i h; exact ⟨fun x => x.elim, fun x => (h x.1).elim⟩
theorem runSN_split {ops : List AI} {c : Prop} [Decidable c] {x y : Option (Ex × St)} : RunSN (M := M) (if c then x else y) ops k Q ↔ (if c then RunSN (M := M) x ops k Q else RunSN (M := M) y ops k Q) := by split <;> exact Iff.rfl

theorem Run.mono {k : List It} {Q Q' : Ex → St → Prop} (hq : ∀ e s, Q e s → Q' e s) : ∀ {e : Ex} {s : St}, Run M k e s Q → Run M k e s Q' := by
  induction k with
  | nil => intro e s h; exact hq _ _ h
  | cons i k ih =>
    intro e s h
    cases i with
    | c a => cases e with
      | norm => obtain ⟨e, s', h1, h2⟩ := h; exact ⟨e, s', h1, ih h2⟩
      | _ => exact ih h
    | lp a => cases e with
      | norm => obtain ⟨e, s', h1, h2⟩ := h; exact ⟨e, s', h1, ih h2⟩
      | _ => exact ih h
    | endB id => cases e with
      | norm => exact ih h
      | exit id' =>
        rw [run_exit_endB] at h ⊢
        split
        · rename_i hid; rw [if_pos hid] at h; exact ih h
        · rename_i hid; rw [if_neg hid] at h; exact ih h
      | ret => exact ih h
      | pan v => exact ih h

/-- A function's value, out of its body's run. -/
theorem acall_of_run {f : FuncId} {af : AF} {args : List V} {h : Heap} {r : Rt} (he : M.ext f args h = none) (hf : M.ft f = some af)
    (H : Run M [.c af.body] .norm ⟨frame af args, h⟩ (fun e s => finish af h.length (some (e, s)) = some r)) : acall M f args h = some r := by
  obtain ⟨e, s', ⟨n, hn⟩, h'⟩ := H
  refine (acall_iff M).2 ⟨n + 1, ?_⟩
  simp only [callN, he, hf]
  rw [hn]
  exact h'

end
end Go.Am
