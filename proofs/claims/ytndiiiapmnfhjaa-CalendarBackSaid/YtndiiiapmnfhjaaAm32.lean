/- The rest of a run, reckoned by the kernel where nothing is open in it. -/
import Derived.Test.YtndiiiapmnfhjaaAm31
set_option linter.unusedSimpArgs false
namespace Go.Am

def runIts (c : CallF) (n : Nat) : List It → Ex → St → Option (Ex × St)
  | [], e, s => some (e, s)
  | .c a :: k, .norm, s => match evC c n a s with
    | some (e, s') => runIts c n k e s'
    | none => none
  | .lp a :: k, .norm, s => match evC c n (.loop a) s with
    | some (e, s') => runIts c n k e s'
    | none => none
  | .endB _ :: k, .norm, s => runIts c n k .norm s
  | .endB id :: k, .exit id', s => if id' = id then runIts c n k .norm s else runIts c n k (.exit id') s
  | .endB _ :: k, .ret, s => runIts c n k .ret s
  | .endB _ :: k, .pan v, s => runIts c n k (.pan v) s
  | .c _ :: k, e, s => runIts c n k e s
  | .lp _ :: k, e, s => runIts c n k e s

theorem run_of_its {M : Mach} {n : Nat} {Q : Ex → St → Prop} {e' : Ex} {s' : St} (hq : Q e' s') : ∀ (k : List It) (e : Ex) (s : St), runIts (callN M n) n k e s = some (e', s') → Run M k e s Q
  | [], e, s, h => by
    simp only [runIts, Option.some.injEq, Prod.mk.injEq] at h
    obtain ⟨rfl, rfl⟩ := h
    exact hq
  | .c a :: k, .norm, s, h => by
    simp only [runIts] at h
    split at h
    · rename_i e1 s1 h1
      exact ⟨e1, s1, ⟨n, h1⟩, run_of_its hq k e1 s1 h⟩
    · cases h
  | .lp a :: k, .norm, s, h => by
    simp only [runIts] at h
    split at h
    · rename_i e1 s1 h1
      exact ⟨e1, s1, ⟨n, h1⟩, run_of_its hq k e1 s1 h⟩
    · cases h
  | .endB id :: k, .norm, s, h => run_of_its hq k .norm s h
  | .endB id :: k, .exit id', s, h => by
    simp only [runIts] at h
    rw [run_exit_endB]
    split at h
    · rename_i hid; rw [if_pos hid]; exact run_of_its hq k _ _ h
    · rename_i hid; rw [if_neg hid]; exact run_of_its hq k _ _ h
  | .endB id :: k, .ret, s, h => run_of_its hq k .ret s h
  | .endB id :: k, .pan v, s, h => run_of_its hq k (.pan v) s h
  | .c a :: k, .exit id, s, h => run_of_its hq k (.exit id) s h
  | .c a :: k, .ret, s, h => run_of_its hq k .ret s h
  | .c a :: k, .pan v, s, h => run_of_its hq k (.pan v) s h
  | .lp a :: k, .exit id, s, h => run_of_its hq k (.exit id) s h
  | .lp a :: k, .ret, s, h => run_of_its hq k .ret s h
  | .lp a :: k, .pan v, s, h => run_of_its hq k (.pan v) s h

def runFin (c : CallF) (n : Nat) (k : List It) (e : Ex) (s : St) (res : List ARes) (n0 : Nat) : Option Rt :=
  match runIts c n k e s with
  | some (e, s) => finR res n0 e s
  | none => none

/-- The rest of the run, by reckoning. -/
theorem run_closed {M : Mach} {k : List It} {e : Ex} {s : St} {res : List ARes} {n0 : Nat} {r : Rt} (n : Nat) (h : runFin (callN M n) n k e s res n0 = some r) : Run M k e s (FinQ res n0 r) := by
  unfold runFin at h
  split at h
  · rename_i e1 s1 h1
    exact run_of_its (e' := e1) (s' := s1) h k e s h1
  · cases h
end Go.Am
