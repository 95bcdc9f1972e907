/- A function's end, told by its results alone; more rules by which runs are reckoned. -/
import Derived.Test.YtbnjembcmddjoaaAm3
set_option linter.unusedSimpArgs false
namespace Go.Am

def finR (res : List ARes) (n0 : Nat) : Ex → St → Option Rt
  | .norm, s | .ret, s => match resL s res with
    | some [v] => some (.ret v (s.h.take n0))
    | some vs => some (.ret (.tup vs) (s.h.take n0))
    | none => none
  | .pan v, s => if v.data then some (.pan v (s.h.take n0)) else none
  | _, _ => none

def FinQ (res : List ARes) (n0 : Nat) (r : Rt) (e : Ex) (s : St) : Prop := finR res n0 e s = some r

section
variable {M : Mach} {f : FuncId} {args : List V} {h : Heap} {r : Rt} {nt : Nat} {body : AC} {res : List ARes}

theorem finish_finR (e : Ex) (s : St) : finish ⟨nt, body, res⟩ h.length (some (e, s)) = finR res h.length e s := by
  cases e <;> rfl

theorem acall_fn {af : AF} (he : M.ext f args h = none) (hf : M.ft f = some af) (haf : af = ⟨nt, body, res⟩)
    (H : Run M [.c body] .norm ⟨args ++ List.replicate (nt - args.length) .undef, h⟩ (FinQ res h.length r)) : acall M f args h = some r := by
  subst haf
  refine acall_of_run he hf ?_
  refine Run.mono (fun e s hq => ?_) H
  rw [finish_finR]
  exact hq

theorem finQ_ret1 {a : ARes} {n0 : Nat} {s : St} {v : V} {h' : Heap} : FinQ [a] n0 (.ret v h') .ret s ↔ resV s a = some v ∧ s.h.take n0 = h' := by
  unfold FinQ finR
  have e : resL s [a] = (resV s a).map (fun v => [v]) := by
    simp only [resL]
    cases resV s a <;> rfl
  simp only [e]
  cases resV s a <;> simp
theorem finQ_ret2 {a b : ARes} {l : List ARes} {n0 : Nat} {s : St} {vs : List V} {h' : Heap} : FinQ (a :: b :: l) n0 (.ret (.tup vs) h') .ret s ↔ resL s (a :: b :: l) = some vs ∧ s.h.take n0 = h' := by
  unfold FinQ finR
  simp only
  cases hx : resL s (a :: b :: l) with
  | none => simp
  | some ws =>
    have : ∃ x y zs, ws = x :: y :: zs := by
      simp only [resL] at hx
      split at hx
      · rename_i v vs' _ h2
        split at h2
        · simp only [Option.some.injEq] at h2 hx
          subst h2; subst hx
          exact ⟨_, _, _, rfl⟩
        · cases h2
      · cases hx
    obtain ⟨x, y, zs, rfl⟩ := this
    simp
theorem finQ_ret0 {n0 : Nat} {s : St} {vs : List V} {h' : Heap} : FinQ [] n0 (.ret (.tup vs) h') .ret s ↔ vs = [] ∧ s.h.take n0 = h' := by
  unfold FinQ finR resL
  simp [eq_comm]
theorem finQ_norm {n0 : Nat} {s : St} : FinQ res n0 r .norm s ↔ FinQ res n0 r .ret s := Iff.rfl
theorem finQ_pan {n0 : Nat} {s : St} {v : V} : FinQ res n0 r (.pan v) s ↔ v.data = true ∧ r = .pan v (s.h.take n0) := by
  unfold FinQ finR
  by_cases hv : v.data = true
  · simp only [hv, if_true, Option.some.injEq, true_and]; exact eq_comm
  · simp only [if_neg hv, hv]; simp
theorem resL_nil {s : St} : resL s [] = some [] := rfl
theorem resL_cons {s : St} {a : ARes} {l : List ARes} : resL s (a :: l) = match resV s a, resL s l with | some v, some vs => some (v :: vs) | _, _ => none := rfl
end

theorem B_nil : B [] = [] := rfl
theorem B_length (s : List UInt8) : (B s).length = s.length := by simp [B]
theorem B_append (s t : List UInt8) : B s ++ B t = B (s ++ t) := by simp [B]
theorem B_all (s : List UInt8) : (B s).all isU8 = true := by simp [B, isU8]
theorem byteOf_u8 (b : UInt8) : byteOf (.int .u8 b.toNat) = b := by
  show UInt8.ofNat (Int.toNat (b.toNat : Int)) = b
  rw [Int.toNat_natCast]
  exact UInt8.ofNat_toNat
theorem B_map (s : List UInt8) : (B s).map byteOf = s := by
  induction s with
  | nil => rfl
  | cons b s ih =>
    show byteOf _ :: (B s).map byteOf = _
    rw [ih, byteOf_u8]
theorem B_take (s : List UInt8) (n : Nat) : (B s).take n = B (s.take n) := by simp [B, List.map_take]
theorem B_drop (s : List UInt8) (n : Nat) : (B s).drop n = B (s.drop n) := by simp [B, List.map_drop]
theorem B_nth (s : List UInt8) (i : Nat) (h : i < s.length) : nth (B s) i = .int .u8 (s[i]).toNat := nth_map _ s i h
theorem B_cons (b : UInt8) (s : List UInt8) : B (b :: s) = .int .u8 b.toNat :: B s := rfl
theorem upd_B (s : List UInt8) (i : Nat) (b : UInt8) : upd (B s) i (.int .u8 b.toNat) = B (s.set i b) := by
  induction s generalizing i with
  | nil => rfl
  | cons x s ih => cases i with
    | zero => rfl
    | succ i => show _ :: upd (B s) i _ = _; rw [ih]; rfl

attribute [go_sem] finQ_ret1 finQ_ret2 finQ_ret0 finQ_norm finQ_pan resL_nil resL_cons resV List.take_length B_length B_all B_map B_take B_drop B_append

end Go.Am
