/- Equations of wrapping. -/
import Derived.Test.YtbnjembcmddjoaaE21
set_option linter.unusedSimpArgs false
namespace Go.Am
open Go Go.Pu

theorem e_copied (b : List UInt8) (i j : Nat) (h : Heap) (hb : b.length ≤ 100000000) (hi : i ≤ j) (hj : j ≤ b.length) : acall mach n_frame_copied [.sl false 1 (B b), .int .i64 i, .int .i64 j] h = some (.ret (.sl true 1 (B ((b.drop i).take (j - i)))) h) := by
  refine acall_fn rfl (af := a_frame_copied) rfl rfl ?_
  have w : IntKind.wrap .i64 ((j : Int) - (i : Int)) = ((j - i : Nat) : Int) := by rw [wrap_i64 (by omega)]; omega
  simp [List.replicate, go_sem, w, hi, hj]
  refine ⟨by omega, ?_⟩
  rw [List.drop_take, List.take_take, Nat.min_self]

theorem be4_B (n : Nat) : B (be4 n) = [.int .u8 ((n / 16777216 % 256 : Nat) : Int), .int .u8 ((n / 65536 % 256 : Nat) : Int), .int .u8 ((n / 256 % 256 : Nat) : Int), .int .u8 ((n % 256 : Nat) : Int)] := by
  simp [be4, B]

theorem shr24 (n : Nat) : (Int.fdiv (n : Int) 16777216) = ((n / 16777216 : Nat) : Int) := fdiv_nat n 16777216
theorem shr16 (n : Nat) : (Int.fdiv (n : Int) 65536) = ((n / 65536 : Nat) : Int) := fdiv_nat n 65536
theorem shr8 (n : Nat) : (Int.fdiv (n : Int) 256) = ((n / 256 : Nat) : Int) := fdiv_nat n 256

theorem e_wrap (out p : List UInt8) (h : Heap) (ho : out.length ≤ 10000000) (hp : p.length ≤ 10000000) : acall mach n_frame_wrap [.sl true 1 (B out), .sl false 1 (B p)] h = some (.ret (.sl true 1 (B (out ++ frameOf p))) h) := by
  refine acall_fn rfl (af := a_frame_wrap) rfl rfl ?_
  have e1 := fun h => e_Sum p h (by omega)
  have e2 : ∀ h, acall mach n_codec_PutNumber [.sl false 1 [], .int .i64 p.length] h = some (.ret (.sl true 1 (B (encN (2 * p.length)))) h) := fun h => by
    have := e_PutNumber [] (p.length : Int) h (by omega) (by omega) (by simp)
    rw [zz_nat] at this
    exact this
  have l1 := encN_len10 (u := 2 * p.length) (by omega)
  have hs := sum_lt p
  have hf : out ++ frameOf p = out ++ encN (2 * p.length) ++ be4 (sum p) ++ p := by simp [frameOf]
  rw [hf]
  generalize encN (2 * p.length) = E at *
  generalize sum p = S at *
  simp [List.replicate, go_sem, e1, e2]
  refine ⟨by omega, by omega, by omega, ?_⟩
  rw [shr24, shr16, shr8, wrap_u8, wrap_u8, wrap_u8, wrap_u8]
  simp [B, be4]

/-- What wrapping a payload gives. -/
def wrapV (p : List UInt8) : V := if p.length ≤ 1048576 then .tup [.sl true 1 (B (frameOf p)), .int .i64 0] else .tup [.sl true 1 [], .int .i64 5]

theorem e_Wrap (p : List UInt8) (h : Heap) (hp : p.length ≤ 10000000) : acall mach n_frame_Wrap [.sl false 1 (B p)] h = some (.ret (wrapV p) h) := by
  refine acall_fn rfl (af := a_frame_Wrap) rfl rfl ?_
  unfold wrapV
  by_cases q : p.length ≤ 1048576
  · have q' : ¬ (1048576 : Int) < p.length := by omega
    have w : IntKind.wrap .i64 ((p.length : Int) + 14) = (p.length : Int) + 14 := wrap_i64 (by omega)
    have e : ∀ h, acall mach n_frame_wrap [.sl true 1 [], .sl false 1 (B p)] h = some (.ret (.sl true 1 (B (frameOf p))) h) := fun h => e_wrap [] p h (by simp) hp
    simp [List.replicate, go_sem, q, q', w, e]
    omega
  · have q' : (1048576 : Int) < p.length := by omega
    simp [List.replicate, go_sem, q, q']
end Go.Am
