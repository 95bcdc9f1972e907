/- The law FrameLong on the machine. -/
import Derived.Test.YtbnjembcmddjoaaE27
set_option linter.unusedSimpArgs false
namespace Go.Am
open Go Go.Pu

theorem zeros (n : Nat) : ∃ Z : List UInt8, Z.length = n ∧ List.replicate n (V.int .u8 0) = B Z :=
  ⟨List.replicate n 0, by simp, by simp [B]⟩

theorem enc_max : (encN (2 * 1048576)).length = 4 := by
  rw [encN_big (by omega), encN_big (by omega), encN_big (by omega), encN_small (by omega)]
  rfl
theorem frame_max {Z : List UInt8} (h : Z.length = 1048576) : (frameOf Z).length = 1048584 := by
  have e := frameOf_length Z
  rw [h, enc_max] at e
  exact e
theorem frame_one : (frameOf [1]).length = 6 := by
  have e := frameOf_length [1]
  rw [e]
  have : encN (2 * [(1 : UInt8)].length) = encN 2 := rfl
  rw [this, encN_small (by omega)]
  rfl

theorem law_long (m : Nat) (hm : m ≤ 255) : acall mach n_billinglaw08_FrameLong [.int .u8 m] [] = some (.ret (.bool true) []) := by
  refine acall_fn rfl (af := a_billinglaw08_FrameLong) rfl rfl ?_
  obtain ⟨Z, hZ, hz⟩ := zeros (1048576 + m)
  obtain ⟨n, hn⟩ : ∃ n, n = 1048576 + m := ⟨_, rfl⟩
  rw [← hn] at hZ hz
  have wc : IntKind.wrap .i64 (m : Int) = (m : Int) := wrap_i64 (by omega)
  have w : IntKind.wrap .i64 (1048576 + (m : Int)) = (n : Int) := by rw [wrap_i64 (by omega)]; omega
  have e1 := fun h => e_Wrap Z h (by omega)
  have f1 := frame_one
  have fz := frameOf_length Z
  have fe := encN_len10 (u := 2 * Z.length) (by omega)
  have e2 : ∀ h, acall mach n_frame_Join [.sl false 1 [.sl false 1 [.int .u8 1], .sl false 1 (B Z)]] h = some (.ret (joinV [] [[1], Z]) h) := fun h =>
    e_Join [[1], Z] h (by simp) (by simp only [joinF, List.length_append, List.length_nil]; omega)
  by_cases h0 : m = 0
  · have hZ' : Z.length = 1048576 := by omega
    have fm := frame_max hZ'
    have hl : Z.length ≤ 1048576 := by omega
    have ej : joinV [] [[1], Z] = .tup [.sl true 1 (B (frameOf [1] ++ frameOf Z)), .int .i64 0] := by
      unfold joinV
      rw [if_pos (by simp [hl])]
      simp [joinF]
    rw [ej] at e2
    simp only [wrapV, if_pos hl] at e1
    have fs : (frameOf [1] ++ frameOf Z).length = 1048590 := by rw [List.length_append, f1, fm]
    generalize frameOf [1] ++ frameOf Z = X at *
    generalize frameOf Z = Y at *
    subst h0
    have q1 : (n : Int) ≤ 281474976710656 := by omega
    have q2 : (n : Int) ≤ 9223372036854775807 := by omega
    simp at w wc
    simp [List.replicate, go_sem, w, wc, hz, e1, e2, fm, fs, q1, q2, e_alive08]
  · have hl : ¬ Z.length ≤ 1048576 := by omega
    have ej : joinV [] [[1], Z] = .tup [.sl true 1 [], .int .i64 5] := by
      unfold joinV
      rw [if_neg (by simp; omega)]
    rw [ej] at e2
    simp only [wrapV, if_neg hl] at e1
    have q1 : (n : Int) ≤ 281474976710656 := by omega
    have q2 : (n : Int) ≤ 9223372036854775807 := by omega
    have q3 : 0 < m := by omega
    have w0 : IntKind.wrap .i64 0 = 0 := by decide
    simp [List.replicate, go_sem, w, wc, w0, hz, e1, e2, q1, q2, q3, e_alive08]

theorem all_frameLong (us : List V) (h : TyArgs Go.Proofs.Try.prog Go.Proofs.Try.f12.params.toList us) : acall mach 12 us [] = some (.ret (.bool true) []) := by
  obtain ⟨u, rfl, h1⟩ := TyArgs.one h
  obtain ⟨n, rfl, hn⟩ := arg_int u5 h1
  have hb : 0 ≤ n ∧ n ≤ 255 := by
    simp [Lit.wf, IntKind.min, IntKind.max, IntKind.signed, IntKind.bits] at hn
    omega
  obtain ⟨c, rfl⟩ := Int.eq_ofNat_of_zero_le hb.1
  exact law_long c (by omega)
end Go.Am
