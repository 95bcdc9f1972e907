/- Unwrapping, and the reference's wrapping and unwrapping. -/
import Derived.Test.YtbnjembcmddjoaaE23
set_option linter.unusedSimpArgs false
namespace Go.Am
open Go Go.Pu

/-- What unwrapping gives. -/
def frV : Fr → V
  | .bad e => .tup [.sl true 1 [], .sl true 1 [], .int .i64 e]
  | .ok p rest => .tup [.sl true 1 (B p), .sl true 1 (B rest), .int .i64 0]

theorem unfr_bad {b : List UInt8} {e : Int} (h : unfr b = .bad e) : e ≠ 0 := by
  unfold unfr at h
  split at h
  · rename_i e' hd
    simp only [Fr.bad.injEq] at h
    have := dec_bad b 0 0 e' hd
    omega
  · split at h
    · simp only [Fr.bad.injEq] at h; omega
    split at h
    · simp only [Fr.bad.injEq] at h; omega
    split at h
    · simp only [Fr.bad.injEq] at h; omega
    split at h
    · simp only [Fr.bad.injEq] at h; omega
    · cases h

theorem frame_cut {b p rest : List UInt8} (h : unfr b = .ok p rest) : (b.length - rest.length - p.length ≤ b.length - rest.length) ∧ b.length - rest.length ≤ b.length ∧ (b.drop (b.length - rest.length - p.length)).take (b.length - rest.length - (b.length - rest.length - p.length)) = p ∧ (b.drop (b.length - rest.length)).take (b.length - (b.length - rest.length)) = rest ∧ rest.length + p.length ≤ b.length := by
  obtain ⟨_, rfl⟩ := unfr_ok h
  have hl := frameOf_length p
  have e1 : (frameOf p ++ rest).length - rest.length = (frameOf p).length := by simp
  rw [e1]
  have e2 : (frameOf p).length - p.length = (encN (2 * p.length)).length + 4 := by omega
  have e3 : (frameOf p).length - ((encN (2 * p.length)).length + 4) = p.length := by omega
  rw [e2, e3]
  refine ⟨by omega, by simp, ?_, ?_, by simp only [List.length_append]; omega⟩
  · have : frameOf p ++ rest = (encN (2 * p.length) ++ be4 (sum p)) ++ (p ++ rest) := by simp [frameOf]
    rw [this, List.drop_left' (by simp [be4])]
    simp
  · simp

theorem e_Unwrap (b : List UInt8) (h : Heap) (hb : b.length ≤ 10000000) : acall mach n_frame_Unwrap [.sl false 1 (B b)] h = some (.ret (frV (unfr b)) h) := by
  refine acall_fn rfl (af := a_frame_Unwrap) rfl rfl ?_
  have e := fun h => e_locate b h hb
  cases hf : unfr b with
  | bad er =>
    have n0 := unfr_bad hf
    rw [hf] at e
    simp [List.replicate, go_sem, e, locV, frV, nt' n0, n0]
  | ok p rest =>
    rw [hf] at e
    obtain ⟨h1, h2, h3, h4, h5⟩ := frame_cut hf
    have c1 := fun h => e_copied b (b.length - rest.length - p.length) (b.length - rest.length) h (by omega) h1 h2
    have c2 := fun h => e_copied b (b.length - rest.length) b.length h (by omega) h2 (Nat.le_refl _)
    rw [h3] at c1
    rw [h4] at c2
    simp only [locV] at e
    generalize b.length - rest.length - p.length = i at *
    generalize b.length - rest.length = j at *
    simp [List.replicate, go_sem, e, frV, c1, c2]

theorem e_rWrap (p : List UInt8) (h : Heap) (hp : p.length ≤ 10000000) : acall mach n_billingref08_Wrap [.sl false 1 (B p)] h = some (.ret (wrapV p) h) := by
  refine acall_fn rfl (af := a_billingref08_Wrap) rfl rfl ?_
  unfold wrapV
  by_cases q : p.length ≤ 1048576
  · have q' : ¬ (1048576 : Int) < p.length := by omega
    have e1 := fun h => e_rSum p h (by omega)
    have e2 : ∀ h, acall mach n_billingref07_PutNumber [.sl false 1 [], .int .i64 p.length] h = some (.ret (.sl true 1 (B (encN (2 * p.length)))) h) := fun h => by
      have := e_rPutNumber [] (p.length : Int) h (by omega) (by omega) (by simp)
      rw [zz_nat] at this
      exact this
    have l1 := encN_len10 (u := 2 * p.length) (by omega)
    have hs := sum_lt p
    have hf : frameOf p = encN (2 * p.length) ++ be4 (sum p) ++ p := by simp [frameOf]
    rw [hf]
    generalize encN (2 * p.length) = E at *
    generalize sum p = S at *
    simp [List.replicate, go_sem, e1, e2, q, q']
    refine ⟨by omega, by omega, ?_⟩
    rw [shr24, shr16, shr8, wrap_u8, wrap_u8, wrap_u8, wrap_u8]
    simp [B, be4]
  · have q' : (1048576 : Int) < p.length := by omega
    simp [List.replicate, go_sem, q, q']

theorem add4 (a b c d : Nat) (ha : a < 256) (hb : b < 256) (hc : c < 256) (hd : d < 256) :
    IntKind.wrap .u32 (IntKind.wrap .u32 (IntKind.wrap .u32 ((a : Int) * 16777216 + (b : Int) * 65536) + (c : Int) * 256) + (d : Int)) = ((a * 16777216 + b * 65536 + c * 256 + d : Nat) : Int) := by
  have e1 : (a : Int) * 16777216 + (b : Int) * 65536 = ((a * 16777216 + b * 65536 : Nat) : Int) := by omega
  rw [e1, wrap_u32, Nat.mod_eq_of_lt (by omega)]
  have e2 : ((a * 16777216 + b * 65536 : Nat) : Int) + (c : Int) * 256 = ((a * 16777216 + b * 65536 + c * 256 : Nat) : Int) := by omega
  rw [e2, wrap_u32, Nat.mod_eq_of_lt (by omega)]
  have e3 := (Int.natCast_add (a * 16777216 + b * 65536 + c * 256) d).symm
  rw [e3, wrap_u32, Nat.mod_eq_of_lt (by omega)]

/-- What the reference's unwrapping gives (the payload is shared there). -/
def rfrV : Fr → V
  | .bad e => .tup [.sl true 1 [], .sl true 1 [], .int .i64 e]
  | .ok p rest => .tup [.sl false 1 (B p), .sl true 1 (B rest), .int .i64 0]

set_option maxRecDepth 8000 in
theorem e_rUnwrap (b : List UInt8) (h : Heap) (hb : b.length ≤ 10000000) : acall mach n_billingref08_Unwrap [.sl false 1 (B b)] h = some (.ret (rfrV (unfr b)) h) := by
  refine acall_fn rfl (af := a_billingref08_Unwrap) rfl rfl ?_
  have e1 := fun h => e_rNumber b h (by omega)
  unfold unfr
  cases hd : dec 0 0 b with
  | bad e =>
    have he := dec_bad b 0 0 e hd
    rw [hd] at e1
    have ne0 : ¬ e = 0 := by omega
    simp [List.replicate, go_sem, e1, numV, nv, nr, ne, rfrV, nt' ne0]
  | ok u r =>
    have hdr := dec_rest hd
    have hu := (encN_dec hd).1
    rw [hd] at e1
    simp only
    by_cases u1 : u % 2 = 1
    · have z := unzz_odd u1
      rw [if_pos u1]
      simp [List.replicate, go_sem, e1, numV, nv, nr, ne, rfrV, z]
    rw [if_neg u1]
    have z := unzz_even u1
    by_cases u2 : 1048576 < u / 2
    · rw [if_pos u2]
      have z1 : ¬ (unzz u < 0) := by omega
      have z2 : 1048576 < unzz u := by omega
      simp [List.replicate, go_sem, e1, numV, nv, nr, ne, rfrV, z1, z2]
    rw [if_neg u2]
    generalize hn : u / 2 = n at *
    have z1 : ¬ ((n : Int) < 0) := by omega
    have z2 : ¬ (1048576 < (n : Int)) := by omega
    have w1 : IntKind.wrap .i64 (4 + (n : Int)) = ((4 + n : Nat) : Int) := by rw [wrap_i64 (by omega)]; omega
    by_cases u3 : r.length < 4 + n
    · rw [if_pos u3]
      have z4 : (r.length : Int) < 4 + (n : Int) := by omega
      simp [List.replicate, go_sem, e1, numV, nv, nr, ne, rfrV, z, z1, z2, z4, w1]
    rw [if_neg u3]
    have z4 : ¬ ((r.length : Int) < 4 + (n : Int)) := by omega
    obtain ⟨x1, x2, x3, x4, hnum, g0, g1, g2, g3⟩ : ∃ x1 x2 x3 x4 : UInt8, num4 r = x1.toNat * 16777216 + x2.toNat * 65536 + x3.toNat * 256 + x4.toNat ∧ nth (B r) 0 = .int .u8 x1.toNat ∧ nth (B r) 1 = .int .u8 x2.toNat ∧ nth (B r) 2 = .int .u8 x3.toNat ∧ nth (B r) 3 = .int .u8 x4.toNat := by
      clear hdr e1 hd
      match r, u3 with
      | x1 :: x2 :: x3 :: x4 :: r', u3 => exact ⟨x1, x2, x3, x4, rfl, rfl, rfl, rfl, rfl⟩
      | [], u3 => simp at u3
      | [x], u3 => simp at u3; omega
      | [x, y], u3 => simp at u3; omega
      | [x, y, w], u3 => simp at u3; omega
    rw [hnum]
    have o := add4 _ _ _ _ x1.toNat_lt x2.toNat_lt x3.toNat_lt x4.toNat_lt
    have k1 := u8_u32 x1.toNat_lt
    have k2 := u8_u32 x2.toNat_lt
    have k3 := u8_u32 x3.toNat_lt
    have k4 := u8_u32 x4.toNat_lt
    have s1 := sh24 x1.toNat_lt
    have s2 := sh16 x2.toNat_lt
    have s3 := sh8 x3.toNat_lt
    have q0 : 0 < r.length := by omega
    have q1 : 1 < r.length := by omega
    have q2 : 2 < r.length := by omega
    have q3 : 3 < r.length := by omega
    have q4 : 4 + n ≤ r.length := by omega
    have t0 : (r.take (4 + n)).drop 4 = (r.drop 4).take n := by rw [List.drop_take, Nat.add_sub_cancel_left]
    have es : ∀ h, acall mach n_billingref08_Sum [.sl false 1 (B ((r.drop 4).take n))] h = _ := fun h => e_rSum _ h (by simp; omega)
    have ly : ((r.drop 4).take n).length ≤ 10000000 := by simp; omega
    have lz : (r.drop (4 + n)).length ≤ 10000000 := by simp; omega
    generalize (r.drop 4).take n = Y at *
    generalize hZ : r.drop (4 + n) = Z at *
    generalize hP : 4 + n = P at *
    generalize x1.toNat * 16777216 + x2.toNat * 65536 + x3.toNat * 256 + x4.toNat = N at *
    have z5 : ¬ ((r.length : Int) < (P : Int)) := by omega
    have z6 : 4 ≤ P := by omega
    by_cases u4 : sum Y = N
    · have nu4 : ¬ (sum Y ≠ N) := by omega
      rw [if_neg nu4]
      simp [List.replicate, go_sem, e1, numV, nv, nr, ne, z, z1, z2, z4, z5, z6, w1, g0, g1, g2, g3, o, k1, k2, k3, k4, s1, s2, s3, q0, q1, q2, q3, q4, es, t0, u4, hZ, rfrV]
      omega
    · rw [if_pos u4]
      have nu4 : ¬ ((sum Y : Int) = (N : Int)) := by omega
      simp [List.replicate, go_sem, e1, numV, nv, nr, ne, rfrV, z, z1, z2, z4, z5, z6, w1, g0, g1, g2, g3, o, k1, k2, k3, k4, s1, s2, s3, q0, q1, q2, q3, q4, es, t0, nt' nu4]
      omega
end Go.Am
