/- The place of the first frame. -/
import Derived.Test.YtbnjembcmddjoaaE22
set_option linter.unusedSimpArgs false
namespace Go.Am
open Go Go.Pu

theorem or4 (a b c d : Nat) (ha : a < 256) (hb : b < 256) (hc : c < 256) (hd : d < 256) :
    bits .or .u32 (bits .or .u32 (bits .or .u32 ((a * 16777216 : Nat) : Int) ((b * 65536 : Nat) : Int)) ((c * 256 : Nat) : Int)) (d : Int) = ((a * 16777216 + b * 65536 + c * 256 + d : Nat) : Int) := by
  have o1 : (a * 16777216) ||| (b * 65536) = a * 16777216 + b * 65536 := by
    have := or_low (u := b * 65536) (x := a) (k := 24) (by omega)
    rw [Nat.or_comm, this, Nat.add_comm]
  have o2 : (a * 16777216 + b * 65536) ||| (c * 256) = a * 16777216 + b * 65536 + c * 256 := by
    have := or_low (u := c * 256) (x := a * 256 + b) (k := 16) (by omega)
    have e : (a * 256 + b) * 2 ^ 16 = a * 16777216 + b * 65536 := by omega
    rw [e] at this
    rw [Nat.or_comm, this, Nat.add_comm]
  have o3 : (a * 16777216 + b * 65536 + c * 256) ||| d = a * 16777216 + b * 65536 + c * 256 + d := by
    have := or_low (u := d) (x := a * 65536 + b * 256 + c) (k := 8) (by omega)
    have e : (a * 65536 + b * 256 + c) * 2 ^ 8 = a * 16777216 + b * 65536 + c * 256 := by omega
    rw [e] at this
    rw [Nat.or_comm, this, Nat.add_comm]
  rw [bits_or32 _ _ (by omega) (by omega), o1, bits_or32 _ _ (by omega) (by omega), o2, bits_or32 _ _ (by omega) (by omega), o3]

theorem or4' (a b c d : Nat) (ha : a < 256) (hb : b < 256) (hc : c < 256) (hd : d < 256) :
    bits .or .u32 (bits .or .u32 (bits .or .u32 ((a : Int) * 16777216) ((b : Int) * 65536)) ((c : Int) * 256)) (d : Int) = ((a * 16777216 + b * 65536 + c * 256 + d : Nat) : Int) := by
  have ea : (a : Int) * 16777216 = ((a * 16777216 : Nat) : Int) := by omega
  have eb : (b : Int) * 65536 = ((b * 65536 : Nat) : Int) := by omega
  have ec : (c : Int) * 256 = ((c * 256 : Nat) : Int) := by omega
  rw [ea, eb, ec]
  exact or4 a b c d ha hb hc hd

theorem sh24 {x : Nat} (h : x < 256) : IntKind.wrap .u32 ((x : Int) * 16777216) = ((x * 16777216 : Nat) : Int) := by
  have e : (x : Int) * 16777216 = ((x * 16777216 : Nat) : Int) := by omega
  rw [e, wrap_u32, Nat.mod_eq_of_lt (by omega)]
theorem sh16 {x : Nat} (h : x < 256) : IntKind.wrap .u32 ((x : Int) * 65536) = ((x * 65536 : Nat) : Int) := by
  have e : (x : Int) * 65536 = ((x * 65536 : Nat) : Int) := by omega
  rw [e, wrap_u32, Nat.mod_eq_of_lt (by omega)]
theorem sh8 {x : Nat} (h : x < 256) : IntKind.wrap .u32 ((x : Int) * 256) = ((x * 256 : Nat) : Int) := by
  have e : (x : Int) * 256 = ((x * 256 : Nat) : Int) := by omega
  rw [e, wrap_u32, Nat.mod_eq_of_lt (by omega)]

def locV (n : Nat) : Fr → V
  | .bad e => .tup [.int .i64 0, .int .i64 0, .int .i64 e]
  | .ok p rest => .tup [.int .i64 ((n - rest.length - p.length : Nat) : Int), .int .i64 ((n - rest.length : Nat) : Int), .int .i64 0]

theorem head_bad {b : List UInt8} {e : Int} (h : dec 0 0 b = .bad e) : dec 0 0 (b.take 10) = .bad e := by
  rw [(dec_take 9 0 0 b rfl).1, h]
theorem head_ok {b r : List UInt8} {u : Nat} (h : dec 0 0 b = .ok u r) : dec 0 0 (b.take 10) = .ok u (r.take (r.length - (b.length - 10))) ∧ b.length - 10 ≤ r.length ∧ r.length ≤ b.length := by
  have h2 := (dec_take 9 0 0 b rfl)
  rw [h] at h2
  have := dec_rest h
  exact ⟨h2.1, h2.2 u r rfl, by omega⟩

set_option maxRecDepth 8000 in
theorem e_locate (b : List UInt8) (h : Heap) (hb : b.length ≤ 10000000) : acall mach n_frame_locate [.sl false 1 (B b)] h = some (.ret (locV b.length (unfr b)) h) := by
  refine acall_fn rfl (af := a_frame_locate) rfl rfl ?_
  have hmin : (if (10 : Int) < b.length then (10 : Int) else b.length) = ((b.take 10).length : Int) := by simp; split <;> omega
  have hle : (b.take 10).length ≤ b.length := by simp; omega
  have htk : (b.take (b.take 10).length) = b.take 10 := by simp
  have e1 := fun h => e_Number' (b.take 10) h (by simp; omega)
  unfold unfr
  cases hd : dec 0 0 b with
  | bad e =>
    have he := dec_bad b 0 0 e hd
    rw [head_bad hd] at e1
    have ne0 : ¬ e = 0 := by omega
    generalize hc : b.take 10 = c at *
    simp only [List.replicate, go_sem, e1, ints, minL, ev, List.foldl, hmin]
    simp [go_sem, e1, hmin, hle, htk, numV, nv, nr, ne, locV, nt' ne0]
  | ok u r =>
    obtain ⟨h1, h2, h3⟩ := head_ok hd
    have hdr := dec_rest hd
    have hu := (encN_dec hd).1
    rw [h1] at e1
    have hcl : (b.take 10).length = b.length - (b.length - 10) := by simp; omega
    have hml : (r.take (r.length - (b.length - 10))).length = r.length - (b.length - 10) := by simp
    generalize b.take 10 = c at *
    generalize r.take (r.length - (b.length - 10)) = M at *
    have wat : IntKind.wrap .i64 ((c.length : Int) - (M.length : Int)) = ((b.length - r.length : Nat) : Int) := by rw [wrap_i64 (by omega)]; omega
    simp only
    by_cases u1 : u % 2 = 1
    · have z := unzz_odd u1
      rw [if_pos u1]
      simp only [List.replicate, go_sem, e1, ints, minL, ev, List.foldl, hmin]
      simp [go_sem, e1, hmin, hle, htk, numV, nv, nr, ne, locV, z]
    rw [if_neg u1]
    have z := unzz_even u1
    by_cases u2 : 1048576 < u / 2
    · rw [if_pos u2]
      have z1 : ¬ (unzz u < 0) := by omega
      have z2 : 1048576 < unzz u := by omega
      simp only [List.replicate, go_sem, e1, ints, minL, ev, List.foldl, hmin]
      simp [go_sem, e1, hmin, hle, htk, numV, nv, nr, ne, locV, z1, z2]
    rw [if_neg u2]
    generalize hn : u / 2 = n at *
    have z1 : ¬ ((n : Int) < 0) := by omega
    have z2 : ¬ (1048576 < (n : Int)) := by omega
    have w1 : IntKind.wrap .i64 (4 + (n : Int)) = ((4 + n : Nat) : Int) := by rw [wrap_i64 (by omega)]; omega
    have w2 : IntKind.wrap .i64 ((b.length : Int) - ((b.length - r.length : Nat) : Int)) = (r.length : Int) := by rw [wrap_i64 (by omega)]; omega
    by_cases u3 : r.length < 4 + n
    · rw [if_pos u3]
      have z3 : ¬ (4 + (n : Int) ≤ (r.length : Int)) := by omega
      have z4 : (r.length : Int) < 4 + (n : Int) := by omega
      simp only [List.replicate, go_sem, e1, ints, minL, ev, List.foldl, hmin]
      simp [go_sem, e1, hmin, hle, htk, numV, nv, nr, ne, locV, z, z1, z2, z3, z4, wat, w1, w2]
    rw [if_neg u3]
    have hA : b.length - r.length + r.length = b.length := by omega
    have hdA := hdr.2
    generalize b.length - r.length = A at *
    have z3 : 4 + (n : Int) ≤ (r.length : Int) := by omega
    have z4 : ¬ ((r.length : Int) < 4 + (n : Int)) := by omega
    have hsl : (b.drop (A + 4)).take n = (r.drop 4).take n := by rw [← hdA, List.drop_drop]
    have hg : ∀ i (hi : i < r.length), nth (B b) (A + i) = .int .u8 (r[i]).toNat := fun i hi => by
      rw [B_nth b (A + i) (by omega)]
      have : b[A + i]'(by omega) = r[i] := by simp only [← hdA, List.getElem_drop]
      rw [this]
    obtain ⟨x1, x2, x3, x4, hnum, g0, g1, g2, g3⟩ : ∃ x1 x2 x3 x4 : UInt8, num4 r = x1.toNat * 16777216 + x2.toNat * 65536 + x3.toNat * 256 + x4.toNat ∧ nth (B b) A = .int .u8 x1.toNat ∧ nth (B b) (A + 1) = .int .u8 x2.toNat ∧ nth (B b) (A + 2) = .int .u8 x3.toNat ∧ nth (B b) (A + 3) = .int .u8 x4.toNat := by
      clear hdA hdr hsl hA e1 h1 h2 h3 hd hml wat
      match r, u3, hg with
      | x1 :: x2 :: x3 :: x4 :: r', u3, hg => exact ⟨x1, x2, x3, x4, rfl, hg 0 (by simp), hg 1 (by simp), hg 2 (by simp), hg 3 (by simp)⟩
      | [], u3, _ => simp at u3
      | [x], u3, _ => simp at u3; omega
      | [x, y], u3, _ => simp at u3; omega
      | [x, y, w], u3, _ => simp at u3; omega
    rw [hnum]
    have o := or4' _ _ _ _ x1.toNat_lt x2.toNat_lt x3.toNat_lt x4.toNat_lt
    have k1 := u8_u32 x1.toNat_lt
    have k2 := u8_u32 x2.toNat_lt
    have k3 := u8_u32 x3.toNat_lt
    have k4 := u8_u32 x4.toNat_lt
    have s1 := sh24 x1.toNat_lt
    have s2 := sh16 x2.toNat_lt
    have s3 := sh8 x3.toNat_lt
    have p1 : IntKind.wrap .i64 ((A : Int) + 1) = ((A + 1 : Nat) : Int) := by rw [wrap_i64 (by omega)]; omega
    have p2 : IntKind.wrap .i64 ((A : Int) + 2) = ((A + 2 : Nat) : Int) := by rw [wrap_i64 (by omega)]; omega
    have p3 : IntKind.wrap .i64 ((A : Int) + 3) = ((A + 3 : Nat) : Int) := by rw [wrap_i64 (by omega)]; omega
    have p4 : IntKind.wrap .i64 ((A : Int) + 4) = ((A + 4 : Nat) : Int) := by rw [wrap_i64 (by omega)]; omega
    have p5 : IntKind.wrap .i64 (((A + 4 : Nat) : Int) + (n : Int)) = ((A + 4 + n : Nat) : Int) := by rw [wrap_i64 (by omega)]; omega
    have es : ∀ h, acall mach n_frame_Sum [.sl false 1 (B ((b.drop (A + 4)).take n))] h = _ := fun h => e_Sum _ h (by simp; omega)
    have hlo : ((b.drop (A + 4)).take n).length = n := by simp; omega
    have hlr : ((r.drop 4).take n).length = n := by simp; omega
    have hld : (r.drop (4 + n)).length = r.length - (4 + n) := by simp
    rw [hsl] at es hlo
    have t0 : (b.take (A + 4 + n)).drop (A + 4) = (r.drop 4).take n := by rw [List.drop_take, Nat.add_sub_cancel_left, hsl]
    generalize (r.drop 4).take n = Y at *
    generalize r.drop (4 + n) = Z at *
    generalize hP : A + 1 = P1 at *
    generalize hP2 : A + 2 = P2 at *
    generalize hP3 : A + 3 = P3 at *
    generalize hP4 : A + 4 = P4 at *
    generalize hP5 : P4 + n = P5 at *
    have q0 : A < b.length := by omega
    have q1 : P1 < b.length := by omega
    have q2 : P2 < b.length := by omega
    have q3 : P3 < b.length := by omega
    have q4 : P4 ≤ P5 := by omega
    have q5 : P5 ≤ b.length := by omega
    generalize x1.toNat * 16777216 + x2.toNat * 65536 + x3.toNat * 256 + x4.toNat = N at *
    by_cases u4 : sum Y = N
    · have nu4 : ¬ (sum Y ≠ N) := by omega
      have v1 : P5 - Y.length = P4 := by omega
      have v2' : ((b.length - Z.length : Nat) : Int) = (P5 : Int) := by omega
      have v2 : b.length - Z.length = P5 := by omega
      rw [if_neg nu4]
      simp only [List.replicate, go_sem, e1, ints, minL, ev, List.foldl, hmin]
      simp [go_sem, e1, hmin, hle, htk, numV, nv, nr, ne, locV, z, z1, z2, z3, z4, wat, w1, w2, g0, g1, g2, g3, o, k1, k2, k3, k4, s1, s2, s3, p1, p2, p3, p4, p5, q0, q1, q2, q3, q4, q5, es, t0, u4, v1, v2]
    · rw [if_pos u4]
      have nu4 : ¬ ((sum Y : Int) = (N : Int)) := by omega
      simp only [List.replicate, go_sem, e1, ints, minL, ev, List.foldl, hmin]
      simp [go_sem, e1, hmin, hle, htk, numV, nv, nr, ne, locV, z, z1, z2, z3, z4, wat, w1, w2, g0, g1, g2, g3, o, k1, k2, k3, k4, s1, s2, s3, p1, p2, p3, p4, p5, q0, q1, q2, q3, q4, q5, es, t0, nt' nu4]
end Go.Am
