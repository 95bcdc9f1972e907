/- The law CodecCut on the machine. -/
import Derived.Test.YtbnjembcmddjoaaE14
set_option linter.unusedSimpArgs false
namespace Go.Am
open Go Go.Pu

theorem part_take {c : List UInt8} {n : Nat} (h : n < c.length) : Part (c.take n) c := ⟨List.take_prefix n c, by simp; omega⟩

set_option maxRecDepth 8000 in
theorem law_cut (r : Rec) (l : List Int) (c : Nat) (hc : c ≤ 65535) (hf : r.fits) (hw : ∀ n ∈ l, i64 n) : acall mach n_billinglaw07_CodecCut [rv r, .sl false 1 (l.map iv), .int .u16 c] [] = some (.ret (.bool true) []) := by
  refine acall_fn rfl (af := a_billinglaw07_CodecCut) rfl rfl ?_
  by_cases ha : r.a.length ≤ 60
  rotate_left
  · have q2 : (60 : Int) < r.a.length := by omega
    simp [List.replicate, go_sem, rv, q2, e_alive07]
  have q2 : ¬ (60 : Int) < r.a.length := by omega
  by_cases hb : r.b.length ≤ 60
  rotate_left
  · have q3 : (60 : Int) < r.b.length := by omega
    simp [List.replicate, go_sem, rv, q2, q3, e_alive07]
  have q3 : ¬ (60 : Int) < r.b.length := by omega
  by_cases hl : l.length ≤ 60
  rotate_left
  · have q4 : (60 : Int) < l.length := by omega
    simp [List.replicate, go_sem, rv, q2, q3, q4, e_alive07]
  have q4 : ¬ (60 : Int) < l.length := by omega
  have hu := hf.2.2.2.2.1
  have c1 : ∀ h, acall mach n_codec_PutNumber [.sl false 1 [], .int .i64 r.units] h = some (.ret (.sl true 1 (B (encN (zz r.units)))) h) := fun h =>
    e_PutNumber [] r.units h hu.1 hu.2 (by simp)
  have c3 : ∀ h, acall mach n_codec_PutNumbers [.sl false 1 [], .sl false 1 (l.map iv)] h = some (.ret (.sl true 1 (B (encN (2 * l.length) ++ encL l))) h) := fun h =>
    e_PutNumbers [] l h (by simp) (by omega) hw
  have c4 : ∀ h, acall mach n_codec_PutRecord [.sl false 1 [], rv r] h = some (.ret (.sl true 1 (B (putR r))) h) := fun h =>
    e_PutRecord [] r h (by simp) (by omega) (by omega) hf
  have l1 := encN_len10 (zz_lt hu.1 hu.2)
  have l3 := encL_len hw
  have l3' := encN_len10 (u := 2 * l.length) (by omega)
  have l4 := putR_len hf (by omega) (by omega)
  have g1 := encN_length_pos (zz r.units)
  have g3 : 0 < (encN (2 * l.length) ++ encL l).length := by have := encN_length_pos (2 * l.length); rw [List.length_append]; omega
  have g4 : 0 < (putR r).length := by
    have := encN_length_pos (zz r.src)
    simp only [putR, List.length_append]
    omega
  have d1 : ∀ (m : Nat) h, m < (encN (zz r.units)).length → acall mach n_codec_Number [.sl false 1 (B ((encN (zz r.units)).take m))] h = some (.ret (.tup [.int .i64 0, .sl true 1 [], .int .i64 2]) h) := fun m h hm => by
    rw [e_Number' _ h (by simp; omega), dec_cut (zz_lt hu.1 hu.2) (part_take hm).1 (part_take hm).2]
    rfl
  have d3 : ∀ (m : Nat) h, m < (encN (2 * l.length) ++ encL l).length → acall mach n_codec_Numbers [.sl false 1 (B ((encN (2 * l.length) ++ encL l).take m))] h = some (.ret (.tup [.sl true 1 [], .sl true 1 [], .int .i64 2]) h) := fun m h hm => by
    rw [e_Numbers _ h (by simp; omega), numsD_torn hw (by omega) (part_take hm)]
    rfl
  have d4 : ∀ (m : Nat), m < (putR r).length → acall mach n_codec_Record [.sl false 1 (B ((putR r).take m))] [] = some (.ret (.tup [rv rec0, .sl true 1 [], .int .i64 2]) []) := fun m hm => by
    rw [e_Record _ (by simp; omega)]
    simp only [recV, recD_torn hf (by omega) (by omega) (part_take hm), torn]
  unfold rv at c4 d4
  generalize encN (zz r.units) = x at *
  generalize encN (2 * l.length) ++ encL l = y at *
  generalize putR r = z at *
  have n1 : ¬ x = [] := by rintro rfl; simp at g1
  have n3 : ¬ y = [] := by rintro rfl; simp at g3
  have n4 : ¬ z = [] := by rintro rfl; simp at g4
  have wc : (IntKind.i64).wrap (c : Int) = c := wrap_i64 ⟨by omega, by omega⟩
  have t1 : (c : Int).tmod (x.length : Int) = ((c % x.length : Nat) : Int) := rfl
  have t3 : (c : Int).tmod (y.length : Int) = ((c % y.length : Nat) : Int) := rfl
  have t4 : (c : Int).tmod (z.length : Int) = ((c % z.length : Nat) : Int) := rfl
  have m1 := Nat.mod_lt c g1
  have m3 := Nat.mod_lt c g3
  have m4 := Nat.mod_lt c g4
  have b1 : c % x.length ≤ x.length := by omega
  have b3 : c % y.length ≤ y.length := by omega
  have b4 : c % z.length ≤ z.length := by omega
  have d1' := fun h => d1 _ h m1
  have d3' := fun h => d3 _ h m3
  have d4' := d4 _ m4
  clear d1 d3 d4 hf hw hu
  generalize c % x.length = i1 at *
  generalize c % y.length = i3 at *
  generalize c % z.length = i4 at *
  have w0 : (IntKind.i64).wrap 0 = 0 := by decide
  simp [List.replicate, go_sem, rv, q2, q3, q4, c1, c3, c4, n1, n3, n4, w0, wc, t1, t3, t4, b1, b3, b4, d1', d3', d4', rec0, e_alive07]

theorem all_codecCut (us : List V) (h : TyArgs Go.Proofs.Try.prog Go.Proofs.Try.f16.params.toList us) : acall mach 16 us [] = some (.ret (.bool true) []) := by
  obtain ⟨u, v, w, rfl, h1, h2, h3⟩ := TyArgs.three h
  obtain ⟨r, rfl, hf⟩ := arg_rec h1
  obtain ⟨l, rfl, hw⟩ := arg_ints h2
  obtain ⟨n, rfl, hn⟩ := arg_int u59 h3
  have hb : 0 ≤ n ∧ n ≤ 65535 := by
    simp [Lit.wf, IntKind.min, IntKind.max, IntKind.signed, IntKind.bits] at hn
    omega
  obtain ⟨c, rfl⟩ := Int.eq_ofNat_of_zero_le hb.1
  exact law_cut r l c (by omega) hf hw
end Go.Am
