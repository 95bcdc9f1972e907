/- The law CodecOnly on the machine. -/
import Derived.Test.YtbnjembcmddjoaaE14
import Derived.Test.YtbnjembcmddjoaaPs
set_option linter.unusedSimpArgs false
namespace Go.Am
open Go Go.Pu

theorem o_num (b : List UInt8) (hb : b.length ≤ 300) : ∃ (n : Int) (p : List UInt8) (e : Int), (∀ h, acall mach n_codec_Number [.sl false 1 (B b)] h = some (.ret (.tup [.int .i64 n, .sl true 1 (B p), .int .i64 e]) h)) ∧ (e = 0 → i64 n ∧ encN (zz n) ++ p = b) := by
  refine ⟨_, _, _, fun h => e_Number b h (by omega), fun he => ?_⟩
  cases hd : dec 0 0 b with
  | bad e => rw [hd] at he; have := dec_bad b 0 0 _ hd; simp only [ne] at he; omega
  | ok u r =>
    obtain ⟨h1, h2⟩ := encN_dec hd
    simp only [nv, nr, zz_unzz]
    exact ⟨⟨unzz_lo h1, unzz_hi h1⟩, h2.symm⟩
theorem o_txt (b : List UInt8) (hb : b.length ≤ 300) : ∃ (s p : List UInt8) (e : Int), (∀ h, acall mach n_codec_Text [.sl false 1 (B b)] h = some (.ret (.tup [.str s, .sl true 1 (B p), .int .i64 e]) h)) ∧ (e = 0 → encT s ++ p = b) := by
  refine ⟨_, _, _, fun h => e_Text b h (by omega), fun he => ?_⟩
  cases hd : txtD b with
  | bad e => rw [hd] at he; have := txtD_bad hd; simp only [te] at he; omega
  | ok s r => simp only [ts, tr]; exact (txtD_ok hd).1.symm
theorem o_nums (b : List UInt8) (hb : b.length ≤ 300) : ∃ (l : List Int) (p : List UInt8) (e : Int), (∀ h, acall mach n_codec_Numbers [.sl false 1 (B b)] h = some (.ret (.tup [.sl true 1 (l.map iv), .sl true 1 (B p), .int .i64 e]) h)) ∧ l.length ≤ 300 ∧ (e = 0 → (∀ n ∈ l, i64 n) ∧ encN (2 * l.length) ++ encL l ++ p = b) := by
  refine ⟨_, _, _, fun h => e_Numbers b h (by omega), Nat.le_trans numsD_len hb, fun he => ?_⟩
  cases hd : numsD b with
  | bad e => rw [hd] at he; exact absurd he (numsD_bad hd)
  | ok l r => simp only [ml, mr, List.nil_append]; exact ⟨numsD_fits hd, (numsD_ok hd).symm⟩
theorem putR_ge (r : Rec) : r.a.length ≤ (putR r).length ∧ r.b.length ≤ (putR r).length := by
  simp only [putR, encT, List.length_append]
  omega
theorem o_rec (b : List UInt8) (hb : b.length ≤ 300) : ∃ (r : Rec) (p : List UInt8) (e : Int), (acall mach n_codec_Record [.sl false 1 (B b)] [] = some (.ret (.tup [rv r, .sl true 1 (B p), .int .i64 e]) [])) ∧ (e = 0 → r.fits ∧ r.a.length ≤ 300 ∧ r.b.length ≤ 300 ∧ putR r ++ p = b) := by
  have e1 := e_Record b (by omega)
  cases hd : (recD b).2 with
  | bad e => simp only [recV, hd] at e1; exact ⟨_, [], _, e1, fun he => absurd he (recD_bad hd)⟩
  | ok c =>
    simp only [recV, hd] at e1
    have h1 := recD_ok hd
    have h2 := putR_ge (recD b).1
    have h3 := congrArg List.length h1
    rw [List.length_append] at h3
    exact ⟨_, c, _, e1, fun _ => ⟨recD_fits b, by omega, by omega, h1.symm⟩⟩

set_option maxRecDepth 8000 in
set_option maxHeartbeats 4000000 in
theorem law_only (b : List UInt8) : acall mach n_billinglaw07_CodecOnly [.sl false 1 (B b)] [] = some (.ret (.bool true) []) := by
  refine acall_fn rfl (af := a_billinglaw07_CodecOnly) rfl rfl ?_
  by_cases hb : b.length ≤ 300
  rotate_left
  · have q : (300 : Int) < b.length := by omega
    simp [List.replicate, go_sem, q, e_alive07]
  have q : ¬ (300 : Int) < b.length := by omega
  obtain ⟨n, p1, e1, r1, o1⟩ := o_num b hb
  obtain ⟨s, p2, e2, r2, o2⟩ := o_txt b hb
  obtain ⟨l, p3, e3, r3, hl, o3⟩ := o_nums b hb
  obtain ⟨r, p4, e4, r4, o4⟩ := o_rec b hb
  have x1 : (e1 != 0) = true ∨ ((e1 != 0) = false ∧ (∀ h, acall mach n_codec_PutNumber [.sl false 1 [], .int .i64 n] h = some (.ret (.sl true 1 (B (encN (zz n)))) h)) ∧ encN (zz n) ++ p1 = b ∧ (encN (zz n)).length + p1.length ≤ 140737488355328) := by
    by_cases he : e1 = 0
    · obtain ⟨h1, h2⟩ := o1 he
      have h3 := congrArg List.length h2
      rw [List.length_append] at h3
      exact .inr ⟨by simp [he], fun h => e_PutNumber [] n h h1.1 h1.2 (by simp), h2, by omega⟩
    · exact .inl (by simp [he])
  have x2 : (e2 != 0) = true ∨ ((e2 != 0) = false ∧ (∀ h, acall mach n_codec_PutText [.sl false 1 [], .str s] h = some (.ret (.sl true 1 (B (encT s))) h)) ∧ encT s ++ p2 = b ∧ (encT s).length + p2.length ≤ 140737488355328) := by
    by_cases he : e2 = 0
    · have h2 := o2 he
      have h3 := congrArg List.length h2
      have h4 : s.length ≤ (encT s).length := by simp [encT]
      rw [List.length_append] at h3
      exact .inr ⟨by simp [he], fun h => e_PutText [] s h (by simp) (by omega), h2, by omega⟩
    · exact .inl (by simp [he])
  have x3 : (e3 != 0) = true ∨ ((e3 != 0) = false ∧ (∀ h, acall mach n_codec_PutNumbers [.sl false 1 [], .sl false 1 (l.map iv)] h = some (.ret (.sl true 1 (B (encN (2 * l.length) ++ encL l))) h)) ∧ encN (2 * l.length) ++ (encL l ++ p3) = b ∧ (encN (2 * l.length)).length + (encL l).length + p3.length ≤ 140737488355328) := by
    by_cases he : e3 = 0
    · obtain ⟨h1, h2⟩ := o3 he
      have h3 := congrArg List.length h2
      rw [List.length_append, List.length_append] at h3
      rw [List.append_assoc] at h2
      exact .inr ⟨by simp [he], fun h => e_PutNumbers [] l h (by simp) (by omega) h1, h2, by omega⟩
    · exact .inl (by simp [he])
  have x4 : (e4 != 0) = true ∨ ((e4 != 0) = false ∧ (∀ h, acall mach n_codec_PutRecord [.sl false 1 [], rv r] h = some (.ret (.sl true 1 (B (putR r))) h)) ∧ putR r ++ p4 = b ∧ (putR r).length + p4.length ≤ 140737488355328) := by
    by_cases he : e4 = 0
    · obtain ⟨h1, ha, hbb, h2⟩ := o4 he
      have h3 := congrArg List.length h2
      rw [List.length_append] at h3
      exact .inr ⟨by simp [he], fun h => e_PutRecord [] r h (by simp) (by omega) (by omega) h1, h2, by omega⟩
    · exact .inl (by simp [he])
  clear o1 o2 o3 o4
  unfold rv at r4 x4
  rcases x1 with x1 | ⟨x1, y1, z1, w1⟩ <;> rcases x2 with x2 | ⟨x2, y2, z2, w2⟩ <;> rcases x3 with x3 | ⟨x3, y3, z3, w3⟩ <;> rcases x4 with x4 | ⟨x4, y4, z4, w4⟩ <;>
    simp [List.replicate, go_sem, q, r1, r2, r3, r4, e_Same, e_alive07, *]
theorem all_codecOnly (us : List V) (h : TyArgs Go.Proofs.Try.prog Go.Proofs.Try.f18.params.toList us) : acall mach 18 us [] = some (.ret (.bool true) []) := by
  obtain ⟨u, rfl, h1⟩ := TyArgs.one h
  obtain ⟨b, rfl, _⟩ := arg_bytes u22 u5 c5 h1
  exact law_only b
end Go.Am
