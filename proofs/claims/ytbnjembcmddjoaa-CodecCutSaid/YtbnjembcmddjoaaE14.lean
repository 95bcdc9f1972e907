/- The law CodecBack on the machine. -/
import Derived.Test.YtbnjembcmddjoaaE13
set_option linter.unusedSimpArgs false
namespace Go.Am
open Go Go.Pu

theorem encL_len : ∀ {l : List Int}, (∀ n ∈ l, i64 n) → (encL l).length ≤ 10 * l.length
  | [], _ => by simp [encL]
  | n :: l, h => by
    have h1 := h n (by simp)
    have h2 := encN_len10 (zz_lt h1.1 h1.2)
    have h3 := encL_len (l := l) (fun m hm => h m (by simp [hm]))
    simp [encL] at h3 ⊢
    omega
theorem encT_len {s : List UInt8} (h : s.length ≤ 1000000) : (encT s).length ≤ s.length + 10 := by
  have h2 := encN_len10 (u := 2 * s.length) (by omega)
  simp [encT]
  omega
theorem putR_len {r : Rec} (hf : r.fits) (ha : r.a.length ≤ 1000000) (hb : r.b.length ≤ 1000000) : (putR r).length ≤ 120 + r.a.length + r.b.length := by
  obtain ⟨f1, f2, f3, f4, f5, f6, f7, f8⟩ := hf
  have g1 := encN_len10 (zz_lt f1.1 f1.2)
  have g2 := encN_len10 (zz_lt f2.1 f2.2)
  have g3 := encN_len10 (zz_lt f3.1 f3.2)
  have g4 := encN_len10 (zz_lt f4.1 f4.2)
  have g5 := encN_len10 (zz_lt f5.1 f5.2)
  have g6 := encN_len10 (zz_lt f6.1 f6.2)
  have g7 := encN_len10 (zz_lt f7.1 f7.2)
  have g8 := encN_len10 (zz_lt f8.1 f8.2)
  have t1 := encT_len ha
  have t2 := encT_len hb
  have b1 := encN_len10 (zz_lt (tru_i64 r.last).1 (tru_i64 r.last).2)
  have b2 := encN_len10 (zz_lt (tru_i64 r.inb).1 (tru_i64 r.inb).2)
  simp [putR]
  omega

set_option maxRecDepth 8000 in
theorem law_back (r : Rec) (l : List Int) (t : List UInt8) (hf : r.fits) (hw : ∀ n ∈ l, i64 n) : acall mach n_billinglaw07_CodecBack [rv r, .sl false 1 (l.map iv), .sl false 1 (B t)] [] = some (.ret (.bool true) []) := by
  refine acall_fn rfl (af := a_billinglaw07_CodecBack) rfl rfl ?_
  by_cases ha : r.a.length ≤ 100
  rotate_left
  · have q2 : (100 : Int) < r.a.length := by omega
    simp [List.replicate, go_sem, rv, q2, e_alive07]
  have q2 : ¬ (100 : Int) < r.a.length := by omega
  by_cases hc : r.b.length ≤ 100
  rotate_left
  · have q3 : (100 : Int) < r.b.length := by omega
    simp [List.replicate, go_sem, rv, q2, q3, e_alive07]
  have q3 : ¬ (100 : Int) < r.b.length := by omega
  by_cases hl : l.length ≤ 100
  rotate_left
  · have q4 : (100 : Int) < l.length := by omega
    simp [List.replicate, go_sem, rv, q2, q3, q4, e_alive07]
  have q4 : ¬ (100 : Int) < l.length := by omega
  by_cases ht : t.length ≤ 100
  rotate_left
  · have q5 : (100 : Int) < t.length := by omega
    simp [List.replicate, go_sem, rv, q2, q3, q4, q5, e_alive07]
  have q5 : ¬ (100 : Int) < t.length := by omega
  have c1 : ∀ h, acall mach n_codec_PutNumber [.sl false 1 [], .int .i64 r.start] h = some (.ret (.sl true 1 (B (encN (zz r.start)))) h) := fun h =>
    e_PutNumber [] r.start h hf.2.2.2.1.1 hf.2.2.2.1.2 (by simp)
  have c2 : ∀ h, acall mach n_codec_PutText [.sl false 1 [], .str r.a] h = some (.ret (.sl true 1 (B (encT r.a))) h) := fun h =>
    e_PutText [] r.a h (by simp) (by omega)
  have c3 : ∀ h, acall mach n_codec_PutNumbers [.sl false 1 [], .sl false 1 (l.map iv)] h = some (.ret (.sl true 1 (B (encN (2 * l.length) ++ encL l))) h) := fun h =>
    e_PutNumbers [] l h (by simp) (by omega) hw
  have c4 : ∀ h, acall mach n_codec_PutRecord [.sl false 1 [], rv r] h = some (.ret (.sl true 1 (B (putR r))) h) := fun h =>
    e_PutRecord [] r h (by simp) (by omega) (by omega) hf
  unfold rv at c4
  have l1 := encN_len10 (zz_lt hf.2.2.2.1.1 hf.2.2.2.1.2)
  have l2 := encT_len (s := r.a) (by omega)
  have l3 := encL_len hw
  have l3' := encN_len10 (u := 2 * l.length) (by omega)
  have l4 := putR_len hf (by omega) (by omega)
  have k1 : (encN (zz r.start)).length + t.length ≤ 140737488355328 := by omega
  have k2 : (encT r.a).length + t.length ≤ 140737488355328 := by omega
  have k3 : (encN (2 * l.length)).length + (encL l).length + t.length ≤ 140737488355328 := by omega
  have k4 : (putR r).length + t.length ≤ 140737488355328 := by omega
  have d1 : ∀ h, acall mach n_codec_Number [.sl false 1 (B (encN (zz r.start) ++ t))] h = some (.ret (.tup [.int .i64 r.start, .sl true 1 (B t), .int .i64 0]) h) := fun h => by
    rw [e_Number' _ h (by simp; omega), dec_encN (zz_lt hf.2.2.2.1.1 hf.2.2.2.1.2)]
    simp [numV, nv, nr, ne, unzz_zz]
  have d2 : ∀ h, acall mach n_codec_Text [.sl false 1 (B (encT r.a ++ t))] h = some (.ret (.tup [.str r.a, .sl true 1 (B t), .int .i64 0]) h) := fun h => by
    rw [e_Text _ h (by simp; omega), txtD_enc (by omega)]
    simp [ts, tr, te]
  have d3 : ∀ h, acall mach n_codec_Numbers [.sl false 1 (B (encN (2 * l.length) ++ encL l ++ t))] h = some (.ret (.tup [.sl true 1 (l.map iv), .sl true 1 (B t), .int .i64 0]) h) := fun h => by
    rw [e_Numbers _ h (by simp; omega), numsD_enc hw (by omega)]
    simp [nsV, ml, mr, me]
  have d3' := d3
  simp only [List.append_assoc] at d3'
  have d4 : acall mach n_codec_Record [.sl false 1 (B (putR r ++ t))] [] = some (.ret (.tup [rv r, .sl true 1 (B t), .int .i64 0]) []) := by
    rw [e_Record _ (by simp; omega), recD_put hf (by omega) (by omega)]
    simp [recV]
  unfold rv at d4
  have s1 := e_SameInts l l [] (by omega)
  simp [List.replicate, go_sem, rv, q2, q3, q4, q5, c1, c2, c3, c4, d1, d2, d3, d3', d4, k1, k2, k3, k4, s1, e_Same, eqL, eq1, e_alive07]

theorem all_codecBack (us : List V) (h : TyArgs Go.Proofs.Try.prog Go.Proofs.Try.f17.params.toList us) : acall mach 17 us [] = some (.ret (.bool true) []) := by
  obtain ⟨u, v, w, rfl, h1, h2, h3⟩ := TyArgs.three h
  obtain ⟨r, rfl, hf⟩ := arg_rec h1
  obtain ⟨l, rfl, hw⟩ := arg_ints h2
  obtain ⟨b, rfl, _⟩ := arg_bytes u22 u5 c5 h3
  exact law_back r l b hf hw
end Go.Am
