/- Equations of decoding: Number, length, Text; of appending: PutNumber, PutText. -/
import Derived.Test.YtbnjembcmddjoaaE2
set_option linter.unusedSimpArgs false
namespace Go.Am
open Go Go.Pu

theorem nt' {a b : Int} (h : ¬ a = b) : (a != b) = true := by simpa using h
theorem nf' {a b : Int} (h : a = b) : (a != b) = false := by simpa using h
theorem bt' {a b : Int} (h : a = b) : (a == b) = true := beq_iff_eq.2 h
theorem bf' {a b : Int} (h : ¬ a = b) : (a == b) = false := beq_false_of_ne h

theorem e_Number (b : List UInt8) (h : Heap) (hb : b.length ≤ 100000000) : acall mach n_codec_Number [.sl false 1 (B b)] h = some (.ret (.tup [.int .i64 (nv (dec 0 0 b)), .sl true 1 (B (nr (dec 0 0 b))), .int .i64 (ne (dec 0 0 b))]) h) := by
  refine acall_fn rfl (af := a_codec_Number) rfl rfl ?_
  cases hd : dec 0 0 b with
  | bad e =>
    have he := dec_bad _ _ _ _ hd
    have h0 := nt' (show ¬ e = 0 by omega)
    simp [List.replicate, go_sem, e_scan _ _ hb, hd, scanV, h0, nv, nr, ne, B_nil]
  | ok u r =>
    obtain ⟨h1, h2⟩ := dec_rest hd
    have e := e_rest b (b.length - r.length) [] hb (by omega)
    rw [h2] at e
    simp [List.replicate, go_sem, e_scan _ _ hb, hd, scanV, e, nv, nr, ne]

def lenV (n : Nat) : Dec → V
  | .ok u r => .tup [.int .i64 ((u / 2 : Nat) : Int), .int .i64 ((n - r.length : Nat) : Int), .int .i64 0]
  | .bad e => .tup [.int .i64 0, .int .i64 0, .int .i64 e]

theorem e_length (b : List UInt8) (h : Heap) (hb : b.length ≤ 100000000) : acall mach n_codec_length [.sl false 1 (B b)] h = some (.ret (lenV b.length (lenD (dec 0 0 b))) h) := by
  refine acall_fn rfl (af := a_codec_length) rfl rfl ?_
  cases hd : dec 0 0 b with
  | bad e =>
    have he := dec_bad _ _ _ _ hd
    have h0 := nt' (show ¬ e = 0 by omega)
    simp [List.replicate, go_sem, e_scan _ _ hb, hd, scanV, h0, lenD, lenV]
  | ok u r =>
    by_cases h1 : u % 2 = 1
    · have h2 := unzz_odd h1
      rw [lenD_odd h1]
      simp [List.replicate, go_sem, e_scan _ _ hb, hd, scanV, h2, lenV]
    · have h2 := unzz_even h1
      by_cases h4 : 1048576 < u / 2
      · have h3 : ¬ unzz u < 0 := by omega
        have h5 : (1048576 : Int) < unzz u := by omega
        rw [lenD_big h1 h4]
        simp [List.replicate, go_sem, e_scan _ _ hb, hd, scanV, h3, h5, lenV]
      · have h3 : ¬ unzz u < 0 := by omega
        have h5 : ¬ (1048576 : Int) < unzz u := by omega
        rw [lenD_in h1 h4]
        simp only [lenV, ← h2]
        simp [List.replicate, go_sem, e_scan _ _ hb, hd, scanV, h3, h5]

theorem e_Text (b : List UInt8) (h : Heap) (hb : b.length ≤ 100000000) : acall mach n_codec_Text [.sl false 1 (B b)] h = some (.ret (.tup [.str (ts (txtD b)), .sl true 1 (B (tr (txtD b))), .int .i64 (te (txtD b))]) h) := by
  refine acall_fn rfl (af := a_codec_Text) rfl rfl ?_
  cases hd : lenD (dec 0 0 b) with
  | bad e =>
    have he := lenD_bad hd
    have h0 := nt' (show ¬ e = 0 by omega)
    have hT : txtD b = .bad e := by unfold txtD; rw [hd]
    rw [hT]
    simp [List.replicate, go_sem, e_length _ _ hb, hd, lenV, h0, ts, tr, te, B_nil]
  | ok u r =>
    obtain ⟨h1, h2, h3⟩ := lenD_rest hd
    have hT : txtD b = if r.length < u / 2 then .bad 2 else .ok (r.take (u / 2)) (r.drop (u / 2)) := by unfold txtD; rw [hd]
    rw [hT]
    have el := e_length b [] hb
    rw [hd] at el
    simp only [lenV] at el
    generalize hs : b.length - r.length = sz at *
    generalize u / 2 = m at *
    have hlen : b.length = sz + r.length := by omega
    have w1 : IntKind.wrap .i64 ((b.length : Int) - sz) = r.length := by rw [wrap_i64 (by omega)]; omega
    have w2 : IntKind.wrap .i64 ((sz : Int) + m) = (sz : Int) + m := wrap_i64 (by omega)
    have t1 : ((sz : Int) + m).toNat = sz + m := by omega
    by_cases h4 : r.length < m
    · rw [if_pos h4]
      simp [List.replicate, go_sem, el, w1, h4, ts, tr, te, B_nil]
    · rw [if_neg h4]
      have h5 : (sz : Int) + m ≤ b.length := by omega
      have er := e_rest b (sz + m) [] hb (by omega)
      have e1 : (b.take (sz + m)).drop sz = r.take m := by rw [List.drop_take, h2, Nat.add_sub_cancel_left]
      have e2 : b.drop (sz + m) = r.drop m := by rw [← h2, List.drop_drop]
      rw [e2] at er
      push_cast at er
      simp [List.replicate, go_sem, el, w1, w2, h4, h5, t1, er, e1, ts, tr, te]
      omega

end Go.Am
