/- Equations of appending: PutNumber, PutText, and the reference's. -/
import Derived.Test.YtbnjembcmddjoaaE3
set_option linter.unusedSimpArgs false
namespace Go.Am
open Go Go.Pu

theorem zz_nat (n : Nat) : zz (n : Int) = 2 * n := by unfold zz; rw [if_neg (by omega)]; omega

theorem e_PutNumber (b : List UInt8) (n : Int) (h : Heap) (h1 : -9223372036854775808 ≤ n) (h2 : n ≤ 9223372036854775807) (hb : b.length ≤ 10000000) : acall mach n_codec_PutNumber [.sl false 1 (B b), .int .i64 n] h = some (.ret (.sl true 1 (B (b ++ encN (zz n)))) h) := by
  refine acall_fn rfl (af := a_codec_PutNumber) rfl rfl ?_
  have e : acall mach n_codec_grown [.sl false 1 (B b), .int .i64 10] [] = _ := e_grown b 10 [] (by omega)
  have ea := e_add b n [] h1 h2 (by omega)
  simp [List.replicate, go_sem, e, ea]
theorem e_join (b c : List UInt8) (h : Heap) (hb : b.length ≤ 100000000) (hc : c.length ≤ 100000000) : acall mach n_billingref07_join [.sl false 1 (B b), .sl false 1 (B c)] h = some (.ret (.sl true 1 (B (b ++ c))) h) := by
  refine acall_fn rfl (af := a_billingref07_join) rfl rfl ?_
  simp [List.replicate, go_sem]
  omega

theorem e_PutText (b s : List UInt8) (h : Heap) (hb : b.length ≤ 10000000) (hs : s.length ≤ 10000000) : acall mach n_codec_PutText [.sl false 1 (B b), .str s] h = some (.ret (.sl true 1 (B (b ++ encN (2 * s.length) ++ s))) h) := by
  refine acall_fn rfl (af := a_codec_PutText) rfl rfl ?_
  have e : acall mach n_codec_grown [.sl false 1 (B b), .int .i64 (10 + (s.length : Int))] [] = _ := e_grown b (10 + s.length) [] (by omega)
  have w1 : IntKind.wrap .i64 (10 + (s.length : Int)) = 10 + (s.length : Int) := wrap_i64 (by omega)
  have ea := e_add b (s.length : Int) [] (by omega) (by omega) (show b.length ≤ 100000000 by omega)
  rw [zz_nat] at ea
  have hl := encN_len10 (u := 2 * s.length) (by omega)
  simp [List.replicate, go_sem, e, w1, ea]
  omega

theorem e_Same (o1 o2 : Bool) (b c : List UInt8) (h : Heap) : acall mach n_billingref07_Same [.sl o1 1 (B b), .sl o2 1 (B c)] h = some (.ret (.bool (b == c)) h) := by
  refine acall_fn rfl (af := a_billingref07_Same) rfl rfl ?_
  cases o1 <;> cases o2 <;> simp [List.replicate, go_sem]
end Go.Am
