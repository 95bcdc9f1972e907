/- The law CodecApart. -/
import Derived.Test.YtbnjembcmddjoaaE9
import Derived.Test.YtbnjembcmddjoaaAm32
set_option linter.unusedSimpArgs false
namespace Go.Am
open Go Go.Pu

def rec0 : Rec := ⟨0, 0, 0, [], [], 0, 0, 0, 0, false, 0, false⟩

set_option maxRecDepth 8000 in
theorem law_apart (n : Int) (s : List UInt8) (hn : i64 n) : acall mach n_billinglaw07_CodecApart [.int .i64 n, .str s] [] = some (.ret (.bool true) []) := by
  refine acall_fn rfl (af := a_billinglaw07_CodecApart) rfl rfl ?_
  by_cases hs : s.length ≤ 100
  rotate_left
  · have q : (100 : Int) < s.length := by omega
    simp [List.replicate, go_sem, q, e_alive07]
  have q : ¬ (100 : Int) < s.length := by omega
  have e1 : acall mach n_codec_PutNumber [.sl false 1 [.int .u8 1], .int .i64 n] [] = _ := e_PutNumber [1] n [] hn.1 hn.2 (by simp)
  have e2 : acall mach n_codec_PutText [.sl false 1 [.int .u8 1], .str s] [] = _ := e_PutText [1] s [] (by simp) (by omega)
  have e3 : acall mach n_codec_PutNumbers [.sl false 1 [.int .u8 1], .sl false 1 [.int .i64 n, .int .i64 n]] [] = _ := e_PutNumbers [1] [n, n] [] (by simp) (by simp) (by simp [hn])
  have hz : i64 0 := ⟨by omega, by omega⟩
  have e4 : acall mach n_codec_PutRecord [.sl false 1 [.int .u8 1], .agg [.int .i64 0, .int .i64 0, .int .i64 0, .str s, .str [], .int .i64 n, .int .i64 0, .int .i64 0, .int .i64 0, .bool false, .int .i64 0, .bool false]] [] = _ := e_PutRecord [1] { rec0 with a := s, start := n } [] (by simp) (by simp; omega) (by simp [rec0]) ⟨hz, hz, hz, hn, hz, hz, hz, hz⟩
  have e5 : acall mach n_codec_Number [.sl false 1 [.int .u8 1, .int .u8 2, .int .u8 3, .int .u8 4, .int .u8 5, .int .u8 6, .int .u8 7, .int .u8 8, .int .u8 9, .int .u8 10, .int .u8 11, .int .u8 12, .int .u8 13, .int .u8 14, .int .u8 15, .int .u8 16]] [] = some (.ret (.tup [.int .i64 (-1), .sl true 1 [.int .u8 2, .int .u8 3, .int .u8 4, .int .u8 5, .int .u8 6, .int .u8 7, .int .u8 8, .int .u8 9, .int .u8 10, .int .u8 11, .int .u8 12, .int .u8 13, .int .u8 14, .int .u8 15, .int .u8 16], .int .i64 0]) []) := (acall_iff _).2 ⟨60, by kernel_rfl⟩
  simp [List.replicate, go_sem, q, e1, e2, e3, e4, e5]
  exact run_closed 60 (by kernel_rfl)

theorem all_codecApart (us : List V) (h : TyArgs Go.Proofs.Try.prog Go.Proofs.Try.f4.params.toList us) : acall mach 4 us [] = some (.ret (.bool true) []) := by
  obtain ⟨u, v, rfl, h1, h2⟩ := TyArgs.two h
  obtain ⟨n, rfl, hn⟩ := arg_int u3 h1
  obtain ⟨s, rfl, _⟩ := arg_string u9 h2
  exact law_apart n s (wf_i64 hn)
end Go.Am
