/- The parser's four results that the laws ask for. -/
import Derived.Test.YtcjglgeamdfpmaaEP11
import Derived.KernelRfl
set_option linter.unusedSimpArgs false
set_option linter.unnecessarySimpa false
set_option linter.unusedVariables false
set_option maxRecDepth 100000
namespace Go.Am
open Go Go.Pu

theorem aw1 : TariffV [116, 97, 114, 105, 102, 102, 32, 98, 97, 115, 105, 99, 32, 102, 114, 111, 109, 32, 50, 48, 48, 48, 45, 48, 49, 45, 48, 50, 59] = .tup [.agg [.str [98, 97, 115, 105, 99], .int .i64 86400, .bool false, .sl false 2 [], .sl false 2 [], .sl false 5 [], .sl false 6 []], .int .i64 0, .int .i64 0] := by kernel_rfl
theorem aw2 : ExprV [117, 110, 105, 116, 115, 32, 62, 32, 54, 48] = .tup [.agg [.int .i64 9, .int .i64 0, .str [], .sl false 4 [.agg [.int .i64 1, .int .i64 60, .str [], .sl false 4 []], .agg [.int .i64 3, .int .i64 0, .str [117, 110, 105, 116, 115], .sl false 4 []]]], .int .i64 0, .int .i64 0] := by kernel_rfl
theorem aw3 : ExprV [49, 32, 60, 32, 50, 32, 60, 32, 51] = .tup [.agg [.int .i64 0, .int .i64 0, .str [], .sl false 4 []], .int .i64 6, .int .i64 1] := by kernel_rfl
theorem aw4 : TariffV [116, 97, 114, 105, 102, 102, 32, 97, 32, 102, 114, 111, 109, 32, 50, 48, 50, 54, 45, 48, 50, 45, 51, 48, 59] = .tup [.agg [.str [], .int .i64 0, .bool false, .sl false 2 [], .sl false 2 [], .sl false 5 [], .sl false 6 []], .int .i64 14, .int .i64 15] := by kernel_rfl

theorem e_awake24 : acall mach n_billinglaw24_awake [] [] = some (.ret (.bool true) []) := by
  have e1 := e_Tariff [116, 97, 114, 105, 102, 102, 32, 98, 97, 115, 105, 99, 32, 102, 114, 111, 109, 32, 50, 48, 48, 48, 45, 48, 49, 45, 48, 50, 59]
  have e2 := e_Expr [117, 110, 105, 116, 115, 32, 62, 32, 54, 48]
  have e3 := e_Expr [49, 32, 60, 32, 50, 32, 60, 32, 51]
  have e4 := e_Tariff [116, 97, 114, 105, 102, 102, 32, 97, 32, 102, 114, 111, 109, 32, 50, 48, 50, 54, 45, 48, 50, 45, 51, 48, 59]
  rw [aw1] at e1
  rw [aw2] at e2
  rw [aw3] at e3
  rw [aw4] at e4
  refine acall_fn rfl (af := a_billinglaw24_awake) rfl rfl ?_
  simp [List.replicate, go_sem, e1, e2, e3, e4]
end Go.Am
