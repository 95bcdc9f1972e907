/- The law ParserExprs returns true. -/
import Derived.Test.YtcjglgeamdfpmaaER7
import Derived.Test.YtcjglgeamdfpmaaEP12
set_option linter.unusedSimpArgs false
set_option linter.unnecessarySimpa false
set_option linter.unusedVariables false
set_option maxRecDepth 10000
namespace Go.Am
open Go Go.Pu

theorem m_Expr (s : List UInt8) : acall mach n_billingref24_Expr [.str s] [] = some (.ret (ExprV s) []) := up _ _ _ _ (f_Expr s)
theorem m_SameExpr (a : PE) (h : Nar a) : acall mach n_billingref24_SameExpr [exprV a, exprV a] [] = some (.ret (.bool true) []) := up _ _ _ _ (e_SameExpr a h)

theorem law_ParserExprs (s : List UInt8) : acall mach n_billinglaw24_ParserExprs [.str s] [] = some (.ret (.bool true) []) := by
  refine acall_fn rfl (af := a_billinglaw24_ParserExprs) rfl rfl ?_
  have e1 := e_Expr s
  have e2 := m_Expr s
  obtain ⟨a, p, e, he, hN⟩ := ExprV_shape s
  have e3 := m_SameExpr a hN
  rw [he] at e1 e2
  by_cases h : s.length > 600
  · have h' : (600 : Int) < s.length := by omega
    simp [List.replicate, go_sem, h', e_awake24]
  · have h' : ¬ (600 : Int) < s.length := by omega
    obtain ⟨op, num, text, args⟩ := a
    simp only [exprV] at e1 e2 e3
    simp [List.replicate, go_sem, h', e1, e2, e3, e_awake24]

theorem all_parserExprs (us : List V) (h : TyArgs Go.Proofs.Try.prog [9] us) : acall mach n_billinglaw24_ParserExprs us [] = some (.ret (.bool true) []) := by
  obtain ⟨u, rfl, hu⟩ := h.one
  obtain ⟨l, rfl, _⟩ := arg_string (by kernel_rfl) hu
  exact law_ParserExprs l
end Go.Am
