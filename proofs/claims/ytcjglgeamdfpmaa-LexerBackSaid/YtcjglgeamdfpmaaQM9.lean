/- The lexer's law LexerScans on the machine; what is awake. -/
import Derived.Test.YtcjglgeamdfpmaaQM8
set_option linter.unusedSimpArgs false
set_option linter.unnecessarySimpa false
set_option linter.unusedVariables false
set_option maxRecDepth 10000
namespace Go.Am
open Go Go.Pu

theorem m_rScan (s : List UInt8) : acall mach n_billingref23_Scan [.str s] [] = some (.ret (rscanV s) []) := up _ _ _ _ (e_rScan s)
theorem m_Same (l : List V) (ht : ∀ v ∈ l, isTok v) (hl : l.length ≤ 1000000) : acall mach n_billingref23_Same [.sl false 4 l, .sl false 4 l] [] = some (.ret (.bool true) []) := up _ _ _ _ (e_Same l ht hl)
theorem m_Keyword (s : List UInt8) : acall mach n_lexer_Keyword [.str s] [] = some (.ret (.bool (isKw s)) []) := up _ _ _ _ (e_Keyword s)
theorem m_rKeyword (s : List UInt8) : acall mach n_billingref23_Keyword [.str s] [] = some (.ret (.bool (isKw s)) []) := up _ _ _ _ (e_rKeyword s)
theorem m_Quote (s : List UInt8) (hl : s.length ≤ 1000000) : acall mach n_lexer_Quote [.str s] [] = some (.ret (.str (quote s)) []) := up _ _ _ _ (e_Quote s hl)
theorem m_rQuote (s : List UInt8) (hl : s.length ≤ 1000000) : acall mach n_billingref23_Quote [.str s] [] = some (.ret (.str (quote s)) []) := up _ _ _ _ (e_rQuote s hl)
theorem m_Skip (p r : List UInt8) (hl : p.length + r.length ≤ 1000000) : acall mach n_billingref23_Skip [.str (p ++ r), .int .i64 p.length] [] = some (.ret (.int .i64 (p.length + (r.length - (skipB false r).length) : Nat)) []) := up _ _ _ _ (e_rSkip p r hl)
theorem m_Value (s : List UInt8) (hl : s.length ≤ 1000000) (hd : s.all digitB = true) : acall mach n_billingref23_Value [.str s] [] = some (.ret (.int .i64 (value s)) []) := up _ _ _ _ (e_Value s hl hd)
theorem m_Source (k n p : Int) (s : List UInt8) (hl : s.length ≤ 4611686018427387904) : acall mach n_billingref23_Source [tokV k n p s] [] = some (.ret (.str (srcP k s)) []) := up _ _ _ _ (e_Source k n p s hl)
theorem m_Proper (k n p : Int) (s : List UInt8) (hl : s.length ≤ 4611686018427387904) : acall mach n_billingref23_Proper [tokV k n p s] [] = some (.ret (.bool (properP k s)) []) := up _ _ _ _ (e_Proper k n p s hl)

theorem awake_1 : scanV [117, 112, 116, 111, 32, 54, 48, 32, 112, 101, 114, 32, 49] = .tup [.sl false 4 [tokV 1 0 0 [117, 112, 116, 111], tokV 2 60 5 [54, 48], tokV 1 0 8 [112, 101, 114], tokV 2 1 12 [49], tokV 0 0 13 []], .int .i64 0, .int .i64 0] := by kernel_rfl
theorem awake_2 : scanV [97, 32, 60, 62, 32, 34, 98] = .tup [.sl false 4 [], .int .i64 5, .int .i64 1] := by kernel_rfl

theorem e_awake23 : acall mach n_billinglaw23_awake [] [] = some (.ret (.bool true) []) := by
  refine acall_fn rfl (af := a_billinglaw23_awake) rfl rfl ?_
  have e1 := e_Scan [117, 112, 116, 111, 32, 54, 48, 32, 112, 101, 114, 32, 49]
  have e2 := e_Scan [97, 32, 60, 62, 32, 34, 98]
  have e3 := m_Keyword [117, 112, 116, 111]
  have e4 := m_Quote [97, 32, 98] (by decide)
  have k1 : isKw [117, 112, 116, 111] = true := by decide
  have k2 : quote [97, 32, 98] = [34, 97, 32, 98, 34] := by decide
  rw [awake_1] at e1
  rw [awake_2] at e2
  rw [k1] at e3
  rw [k2] at e4
  simp only [tokV] at e1 e2
  simp [List.replicate, go_sem, e1, e2, e3, e4]

theorem law_scans (s : List UInt8) : acall mach n_billinglaw23_LexerScans [.str s] [] = some (.ret (.bool true) []) := by
  refine acall_fn rfl (af := a_billinglaw23_LexerScans) rfl rfl ?_
  by_cases h : s.length > 2000
  · have h' : (2000 : Int) < s.length := by omega
    simp [List.replicate, go_sem, h', e_awake23]
  · have h' : ¬ (2000 : Int) < s.length := by omega
    have e1 := e_Scan s
    have e2 := m_rScan s
    have h6 : ¬ s.length > 65536 := by omega
    unfold scanV at e1
    unfold rscanV rscanRt at e2
    rw [if_neg h6] at e1 e2
    cases hs : scan s with
    | err rem e =>
      rw [hs] at e1 e2
      have e3 := m_Same [] (by simp) (by decide)
      simp [List.replicate, go_sem, h', e1, e2, e3, e_awake23]
    | ok ts =>
      rw [hs] at e1 e2
      simp only [List.nil_append] at e2
      have hlen := scan_len s hs
      have e3 := m_Same (ts.map (tkV s.length)) (by simp only [List.mem_map]; rintro v ⟨x, _, rfl⟩; exact isTok_tkV _ _) (by simp; omega)
      simp [List.replicate, go_sem, h', e1, e2, e3, e_awake23]
end Go.Am
