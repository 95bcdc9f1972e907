/- The laws of the lexer: LexerScans, LexerWords, LexerLimits. -/
import Derived.Test.YtcjglgeamdfpmaaQM9
set_option linter.unusedSimpArgs false
set_option linter.unnecessarySimpa false
set_option linter.unusedVariables false
set_option maxRecDepth 10000
namespace Go.Am
open Go Go.Pu Go.RowKit

theorem u9 : Go.Proofs.Try.prog.underlying 9 = some .string := by kernel_rfl
theorem all_lexerScans (us : List V) (h : TyArgs Go.Proofs.Try.prog Go.Proofs.Try.f5.params.toList us) : acall mach 5 us [] = some (.ret (.bool true) []) := by
  obtain ⟨u, rfl, h1⟩ := TyArgs.one h
  obtain ⟨b, rfl, _⟩ := arg_string u9 h1
  exact law_scans b

theorem scan_quote {s : List UInt8} (h : s.all textB = true) (hl : s.length ≤ 200) : scan (34 :: (s ++ [34])) = .ok [(.text s, s.length + 2), (.fin, 0)] := by
  have h1 : (Tk.text s).ok = true := by simp [Tk.ok, h, hl]
  have := scan_src (t := .text s) (r := []) h1 rfl
  have e1 : scan [] = .ok [(.fin, 0)] := rfl
  simp only [Tk.src, List.append_nil, e1, SR.cons] at this
  rw [this]
  simp

theorem law_words (s : List UInt8) : acall mach n_billinglaw23_LexerWords [.str s] [] = some (.ret (.bool true) []) := by
  refine acall_fn rfl (af := a_billinglaw23_LexerWords) rfl rfl ?_
  by_cases h : s.length > 2000
  · have h' : (2000 : Int) < s.length := by omega
    simp [List.replicate, go_sem, h', e_awake23]
  · have h' : ¬ (2000 : Int) < s.length := by omega
    have e1 := m_Quote s (by omega)
    have e2 := m_rQuote s (by omega)
    by_cases hq : s.all textB = true ∧ s.length ≤ 200
    · obtain ⟨h1, h2⟩ := hq
      have hqs : quote s = 34 :: (s ++ [34]) := by simp only [quote, h1, h2]; simp
      have e3 := e_Scan (34 :: (s ++ [34]))
      have h6 : ¬ (34 :: (s ++ [34])).length > 65536 := by simp; omega
      unfold scanV at e3
      rw [if_neg h6, scan_quote h1 h2] at e3
      simp only [List.map_cons, List.map_nil, tkV, tokV, Tk.kind, Tk.val, Tk.str] at e3
      rw [hqs] at e1 e2
      simp at e3
      simp [List.replicate, go_sem, h', e1, e2, e3, m_Keyword, m_rKeyword, e_awake23]
    · have hqs : quote s = [] := by
        unfold quote
        rw [if_neg]
        simpa using hq
      rw [hqs] at e1 e2
      simp [List.replicate, go_sem, h', e1, e2, m_Keyword, m_rKeyword, e_awake23]
theorem all_lexerWords (us : List V) (h : TyArgs Go.Proofs.Try.prog Go.Proofs.Try.f9.params.toList us) : acall mach 9 us [] = some (.ret (.bool true) []) := by
  obtain ⟨u, rfl, h1⟩ := TyArgs.one h
  obtain ⟨b, rfl, _⟩ := arg_string u9 h1
  exact law_words b

theorem skip_spaces (r : List UInt8) : ∀ n, skipB false (List.replicate n 32 ++ r) = skipB false r
  | 0 => rfl
  | n + 1 => by
    rw [List.replicate_succ, List.cons_append, skipB, if_pos (by rfl)]
    exact skip_spaces r n
theorem scan_spaces (r : List UInt8) (n : Nat) : scan (List.replicate n 32 ++ r) = scan r := by
  rw [← scan_skip, skip_spaces, scan_skip]

/-- So many blanks, and zeros behind them. -/
def blanksV (i n : Nat) : List V := B (List.replicate i 32 ++ List.replicate (n - i) 0)
theorem upd_blanks {i n : Nat} (h : i < n) : upd (blanksV i n) i (.int .u8 32) = blanksV (i + 1) n := by
  have e := upd_B (List.replicate i 32 ++ List.replicate (n - i) 0) i 32
  have : (V.int .u8 (((32 : UInt8).toNat : Nat) : Int)) = .int .u8 32 := rfl
  rw [this] at e
  unfold blanksV
  rw [e]
  congr 1
  have e1 : n - i = (n - (i + 1)) + 1 := by omega
  rw [e1, List.replicate_succ, List.set_append_right _ _ (by simp)]
  simp only [List.length_replicate, Nat.sub_self, List.set_cons_zero]
  rw [List.replicate_succ', List.append_assoc]
  rfl

theorem Limits_l (n : Nat) (w : Bool) (k : List It) (hn : n ≤ 100000) (Q : Ex → St → Prop)
    (hk : Run mach (.c billinglaw23_LexerLimits_k1b :: k) .norm ⟨(.undef :: .bool w :: .undef :: .undef :: .undef :: .int .i64 n :: .sl true 1 (blanksV n n) :: .undef :: .undef :: .undef :: .undef :: .undef :: .undef :: .undef :: .undef :: .undef :: .undef :: .undef :: .undef :: .undef :: .undef :: .undef :: .undef :: .undef :: .undef :: .undef :: .undef :: .undef :: .undef :: .undef :: .undef :: .undef :: .undef :: .undef :: .undef :: .undef :: .undef :: .undef :: .undef :: .undef :: .undef :: .undef :: .undef :: .undef :: .undef :: .undef :: .undef :: .undef :: .undef :: .undef :: .undef :: .undef :: .undef :: .undef :: .undef :: .undef :: .undef :: .undef :: .undef :: .undef :: .undef :: .undef :: .undef :: .undef :: .undef :: .undef :: .undef :: .undef :: .undef :: .undef :: .undef :: .undef :: .undef :: .undef :: .undef :: .undef :: .undef :: .undef :: .undef :: .undef :: .undef :: []), []⟩ Q) : ∀ (j i : Nat), i + j = n →
    Run mach (.c billinglaw23_LexerLimits_l1b :: .lp billinglaw23_LexerLimits_l1 :: .endB 0 :: .c billinglaw23_LexerLimits_k1 :: k) .norm ⟨(.undef :: .bool w :: .undef :: .undef :: .undef :: .int .i64 n :: .sl true 1 (blanksV i n) :: .int .i64 i :: .undef :: .undef :: .undef :: .undef :: .undef :: .undef :: .undef :: .undef :: .undef :: .undef :: .undef :: .undef :: .undef :: .undef :: .undef :: .undef :: .undef :: .undef :: .undef :: .undef :: .undef :: .undef :: .undef :: .undef :: .undef :: .undef :: .undef :: .undef :: .undef :: .undef :: .undef :: .undef :: .undef :: .undef :: .undef :: .undef :: .undef :: .undef :: .undef :: .undef :: .undef :: .undef :: .undef :: .undef :: .undef :: .undef :: .undef :: .undef :: .undef :: .undef :: .undef :: .undef :: .undef :: .undef :: .undef :: .undef :: .undef :: .undef :: .undef :: .undef :: .undef :: .undef :: .undef :: .undef :: .undef :: .undef :: .undef :: .undef :: .undef :: .undef :: .undef :: .undef :: .undef :: []), []⟩ Q
  | 0, i, hi => by
    obtain rfl : i = n := by omega
    have q : ¬ ((i : Int) < i) := by omega
    unfold billinglaw23_LexerLimits_l1b
    simp [go_sem, q, billinglaw23_LexerLimits_k1]
    exact hk
  | j + 1, i, hi => by
    have ih := Limits_l n w k hn Q hk j (i + 1) (by omega)
    have q : (i : Int) < n := by omega
    have q' : i < n := by omega
    have hlen : (blanksV i n).length = n := by simp [blanksV, B]; omega
    have wr : IntKind.wrap .i64 ((i : Int) + 1) = i + 1 := wrap_i64 (by omega)
    have hu := upd_blanks q'
    unfold billinglaw23_LexerLimits_l1b
    simp [go_sem, q, q', hlen, wr, hu]
    simpa using ih
end Go.Am
