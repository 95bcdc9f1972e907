/- The reference's Scan. -/
import Derived.Test.YtcjglgeamdfpmaaEM6
set_option linter.unusedSimpArgs false
set_option linter.unnecessarySimpa false
set_option linter.unusedVariables false
set_option maxRecDepth 10000
namespace Go.Am
open Go Go.Pu

theorem lexOne_err {b : UInt8} {l : List UInt8} {e : Nat} (h : lexOne b l = .err e) : e = 1 ∨ e = 5 := by
  unfold lexOne lexWord lexNum lexText lexSym at h
  repeat' split at h
  all_goals first
    | (cases h; done)
    | (cases h; first | exact .inl rfl | exact .inr rfl)

theorem scan_err_code : ∀ (s : List UInt8) {rem e : Nat}, scan s = .err rem e → e = 1 ∨ e = 5 := by
  have key : ∀ (n : Nat) (s : List UInt8) {rem e : Nat}, s.length < n → scan s = .err rem e → e = 1 ∨ e = 5 := by
    intro n
    induction n with
    | zero => intro s rem e h; omega
    | succ n ih =>
      intro s rem e hn h
      have hsk := skipB_le false s
      cases hk : skipB false s with
      | nil => rw [scan_nil hk] at h; cases h
      | cons b l =>
        rw [hk] at hsk
        simp at hsk
        cases ho : lexOne b l with
        | err e' => rw [scan_err hk ho] at h; cases h; exact lexOne_err ho
        | ok t r' =>
          have hle := lexOne_le ho
          rw [scan_ok hk ho] at h
          cases hr : scan r' with
          | ok ts => rw [hr] at h; cases h
          | err r2 e2 => rw [hr] at h; cases h; exact ih r' (by omega) hr
  intro s rem e h
  exact key (s.length + 1) s (by omega) h

theorem scan_len : ∀ (s : List UInt8) {ts : List (Tk × Nat)}, scan s = .ok ts → ts.length ≤ s.length + 1 := by
  have key : ∀ (n : Nat) (s : List UInt8) {ts : List (Tk × Nat)}, s.length < n → scan s = .ok ts → ts.length ≤ s.length + 1 := by
    intro n
    induction n with
    | zero => intro s ts h; omega
    | succ n ih =>
      intro s ts hn h
      have hsk := skipB_le false s
      cases hk : skipB false s with
      | nil => rw [scan_nil hk] at h; cases h; simp
      | cons b l =>
        rw [hk] at hsk
        simp at hsk
        cases ho : lexOne b l with
        | err e' => rw [scan_err hk ho] at h; cases h
        | ok t r' =>
          have hle := lexOne_le ho
          rw [scan_ok hk ho] at h
          cases hr : scan r' with
          | ok ts' =>
            rw [hr] at h; cases h
            have := ih r' (by omega) hr
            simp; omega
          | err r2 e2 => rw [hr] at h; cases h
  intro s ts h
  exact key (s.length + 1) s (by omega) h

def rscanRt (n : Nat) (acc : List V) : SR → V
  | .ok ts => .tup [.sl true 4 (acc ++ ts.map (tkV n)), .int .i64 0, .int .i64 0]
  | .err rem e => .tup [.sl true 4 [], .int .i64 (n - rem : Nat), .int .i64 e]
theorem rscanRt_cons (n : Nat) (acc : List V) (t : Tk × Nat) (o : SR) : rscanRt n acc (SR.cons t o) = rscanRt n (acc ++ [tkV n t]) o := by
  cases o <;> simp [rscanRt, SR.cons]

theorem rScan_l : ∀ (n : Nat) (p r : List UInt8) (acc : List V), r.length < n → skipB false r = r → p.length + r.length ≤ 65536 → acc.length ≤ p.length →
    Run mach0 (.c billingref23_Scan_l1b :: .lp billingref23_Scan_l1 :: .endB 0 :: .c billingref23_Scan_k1 :: []) .norm ⟨(.str (p ++ r) :: .undef :: .undef :: .undef :: .undef :: .sl true 4 acc :: .int .i64 p.length :: .undef :: .undef :: .undef :: .undef :: .undef :: .undef :: .undef :: .undef :: .undef :: .undef :: .undef :: .undef :: .undef :: .undef :: .undef :: .undef :: .undef :: .undef :: .undef :: .undef :: .undef :: .undef :: .undef :: .undef :: .undef :: .undef :: .undef :: .undef :: .undef :: .undef :: .undef :: .undef :: .undef :: .undef :: .undef :: .undef :: []), []⟩
      (FinQ [.tmp 2, .tmp 3, .tmp 4] 0 (.ret (rscanRt (p ++ r).length acc (scan r)) [])) := by
  intro n
  induction n with
  | zero => intro p r acc hn; omega
  | succ n ih =>
    intro p r acc hn hk hl ha
    have q : (acc.length + 1) * 40 ≤ 140737488355328 := by omega
    cases r with
    | nil =>
      have q0 : ¬ ((p.length : Int) < p.length) := by omega
      have e1 : scan [] = .ok [(.fin, 0)] := rfl
      rw [e1]
      unfold billingref23_Scan_l1b
      simp [go_sem, q0, billingref23_Scan_k1]
      unfold billingref23_Scan_k1b
      simp [go_sem, q, rscanRt, tkV, tokV, Tk.kind, Tk.val, Tk.str]
    | cons b l =>
      simp only [List.length_cons] at hn hl
      have q0 : (p.length : Int) < p.length + (l.length + 1) := by omega
      have et := e_token p l b (by omega)
      cases ho : lexOne b l with
      | err e =>
        rw [ho] at et
        simp only [rtokV, tokV] at et
        rw [scan_err hk ho]
        have h0 : ¬ ((e : Nat) : Int) = 0 := by have := lexOne_err ho; omega
        have e5 : p.length + (l.length + 1) - (l.length + 1) = p.length := by omega
        unfold billingref23_Scan_l1b
        simp [go_sem, q0, et, nt' h0, rscanRt, e5]
      | ok t r' =>
        rw [ho] at et
        have hle := lexOne_le ho
        obtain ⟨d, hd⟩ : ∃ d, b :: l = d ++ r' := ⟨_, (lexOne_ok ho).2.2⟩
        obtain ⟨d2, hd2⟩ := skip_suf false r'
        have hdl : l.length + 1 = d.length + r'.length := by have := congrArg List.length hd; simpa using this
        have hd2l : r'.length = d2.length + (skipB false r').length := by have := congrArg List.length hd2; simpa using this
        have hs := e_rSkip (p ++ d) r' (by simp; omega)
        have ih := ih (p ++ d ++ d2) (skipB false r') (acc ++ [tkV (p ++ b :: l).length (t, l.length + 1)]) (by have := skipB_le false r'; omega) (skip_idem false r') (by simp; omega) (by simp; omega)
        rw [scan_skip] at ih
        have e1 : p ++ d ++ d2 ++ skipB false r' = p ++ b :: l := by rw [List.append_assoc, ← hd2, List.append_assoc, ← hd]
        have e2 : p ++ d ++ r' = p ++ b :: l := by rw [List.append_assoc, ← hd]
        have e3 : (p ++ d).length = (p ++ b :: l).length - r'.length := by simp; omega
        have e4 : (p ++ d).length + (r'.length - (skipB false r').length) = (p ++ d ++ d2).length := by simp; omega
        rw [e4, e2, e3] at hs
        rw [e1] at ih
        simp only [rtokV, tokV] at et
        rw [scan_ok hk ho, rscanRt_cons]
        generalize (p ++ d ++ d2).length = j at *
        simp only [List.length_append, List.length_cons] at hs et ih
        generalize p.length + (l.length + 1) - r'.length = i at *
        unfold billingref23_Scan_l1b
        simp [go_sem, q0, et, q, hs]
        simpa [tkV, tokV] using ih

/-- What the reference's Scan comes to. -/
def rscanV (s : List UInt8) : V := if s.length > 65536 then .tup [.sl true 4 [], .int .i64 0, .int .i64 5] else rscanRt s.length [] (scan s)

theorem e_rScan (s : List UInt8) : acall mach0 n_billingref23_Scan [.str s] [] = some (.ret (rscanV s) []) := by
  refine acall_fn rfl (af := a_billingref23_Scan) rfl rfl ?_
  unfold rscanV
  by_cases h : s.length > 65536
  · have h' : (65536 : Int) < s.length := by omega
    rw [if_pos h]
    simp [List.replicate, go_sem, h']
  · have h' : ¬ (65536 : Int) < s.length := by omega
    rw [if_neg h]
    obtain ⟨d, hd⟩ := skip_suf false s
    have hdl : s.length = d.length + (skipB false s).length := by have := congrArg List.length hd; simpa using this
    have hs := e_rSkip [] s (by simp; omega)
    have e1 : ([] : List UInt8).length + (s.length - (skipB false s).length) = d.length := by simp; omega
    rw [e1] at hs
    simp only [List.nil_append, List.length_nil] at hs
    have := rScan_l (s.length + 1) d (skipB false s) [] (by have := skipB_le false s; omega) (skip_idem false s) (by omega) (by simp)
    rw [← hd, scan_skip] at this
    simp [List.replicate, go_sem, h']
    simp at hs
    simp [hs, go_sem]
    simpa using this
end Go.Am
