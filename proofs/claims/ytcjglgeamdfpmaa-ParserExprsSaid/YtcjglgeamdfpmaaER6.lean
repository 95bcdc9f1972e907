/- The reference's Expr. -/
import Derived.Test.YtcjglgeamdfpmaaER5
import Derived.Test.YtcjglgeamdfpmaaEP11
import Derived.Test.YtcjglgeamdfpmaaEM7
set_option linter.unusedSimpArgs false
set_option linter.unnecessarySimpa false
set_option linter.unusedVariables false
set_option maxRecDepth 10000
namespace Go.Am
open Go Go.Pu

section
variable {n : Nat} {L : List (Tk × Nat)} {t : Tk} {ts : List Tk}

theorem f_end0 (h : At L ts) : acall mach0 n_billingref24_Reader_end [.ptr 0 0] (hf n L ts.length 0) = some (.ret (.tup []) (resH n L (endT ts))) := by
  obtain ⟨t, ts, rfl⟩ := ends_ne h.2.1
  refine acall_fn rfl (af := a_billingref24_Reader_end) rfl rfl ?_
  have e := f_now (n := n) 0 h
  have ef := f_fail0 (n := n) (L := L) (ts.length + 1) 1
  by_cases hk : t = .fin
  · subst hk
    simp only [tokV] at e
    simp [Tk.kind] at e
    simp [List.replicate, go_sem, e, endT, resH]
  · have hk' : ¬ (t.kind : Int) = 0 := by cases t <;> simp [Tk.kind] at hk ⊢
    have e3 : endT (t :: ts) = failT (t :: ts) 1 := by cases t <;> simp [endT] at hk ⊢
    rw [e3]
    simp only [tokV] at e
    simp at ef
    simp [List.replicate, go_sem, e, nt' hk', ef, resH, failT]
theorem f_endE (e : Nat) (he : e ≠ 0) (h : At L ts) : acall mach0 n_billingref24_Reader_end [.ptr 0 0] (hf n L ts.length e) = some (.ret (.tup []) (hf n L ts.length e)) := by
  obtain ⟨t, ts, rfl⟩ := ends_ne h.2.1
  refine acall_fn rfl (af := a_billingref24_Reader_end) rfl rfl ?_
  have e1 := f_now (n := n) e h
  have ef := f_failE (n := n) (L := L) (ts.length + 1) e 1 he
  simp only [tokV] at e1
  simp at ef
  by_cases hk : (t.kind : Int) = 0
  · simp [List.replicate, go_sem, e1, nf' hk]
  · simp [List.replicate, go_sem, e1, nt' hk, ef]
end

theorem toks_ok {L : List (Tk × Nat)} (h : Toks L) : okT (L.map (·.1)) := by
  induction h with
  | fin => intro t ht; simp at ht; exact .inr ht
  | cons t k ts ht hts ih =>
    intro u hu
    simp only [List.map_cons, List.mem_cons] at hu
    rcases hu with rfl | hu
    · exact .inl ht
    · exact ih u hu

theorem f_Expr (s : List UInt8) : acall mach0 n_billingref24_Expr [.str s] [] = some (.ret (ExprV s) []) := by
  have es := e_rScan s
  unfold rscanV at es
  unfold ExprV
  refine acall_fn rfl (af := a_billingref24_Expr) rfl rfl ?_
  by_cases h : s.length > 65536
  · rw [if_pos h] at es ⊢
    simp [List.replicate, go_sem, es]
  · rw [if_neg h] at es ⊢
    cases hs : scan s with
    | err rem e =>
      simp only [hs, rscanRt] at es ⊢
      have he : ¬ (e : Int) = 0 := by have := scan_e hs; omega
      simp [List.replicate, go_sem, es, nt' he]
    | ok L =>
      simp only [hs, rscanRt] at es ⊢
      have hA : At L (L.map (·.1)) := ⟨⟨[], L, rfl, rfl⟩, scan_ends hs, by have := Go.Pu.scan_len s.length s L (Nat.le_refl _) hs; omega⟩
      have ho := toks_ok (scan_toks s.length s L (Nat.le_refl _) hs)
      obtain ⟨a, e1, ha, he⟩ := f_expr (n := s.length) hA ho
      simp only [hf, List.length_map, Nat.sub_self] at e1
      unfold allT
      cases h1 : exprT (L.map (·.1)) with
      | err m e =>
        obtain ⟨he0, us, hu, hul⟩ := he m e h1
        subst hul
        obtain ⟨t, us, rfl⟩ := ends_ne hu.2.1
        have e2 := f_endE (n := s.length) e he0 hu
        have e3 := f_now (n := s.length) e hu
        have he' : ¬ (e : Int) = 0 := by omega
        obtain ⟨op, num, text, args⟩ := a
        simp only [h1, resH, exprV] at e1
        simp only [tokV] at e3
        simp at e1 es e2 e3
        simp [List.replicate, go_sem, es, e1, e2, e3, nt' he']
      | ok x q =>
        obtain rfl := ha x q h1
        have A1 := hA.expr h1
        have e2 := f_end0 (n := s.length) A1
        simp only [bindP_ok]
        cases h2 : endT q with
        | err m e =>
          have hme : m = q.length ∧ e = 1 := by
            unfold endT failT at h2
            split at h2
            · cases h2
            · cases h2; exact ⟨rfl, rfl⟩
          obtain ⟨rfl, rfl⟩ := hme
          obtain ⟨t, q, rfl⟩ := ends_ne A1.2.1
          have e3 := f_now (n := s.length) 1 A1
          obtain ⟨op, num, text, args⟩ := a
          simp only [h1, h2, resH, exprV] at e1 e2
          simp only [tokV] at e3
          simp at e1 es e2 e3
          simp [List.replicate, go_sem, es, e1, e2, e3]
        | ok u q2 =>
          have hq2 : q2 = q := by
            unfold endT failT at h2
            split at h2
            · cases h2; rfl
            · cases h2
          subst hq2
          obtain ⟨op, num, text, args⟩ := a
          simp only [h1, h2, resH, exprV] at e1 e2
          simp at e1 es e2
          simp [List.replicate, go_sem, es, e1, e2, exprV]
end Go.Am
