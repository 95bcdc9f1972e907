/- What is known of the tokens of a text. -/
import Derived.Test.YtcjglgeamdfpmaaEPt
namespace Go.Pu

theorem toks_ends {L : List (Tk × Nat)} (h : Toks L) : ends (L.map (·.1)) = true := by
  induction h with
  | fin => rfl
  | cons t k ts ht hts ih =>
    cases ts with
    | nil => cases hts
    | cons u r =>
      simp only [List.map_cons] at ih ⊢
      simp only [ends, Bool.and_eq_true, Bool.not_eq_true', beq_eq_false_iff_ne]
      refine ⟨fun e => ?_, ih⟩
      subst e
      simp [Tk.ok] at ht
theorem scan_ends {l : Bs} {L : List (Tk × Nat)} (h : scan l = .ok L) : ends (L.map (·.1)) = true := toks_ends (scan_toks l.length l L (Nat.le_refl _) h)
theorem scan_len : ∀ (n : Nat) (l : Bs) (ts : List (Tk × Nat)), l.length ≤ n → scan l = .ok ts → ts.length ≤ l.length + 1 := by
  intro n
  induction n with
  | zero =>
    intro l ts hn h
    cases l with
    | nil => have : scan [] = .ok [(.fin, 0)] := rfl
             rw [this] at h; cases h; simp
    | cons => simp at hn
  | succ n ih =>
    intro l ts hn h
    have hs := skipB_le false l
    cases hk : skipB false l with
    | nil => rw [scan_nil hk] at h; cases h; simp
    | cons b r =>
      rw [hk] at hs
      simp at hs
      cases ho : lexOne b r with
      | err e => rw [scan_err hk ho] at h; cases h
      | ok t r' =>
        have := lexOne_le ho
        rw [scan_ok hk ho] at h
        cases hr : scan r' with
        | err => rw [hr] at h; cases h
        | ok ts' =>
          rw [hr] at h
          cases h
          have := ih r' ts' (by omega) hr
          simp; omega
theorem lexOne_e {b : UInt8} {l : Bs} {e : Nat} (h : lexOne b l = .err e) : e ≠ 0 := by
  unfold lexOne lexWord lexNum lexText lexSym at h
  repeat' split at h
  all_goals first
    | (cases h; done)
    | (cases h; decide)
theorem scan_e' : ∀ (n : Nat) (l : Bs) (k e : Nat), l.length ≤ n → scan l = .err k e → e ≠ 0 := by
  intro n
  induction n with
  | zero =>
    intro l k e hn h
    cases l with
    | nil => have : scan [] = .ok [(.fin, 0)] := rfl
             rw [this] at h; cases h
    | cons => simp at hn
  | succ n ih =>
    intro l k e hn h
    have hs := skipB_le false l
    cases hk : skipB false l with
    | nil => rw [scan_nil hk] at h; cases h
    | cons b r =>
      rw [hk] at hs
      simp at hs
      cases ho : lexOne b r with
      | err e' => rw [scan_err hk ho] at h; cases h; exact lexOne_e ho
      | ok t r' =>
        have := lexOne_le ho
        rw [scan_ok hk ho] at h
        cases hr : scan r' with
        | err k' e' => rw [hr] at h; cases h; exact ih r' _ _ (by omega) hr
        | ok ts' => rw [hr] at h; cases h
theorem scan_e {l : Bs} {k e : Nat} (h : scan l = .err k e) : e ≠ 0 := scan_e' l.length l k e (Nat.le_refl _) h
end Go.Pu
