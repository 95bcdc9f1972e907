/- The reference's reader: numbers, plain words, lists of words. -/
import Derived.Test.YtcjglgeamdfpmaaER1
import Derived.Test.YtcjglgeamdfpmaaEP2
set_option linter.unusedSimpArgs false
set_option linter.unnecessarySimpa false
set_option linter.unusedVariables false
set_option maxRecDepth 10000
namespace Go.Am
open Go Go.Pu

theorem valF_below : ∀ (k n : Nat) (w : Bs), w.all digitB = true → valF k n w < (n + 1) * 10 ^ w.length
  | 0, n, w, _ => by
    have : 0 < 10 ^ w.length := Nat.pow_pos (by decide)
    have := Nat.le_mul_of_pos_right (n + 1) this
    simp only [valF]; omega
  | k + 1, n, [], _ => by simp [valF]
  | k + 1, n, b :: l, h => by
    simp only [List.all_cons, Bool.and_eq_true] at h
    have ih := valF_below k (10 * n + (b.toNat - 48)) l h.2
    have hb : b.toNat - 48 ≤ 9 := by
      have := h.1
      simp only [digitB, Bool.and_eq_true, decide_eq_true_eq] at this
      omega
    simp only [valF, List.length_cons, Nat.pow_succ]
    have : (10 * n + (b.toNat - 48) + 1) * 10 ^ l.length ≤ ((n + 1) * 10) * 10 ^ l.length := Nat.mul_le_mul_right _ (by omega)
    have e : (n + 1) * (10 ^ l.length * 10) = ((n + 1) * 10) * 10 ^ l.length := by
      rw [Nat.mul_comm (10 ^ l.length) 10, ← Nat.mul_assoc]
    omega
theorem value_most {d : Bs} (h : (Tk.num d).ok = true) : (value d : Int) ≤ 9999999999999999 := by
  simp only [Tk.ok, Bool.and_eq_true, decide_eq_true_eq] at h
  have h1 := valF_below 16 0 d h.1.2
  have h2 : 10 ^ d.length ≤ 10 ^ 16 := Nat.pow_le_pow_right (by decide) h.2
  unfold value
  omega

section
variable {n : Nat} {L : List (Tk × Nat)} {t : Tk} {ts : List Tk}

theorem f_plain0 (h : At L (t :: ts)) : acall mach0 n_billingref24_Reader_plain [.ptr 0 0] (hf n L (ts.length + 1) 0) = some (.ret (.bool (decide (t.kind = 1) && !isKw t.str)) (hf n L (ts.length + 1) 0)) := by
  refine acall_fn rfl (af := a_billingref24_Reader_plain) rfl rfl ?_
  have e := f_now (n := n) 0 h
  simp only [hf, tokV] at e ⊢
  simp at e
  by_cases hk : t.kind = 1
  · simp [List.replicate, go_sem, e, hk, e_rKeyword]
  · have hk' : ¬ (t.kind : Int) = 1 := by omega
    simp [List.replicate, go_sem, e, hk, bf' hk']
theorem f_plainE (e : Nat) (he : e ≠ 0) (h : At L (t :: ts)) : acall mach0 n_billingref24_Reader_plain [.ptr 0 0] (hf n L (ts.length + 1) e) = some (.ret (.bool false) (hf n L (ts.length + 1) e)) := by
  refine acall_fn rfl (af := a_billingref24_Reader_plain) rfl rfl ?_
  have e1 := f_now (n := n) e h
  have he' : ¬ (e : Int) = 0 := by omega
  simp only [hf, tokV] at e1 ⊢
  simp [List.replicate, go_sem, e1, bf' he']

def digOk (many : Nat) (most : Int) (t : Tk) : Bool := decide (t.kind = 2) && (decide (many = 0) || decide (t.str.length = many)) && decide ((t.val : Int) ≤ most)
theorem f_digits0 (many : Nat) (most : Int) (h : At L (t :: ts)) : acall mach0 n_billingref24_Reader_digits [.ptr 0 0, .int .i64 many, .int .i64 most] (hf n L (ts.length + 1) 0) =
    some (if digOk many most t then .ret (tokV t.kind t.val (posV n L (ts.length + 1)) t.str) (hf n L ts.length 0) else .ret (tokV 0 0 0 []) (hf n L (ts.length + 1) 1)) := by
  refine acall_fn rfl (af := a_billingref24_Reader_digits) rfl rfl ?_
  have e := f_now (n := n) 0 h
  have ef := f_fail0 (n := n) (L := L) (ts.length + 1) 1
  simp only [hf, tokV] at e ef ⊢
  simp at e ef
  by_cases hk : t.kind = 2
  · obtain ⟨d, rfl⟩ := num_of_kind hk
    have en := f_next0 (n := n) h (by simp)
    simp only [hf] at en
    simp only [Tk.kind, Tk.val, Tk.str] at e
    simp at en e
    by_cases h0 : many = 0
    · by_cases hv : (value d : Int) ≤ most
      · have hv' : ¬ most < (value d : Int) := by omega
        simp [List.replicate, go_sem, e, en, h0, hv, hv', digOk, Tk.kind, Tk.val, Tk.str]
      · have hv' : most < (value d : Int) := by omega
        simp [List.replicate, go_sem, e, ef, h0, hv, hv', digOk, Tk.kind, Tk.val, Tk.str]
    · have h0' : (0 : Int) < many := by omega
      have h0n : 0 < many := by omega
      by_cases hl : d.length = many
      · by_cases hv : (value d : Int) ≤ most
        · have hv' : ¬ most < (value d : Int) := by omega
          simp [List.replicate, go_sem, e, en, h0, h0', h0n, hl, hv, hv', digOk, Tk.kind, Tk.val, Tk.str]
        · have hv' : most < (value d : Int) := by omega
          simp [List.replicate, go_sem, e, ef, h0, h0', h0n, hl, hv, hv', digOk, Tk.kind, Tk.val, Tk.str]
      · have hl' : ¬ (d.length : Int) = many := by omega
        simp [List.replicate, go_sem, e, ef, h0, h0', h0n, hl, nt' hl', digOk, Tk.kind, Tk.val, Tk.str]
  · have hk' : ¬ (t.kind : Int) = 2 := by omega
    simp [List.replicate, go_sem, e, ef, hk, nt' hk', digOk]

theorem f_number0 (h : At L (t :: ts)) (ho : t.ok = true ∨ t = .fin) : acall mach0 n_billingref24_Reader_number [.ptr 0 0] (hf n L (ts.length + 1) 0) =
    some (match numberT (t :: ts) with
      | .ok v r => .ret (.int .i64 v) (hf n L r.length 0)
      | .err m e => .ret (.int .i64 0) (hf n L m e)) := by
  refine acall_fn rfl (af := a_billingref24_Reader_number) rfl rfl ?_
  have e := f_now (n := n) 0 h
  have ef := f_fail0 (n := n) (L := L) (ts.length + 1) 1
  have ed := f_digits0 (n := n) 0 9999999999999999 h
  by_cases hk : t.kind = 2
  · obtain ⟨d, rfl⟩ := num_of_kind hk
    have hok : (Tk.num d).ok = true := by rcases ho with h | h; exact h; cases h
    have hm := value_most hok
    have hd : digOk 0 9999999999999999 (.num d) = true := by simp [digOk, Tk.kind, Tk.val, hm]
    rw [hd] at ed
    simp only [hf, tokV, Tk.kind, Tk.val, Tk.str] at e ef ed ⊢
    simp at e ef ed
    unfold numberT numB
    by_cases h1 : 1 < d.length
    · cases d with
      | nil => simp at h1
      | cons c d =>
        have h1' : (1 : Int) < ((d.length : Int) + 1) := by simp at h1; omega
        have h1'' : ¬ d = [] := by intro h; subst h; simp at h1
        by_cases h2 : c.toNat = 48
        · have h2' : (c.toNat : Int) = 48 := by omega
          simp [List.replicate, go_sem, e, ef, h1', h1'', h2, bt' h2', headIs, failT]
        · have h2' : ¬ (c.toNat : Int) = 48 := by omega
          simp [List.replicate, go_sem, e, ed, h1', h1'', h2, bf' h2', headIs]
    · have h1' : ¬ (1 : Int) < (d.length : Int) := by omega
      simp [List.replicate, go_sem, e, ed, h1, h1']
  · have e3 : numberT (t :: ts) = failT (t :: ts) 1 := by cases t <;> simp [numberT, Tk.kind] at hk ⊢
    have hd : digOk 0 9999999999999999 t = false := by simp [digOk, hk]
    rw [hd] at ed
    rw [e3]
    simp only [hf, tokV] at e ef ed ⊢
    simp at e ef ed
    by_cases h1 : 1 < t.str.length
    · cases hs : t.str with
      | nil => rw [hs] at h1; simp at h1
      | cons c d =>
        rw [hs] at e h1
        have h1' : (1 : Int) < ((d.length : Int) + 1) := by simp at h1; omega
        by_cases h2 : c.toNat = 48
        · have h2' : (c.toNat : Int) = 48 := by omega
          simp [List.replicate, go_sem, e, ef, h1', bt' h2', failT]
        · have h2' : ¬ (c.toNat : Int) = 48 := by omega
          simp [List.replicate, go_sem, e, ed, h1', bf' h2', failT]
    · have h1' : ¬ (1 : Int) < (t.str.length : Int) := by omega
      simp [List.replicate, go_sem, e, ed, h1', failT]

theorem f_two (op : Int) (a b : PE) (h : Heap) : acall mach0 n_billingref24_two [.int .i64 op, exprV a, exprV b] h = some (.ret (exprV (two op a b)) h) := by
  refine acall_fn rfl (af := a_billingref24_two) rfl rfl ?_
  obtain ⟨o1, n1, t1, a1⟩ := a
  obtain ⟨o2, n2, t2, a2⟩ := b
  simp [List.replicate, go_sem, exprV, exprVs, two]
theorem e_Attributes : acall mach0 n_billingref24_Attributes [] [] = some (.ret (.sl true 1 (ssV attrs)) []) := (acall_iff _).2 ⟨60, by kernel_rfl⟩
end
end Go.Am
