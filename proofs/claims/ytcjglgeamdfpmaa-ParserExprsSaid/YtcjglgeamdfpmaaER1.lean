/- The reference's reader. -/
import Derived.Test.YtcjglgeamdfpmaaEP3
import Derived.Test.YtcjglgeamdfpmaaEM1
set_option linter.unusedSimpArgs false
set_option linter.unnecessarySimpa false
set_option linter.unusedVariables false
set_option maxRecDepth 10000
namespace Go.Am
open Go Go.Pu

abbrev hf (n : Nat) (L : List (Tk × Nat)) (m e : Nat) : Heap := [[.sl false 4 (L.map (tkV n)), .int .i64 ((L.length - m : Nat) : Int), .int .i64 (e : Int)]]
def isA (s : Bs) (ts : List Tk) : Bool := isWord s ts || isSymT s ts

section
variable {n : Nat} {L : List (Tk × Nat)} {t : Tk} {ts : List Tk}

theorem At.more (h : At L (t :: ts)) (ht : t ≠ .fin) : 1 ≤ ts.length := by
  obtain ⟨u, r, e⟩ := ends_ne (h.tl ht).2.1
  rw [e]; simp

theorem f_now (e : Nat) (h : At L (t :: ts)) : acall mach0 n_billingref24_Reader_now [.ptr 0 0] (hf n L (ts.length + 1) e) = some (.ret (tokV t.kind t.val (posV n L (ts.length + 1)) t.str) (hf n L (ts.length + 1) e)) := by
  refine acall_fn rfl (af := a_billingref24_Reader_now) rfl rfl ?_
  have g := h.get n
  have hl := h.len
  simp only [List.length_cons] at hl
  have q : ((L.length - (ts.length + 1) : Nat) : Int) < L.length := by omega
  simp [List.replicate, go_sem, q, g, tokV]

theorem isA_tk (s : Bs) : isA s (t :: ts) = ((decide (t.kind = 1) || decide (t.kind = 4)) && t.str == s) := by
  unfold isA
  rw [isWord_tk, isSymT_tk]
  cases decide (t.kind = 1) <;> cases decide (t.kind = 4) <;> simp

theorem f_is0 (s : Bs) (h : At L (t :: ts)) : acall mach0 n_billingref24_Reader_is [.ptr 0 0, .str s] (hf n L (ts.length + 1) 0) = some (.ret (.bool (isA s (t :: ts))) (hf n L (ts.length + 1) 0)) := by
  refine acall_fn rfl (af := a_billingref24_Reader_is) rfl rfl ?_
  have e := f_now (n := n) 0 h
  rw [isA_tk]
  simp only [hf, tokV] at e ⊢
  simp at e
  by_cases hk : t.kind = 1
  · simp [List.replicate, go_sem, e, hk]
  · have hk' : ¬ (t.kind : Int) = 1 := by omega
    by_cases hk4 : t.kind = 4
    · simp [List.replicate, go_sem, e, hk, hk4, bf' hk']
    · have hk4' : ¬ (t.kind : Int) = 4 := by omega
      simp [List.replicate, go_sem, e, hk, hk4, bf' hk', bf' hk4']
theorem f_isE (s : Bs) (e : Nat) (he : e ≠ 0) (h : At L (t :: ts)) : acall mach0 n_billingref24_Reader_is [.ptr 0 0, .str s] (hf n L (ts.length + 1) e) = some (.ret (.bool false) (hf n L (ts.length + 1) e)) := by
  refine acall_fn rfl (af := a_billingref24_Reader_is) rfl rfl ?_
  have e1 := f_now (n := n) e h
  have he' : ¬ (e : Int) = 0 := by omega
  simp only [hf, tokV] at e1 ⊢
  simp [List.replicate, go_sem, e1, bf' he']

theorem f_next0 (h : At L (t :: ts)) (ht : t ≠ .fin) : acall mach0 n_billingref24_Reader_next [.ptr 0 0] (hf n L (ts.length + 1) 0) = some (.ret (.tup []) (hf n L ts.length 0)) := by
  refine acall_fn rfl (af := a_billingref24_Reader_next) rfl rfl ?_
  have hl := h.len
  have hm := h.more ht
  have h70 := h.2.2
  have w := h.step
  simp only [List.length_cons] at hl
  have w1 : IntKind.wrap .i64 ((L.length : Int) - 1) = (L.length : Int) - 1 := wrap_i64 (by omega)
  have q : ((L.length - (ts.length + 1) : Nat) : Int) < (L.length : Int) - 1 := by omega
  simp [List.replicate, go_sem, w1, q, w]
theorem f_nextE (m e : Nat) (he : e ≠ 0) : acall mach0 n_billingref24_Reader_next [.ptr 0 0] (hf n L m e) = some (.ret (.tup []) (hf n L m e)) := by
  refine acall_fn rfl (af := a_billingref24_Reader_next) rfl rfl ?_
  have he' : ¬ (e : Int) = 0 := by omega
  simp [List.replicate, go_sem, bf' he']
theorem f_fail0 (m e : Nat) : acall mach0 n_billingref24_Reader_fail [.ptr 0 0, .int .i64 e] (hf n L m 0) = some (.ret (.tup []) (hf n L m e)) := by
  refine acall_fn rfl (af := a_billingref24_Reader_fail) rfl rfl ?_
  simp [List.replicate, go_sem]
theorem f_failE (m e e' : Nat) (he : e ≠ 0) : acall mach0 n_billingref24_Reader_fail [.ptr 0 0, .int .i64 e'] (hf n L m e) = some (.ret (.tup []) (hf n L m e)) := by
  refine acall_fn rfl (af := a_billingref24_Reader_fail) rfl rfl ?_
  have he' : ¬ (e : Int) = 0 := by omega
  simp [List.replicate, go_sem, bf' he']

theorem isA_fin {s : Bs} (h : isA s (t :: ts) = true) : t ≠ .fin := by
  intro e
  subst e
  rw [isA_tk] at h
  simp [Tk.kind] at h

theorem f_accept0 (s : Bs) (h : At L ts) : acall mach0 n_billingref24_Reader_accept [.ptr 0 0, .str s] (hf n L ts.length 0) = some (.ret (.bool (isA s ts)) (hf n L (if isA s ts then ts.tail.length else ts.length) 0)) := by
  obtain ⟨t, ts, rfl⟩ := ends_ne h.2.1
  refine acall_fn rfl (af := a_billingref24_Reader_accept) rfl rfl ?_
  have e := f_is0 (n := n) s h
  cases hw : isA s (t :: ts)
  · simp only [hw] at e
    simp [List.replicate, go_sem, e]
  · have e2 := f_next0 (n := n) h (isA_fin hw)
    simp only [hw] at e
    simp [List.replicate, go_sem, e, e2]
theorem f_acceptE (s : Bs) (e : Nat) (he : e ≠ 0) (h : At L ts) : acall mach0 n_billingref24_Reader_accept [.ptr 0 0, .str s] (hf n L ts.length e) = some (.ret (.bool false) (hf n L ts.length e)) := by
  obtain ⟨t, ts, rfl⟩ := ends_ne h.2.1
  refine acall_fn rfl (af := a_billingref24_Reader_accept) rfl rfl ?_
  have e1 := f_isE (n := n) s e he h
  simp [List.replicate, go_sem, e1]
theorem f_expect0 (s : Bs) (h : At L ts) : acall mach0 n_billingref24_Reader_expect [.ptr 0 0, .str s] (hf n L ts.length 0) = some (.ret (.tup []) (if isA s ts then hf n L ts.tail.length 0 else hf n L ts.length 1)) := by
  refine acall_fn rfl (af := a_billingref24_Reader_expect) rfl rfl ?_
  have e := f_accept0 (n := n) s h
  have ef := f_fail0 (n := n) (L := L) ts.length 1
  cases hw : isA s ts
  · simp [hw] at e
    simp at ef
    simp [List.replicate, go_sem, e, ef]
  · simp [hw] at e
    simp [List.replicate, go_sem, e]
theorem f_expectE (s : Bs) (e : Nat) (he : e ≠ 0) (h : At L ts) : acall mach0 n_billingref24_Reader_expect [.ptr 0 0, .str s] (hf n L ts.length e) = some (.ret (.tup []) (hf n L ts.length e)) := by
  refine acall_fn rfl (af := a_billingref24_Reader_expect) rfl rfl ?_
  have e1 := f_acceptE (n := n) s e he h
  have ef := f_failE (n := n) (L := L) ts.length e 1 he
  simp at ef
  simp [List.replicate, go_sem, e1, ef]
end
end Go.Am
