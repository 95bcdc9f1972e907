/- The parser's reader: numbers and names. -/
import Derived.Test.YtcjglgeamdfpmaaEP1
set_option linter.unusedSimpArgs false
set_option linter.unnecessarySimpa false
set_option linter.unusedVariables false
set_option maxRecDepth 10000
namespace Go.Am
open Go Go.Pu

section
variable {x0 x1 x2 : List V} {n : Nat} {L : List (Tk × Nat)} {t : Tk} {ts : List Tk}

theorem num_of_kind (h : t.kind = 2) : ∃ d, t = .num d := by
  cases t <;> simp [Tk.kind] at h
  exact ⟨_, rfl⟩

theorem e_pdigits (h : At L (t :: ts)) : acall mach0 n_parser_reader_digits [.ptr 3 0] (hr x0 x1 x2 n L (ts.length + 1)) = some (rdRt x0 x1 x2 n L .str (digitsT (t :: ts))) := by
  refine acall_fn rfl (af := a_parser_reader_digits) rfl rfl ?_
  have e := e_peek (x0 := x0) (x1 := x1) (x2 := x2) (n := n) h
  have e2 := e_skip (x0 := x0) (x1 := x1) (x2 := x2) (n := n) h
  have ef := fun h => e_pfail t.kind t.val (posV n L (ts.length + 1)) t.str 1 h
  simp only [hr, tokV] at e e2 ef ⊢
  by_cases hk : t.kind = 2
  · obtain ⟨d, rfl⟩ := num_of_kind hk
    simp only [Tk.kind, Tk.val, Tk.str] at e e2
    simp [List.replicate, go_sem, e, e2, rdRt, digitsT]
  · have hk' : ¬ (t.kind : Int) = 2 := by omega
    have e3 : digitsT (t :: ts) = failT (t :: ts) 1 := by cases t <;> simp [digitsT, Tk.kind] at hk ⊢
    rw [e3]
    simp [List.replicate, go_sem, e, ef, nt' hk', rdRt, failT, errH]
    simp [pfail, go_sem]

def natI (v : Int) : V := .int .i64 v

theorem e_fixed (size : Nat) (most : Int) (h : At L (t :: ts)) : acall mach0 n_parser_reader_fixed [.ptr 3 0, .int .i64 size, .int .i64 most] (hr x0 x1 x2 n L (ts.length + 1)) = some (rdRt x0 x1 x2 n L (V.int .i64) (fixedT size most (t :: ts))) := by
  refine acall_fn rfl (af := a_parser_reader_fixed) rfl rfl ?_
  have e := e_peek (x0 := x0) (x1 := x1) (x2 := x2) (n := n) h
  have e2 := e_skip (x0 := x0) (x1 := x1) (x2 := x2) (n := n) h
  have ef := fun h => e_pfail t.kind t.val (posV n L (ts.length + 1)) t.str 1 h
  simp only [hr, tokV] at e e2 ef ⊢
  by_cases hk : t.kind = 2
  · obtain ⟨d, rfl⟩ := num_of_kind hk
    simp only [Tk.kind, Tk.val, Tk.str] at e e2
    have ef := fun h => e_pfail 2 (value d) (posV n L (ts.length + 1)) d 1 h
    simp only [tokV] at ef
    unfold fixedT
    by_cases h1 : d.length = size
    · by_cases h2 : (value d : Int) ≤ most
      · have h2' : ¬ most < (value d : Int) := by omega
        simp [List.replicate, go_sem, e, e2, rdRt, h1, h2, h2']
      · have h2' : most < (value d : Int) := by omega
        simp [List.replicate, go_sem, e, ef, rdRt, h1, h2, h2', failT, errH]
        simp [pfail, go_sem]
    · have h1' : ¬ (d.length : Int) = size := by omega
      simp [List.replicate, go_sem, e, ef, rdRt, h1, nt' h1', failT, errH]
      simp [pfail, go_sem]
  · have hk' : ¬ (t.kind : Int) = 2 := by omega
    have e3 : fixedT size most (t :: ts) = failT (t :: ts) 1 := by cases t <;> simp [fixedT, Tk.kind] at hk ⊢
    rw [e3]
    simp [List.replicate, go_sem, e, ef, nt' hk', rdRt, failT, errH]
    simp [pfail, go_sem]

theorem e_pnumber (h : At L (t :: ts)) : acall mach0 n_parser_reader_number [.ptr 3 0] (hr x0 x1 x2 n L (ts.length + 1)) = some (rdRt x0 x1 x2 n L (V.int .i64) (numberT (t :: ts))) := by
  refine acall_fn rfl (af := a_parser_reader_number) rfl rfl ?_
  have e := e_peek (x0 := x0) (x1 := x1) (x2 := x2) (n := n) h
  have e2 := e_skip (x0 := x0) (x1 := x1) (x2 := x2) (n := n) h
  have ef := fun h => e_pfail t.kind t.val (posV n L (ts.length + 1)) t.str 1 h
  simp only [hr, tokV] at e e2 ef ⊢
  by_cases hk : t.kind = 2
  · obtain ⟨d, rfl⟩ := num_of_kind hk
    simp only [Tk.kind, Tk.val, Tk.str] at e e2
    have ef := fun h => e_pfail 2 (value d) (posV n L (ts.length + 1)) d 1 h
    simp only [tokV] at ef
    unfold numberT numB
    by_cases h1 : 1 < d.length
    · cases d with
      | nil => simp at h1
      | cons c d =>
        have h1' : (1 : Int) < ((d.length : Int) + 1) := by simp at h1; omega
        have h1'' : ¬ d = [] := by intro h; subst h; simp at h1
        by_cases h2 : c.toNat = 48
        · have h2' : (c.toNat : Int) = 48 := by omega
          simp [List.replicate, go_sem, e, ef, rdRt, h1', h1'', h2, bt' h2', headIs, failT, errH]
          simp [pfail, go_sem]
        · have h2' : ¬ (c.toNat : Int) = 48 := by omega
          simp [List.replicate, go_sem, e, e2, rdRt, h1', h1'', h2, bf' h2', headIs]
    · have h1' : ¬ (1 : Int) < (d.length : Int) := by omega
      simp [List.replicate, go_sem, e, e2, rdRt, h1, h1']
  · have hk' : ¬ (t.kind : Int) = 2 := by omega
    have e3 : numberT (t :: ts) = failT (t :: ts) 1 := by cases t <;> simp [numberT, Tk.kind] at hk ⊢
    rw [e3]
    simp [List.replicate, go_sem, e, ef, nt' hk', rdRt, failT, errH]
    simp [pfail, go_sem]

theorem e_nameOrAny (h : At L (t :: ts)) : acall mach0 n_parser_reader_nameOrAny [.ptr 3 0] (hr x0 x1 x2 n L (ts.length + 1)) = some (rdRt x0 x1 x2 n L .str (nameOrAny (t :: ts))) := by
  refine acall_fn rfl (af := a_parser_reader_nameOrAny) rfl rfl ?_
  have e := e_takeWord (x0 := x0) (x1 := x1) (x2 := x2) (n := n) kAny h
  have e2 := e_name (x0 := x0) (x1 := x1) (x2 := x2) (n := n) h
  unfold nameOrAny
  by_cases hw : isWord kAny (t :: ts) = true
  · simp only [hw] at e ⊢
    simp only [hr, kAny] at e ⊢
    simp at e
    simp [List.replicate, go_sem, e, rdRt]
  · have hw : isWord kAny (t :: ts) = false := by simpa using hw
    simp only [hw] at e ⊢
    simp only [hr, kAny] at e e2 ⊢
    simp at e
    cases hn : nameT (t :: ts) with
    | ok a r => simp only [hn, rdRt] at e2; simp [List.replicate, go_sem, e, e2, rdRt]
    | err m q => simp only [hn, rdRt, errH, pfail] at e2; simp [List.replicate, go_sem, e, e2, rdRt, errH, pfail]

end

mutual
def exprV : PE → V
  | .mk op num text args => .agg [.int .i64 op, .int .i64 num, .str text, .sl false 4 (exprVs args)]
def exprVs : List PE → List V
  | [] => []
  | a :: l => exprV a :: exprVs l
end
def exprC : PE → List V
  | .mk op num text args => [.int .i64 op, .int .i64 num, .str text, .sl false 4 (exprVs args)]
theorem exprV_eq (e : PE) : exprV e = .agg (exprC e) := by
  obtain ⟨op, num, text, args⟩ := e
  simp [exprV, exprC]

theorem e_two (op : Int) (a b : PE) (h : Heap) : acall mach0 n_parser_two [.int .i64 op, exprV a, exprV b] h = some (.ret (exprV (two op a b)) h) := by
  refine acall_fn rfl (af := a_parser_two) rfl rfl ?_
  obtain ⟨o1, n1, t1, a1⟩ := a
  obtain ⟨o2, n2, t2, a2⟩ := b
  simp [List.replicate, go_sem, exprV, exprVs, two]

theorem e_attribute (s : Bs) : acall mach0 n_parser_attribute [.str s] [] = some (.ret (.bool (isAttr s)) []) := by
  by_cases hs : s ∈ attrs
  · have e : isAttr s = true := by simpa [isAttr] using hs
    rw [e]
    simp only [attrs, List.mem_cons, List.not_mem_nil, or_false] at hs
    repeat' (rcases hs with rfl | hs)
    all_goals first
      | exact (acall_iff _).2 ⟨60, by kernel_rfl⟩
      | (subst hs; exact (acall_iff _).2 ⟨60, by kernel_rfl⟩)
  · have e : isAttr s = false := by simpa [isAttr] using hs
    rw [e]
    simp only [attrs, List.mem_cons, List.not_mem_nil, or_false, not_or] at hs
    have hb : ∀ {x : List UInt8}, ¬ s = x → (s == x) = false := fun h => by simpa using h
    obtain ⟨h1, h2, h3, h4, h5, h6, h7, h8, h9⟩ := hs
    refine acall_fn rfl (af := a_parser_attribute) rfl rfl ?_
    simp [List.replicate, go_sem, hb h1, hb h2, hb h3, hb h4, hb h5, hb h6, hb h7, hb h8, hb h9]
end Go.Am
