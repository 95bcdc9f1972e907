/- The parser's reader. -/
import Derived.Test.YtcjglgeamdfpmaaEL7
import Derived.Test.YtcjglgeamdfpmaaEM2
import Derived.Test.YtcjglgeamdfpmaaEPt
set_option linter.unusedSimpArgs false
set_option linter.unnecessarySimpa false
set_option linter.unusedVariables false
set_option maxRecDepth 10000
namespace Go.Am
open Go Go.Pu

/-- The rest of a list of tokens. -/
def At (L : List (Tk × Nat)) (ts : List Tk) : Prop := (∃ p r, L = p ++ r ∧ r.map (·.1) = ts) ∧ ends ts = true ∧ L.length ≤ 70000
theorem At.tl {L : List (Tk × Nat)} {t : Tk} {ts : List Tk} (h : At L (t :: ts)) (ht : t ≠ .fin) : At L ts := by
  obtain ⟨⟨p, r, h1, h2⟩, h3, h4⟩ := h
  cases r with
  | nil => cases h2
  | cons x r =>
    simp only [List.map_cons, List.cons.injEq] at h2
    exact ⟨⟨p ++ [x], r, by simp [h1], h2.2⟩, ends_cons h3 ht, h4⟩
theorem At.len {L : List (Tk × Nat)} {ts : List Tk} (h : At L ts) : ts.length ≤ L.length := by
  obtain ⟨⟨p, r, h1, h2⟩, _⟩ := h
  have := congrArg List.length h2
  rw [h1]; simp at this ⊢; omega

/-- The token with m tokens behind it (and itself) in the list. -/
def posV (n : Nat) (L : List (Tk × Nat)) (m : Nat) : Int := (n - (L[L.length - m]?.getD (.fin, 0)).2 : Nat)
theorem nth_mid {p r : List V} {v : V} : nth (p ++ v :: r) p.length = v := by
  induction p with
  | nil => rfl
  | cons x p ih => exact ih
theorem At.get {L : List (Tk × Nat)} {t : Tk} {ts : List Tk} (n : Nat) (h : At L (t :: ts)) : nth (L.map (tkV n)) (L.length - (ts.length + 1)) = tokV t.kind t.val (posV n L (ts.length + 1)) t.str := by
  obtain ⟨⟨p, r, h1, h2⟩, h3, h4⟩ := h
  cases r with
  | nil => cases h2
  | cons x r =>
    simp only [List.map_cons, List.cons.injEq] at h2
    have hl : r.length = ts.length := by have := congrArg List.length h2.2; simpa using this
    have e : L.length - (ts.length + 1) = p.length := by rw [h1]; simp; omega
    have e2 : L.length - (ts.length + 1) = (p.map (tkV n)).length := by rw [e]; simp
    have e3 : posV n L (ts.length + 1) = (n - x.2 : Nat) := by unfold posV; rw [e, h1]; simp
    rw [e2, e3, h1, List.map_append, List.map_cons, nth_mid]
    simp [tkV, h2.1]

abbrev hr (x0 x1 x2 : List V) (n : Nat) (L : List (Tk × Nat)) (m : Nat) : Heap := [x0, x1, x2, [.sl false 4 (L.map (tkV n)), .int .i64 ((L.length - m : Nat) : Int)]]
def pfail (p e : Int) : V := .ifc 88 (.agg [.int .i64 p, .int .i64 e])

section
variable {x0 x1 x2 : List V} {n : Nat} {L : List (Tk × Nat)} {t : Tk} {ts : List Tk}

theorem e_pfail (k m p : Int) (s : Bs) (e : Int) (h : Heap) : acall mach0 n_parser_fail [tokV k m p s, .int .i64 e] h = some (.pan (pfail p e) h) := by
  refine acall_fn rfl (af := a_parser_fail) rfl rfl ?_
  simp [List.replicate, go_sem, pfail, tokV]

theorem e_peek (h : At L (t :: ts)) : acall mach0 n_parser_reader_peek [.ptr 3 0] (hr x0 x1 x2 n L (ts.length + 1)) = some (.ret (tokV t.kind t.val (posV n L (ts.length + 1)) t.str) (hr x0 x1 x2 n L (ts.length + 1))) := by
  refine acall_fn rfl (af := a_parser_reader_peek) rfl rfl ?_
  have g := h.get n
  have hl := h.len
  simp only [List.length_cons] at hl
  have q : ((L.length - (ts.length + 1) : Nat) : Int) < L.length := by omega
  simp [List.replicate, go_sem, q, g, tokV]

theorem isWord_tk (s : Bs) : isWord s (t :: ts) = (decide (t.kind = 1) && t.str == s) := by
  cases t <;> simp [isWord, Tk.kind, Tk.str]
theorem isSymT_tk (s : Bs) : isSymT s (t :: ts) = (decide (t.kind = 4) && t.str == s) := by
  cases t <;> simp [isSymT, Tk.kind, Tk.str]

theorem e_pword (s : Bs) (h : At L (t :: ts)) : acall mach0 n_parser_reader_word [.ptr 3 0, .str s] (hr x0 x1 x2 n L (ts.length + 1)) = some (.ret (.bool (isWord s (t :: ts))) (hr x0 x1 x2 n L (ts.length + 1))) := by
  refine acall_fn rfl (af := a_parser_reader_word) rfl rfl ?_
  have e := e_peek (x0 := x0) (x1 := x1) (x2 := x2) (n := n) h
  rw [isWord_tk]
  simp only [hr, tokV] at e ⊢
  by_cases hk : t.kind = 1
  · simp [List.replicate, go_sem, e, hk]
  · have hk' : ¬ (t.kind : Int) = 1 := by omega
    simp [List.replicate, go_sem, e, hk, bf' hk']
theorem e_psymbol (s : Bs) (h : At L (t :: ts)) : acall mach0 n_parser_reader_symbol [.ptr 3 0, .str s] (hr x0 x1 x2 n L (ts.length + 1)) = some (.ret (.bool (isSymT s (t :: ts))) (hr x0 x1 x2 n L (ts.length + 1))) := by
  refine acall_fn rfl (af := a_parser_reader_symbol) rfl rfl ?_
  have e := e_peek (x0 := x0) (x1 := x1) (x2 := x2) (n := n) h
  rw [isSymT_tk]
  simp only [hr, tokV] at e ⊢
  by_cases hk : t.kind = 4
  · simp [List.replicate, go_sem, e, hk]
  · have hk' : ¬ (t.kind : Int) = 4 := by omega
    simp [List.replicate, go_sem, e, hk, bf' hk']

/-- One step on. -/
theorem At.step (h : At L (t :: ts)) : IntKind.wrap .i64 (((L.length - (ts.length + 1) : Nat) : Int) + 1) = ((L.length - ts.length : Nat) : Int) := by
  have h1 := h.len
  have h2 := h.2.2
  simp only [List.length_cons] at h1
  rw [wrap_i64 (by omega)]; omega

theorem e_skip (h : At L (t :: ts)) : acall mach0 n_parser_reader_skip [.ptr 3 0] (hr x0 x1 x2 n L (ts.length + 1)) = some (.ret (tokV t.kind t.val (posV n L (ts.length + 1)) t.str) (hr x0 x1 x2 n L ts.length)) := by
  refine acall_fn rfl (af := a_parser_reader_skip) rfl rfl ?_
  have e := e_peek (x0 := x0) (x1 := x1) (x2 := x2) (n := n) h
  have w := h.step
  simp only [hr, tokV] at e ⊢
  simp [List.replicate, go_sem, e, w]

theorem e_takeWord (s : Bs) (h : At L (t :: ts)) : acall mach0 n_parser_reader_takeWord [.ptr 3 0, .str s] (hr x0 x1 x2 n L (ts.length + 1)) = some (.ret (.bool (isWord s (t :: ts))) (hr x0 x1 x2 n L (if isWord s (t :: ts) then ts.length else ts.length + 1))) := by
  refine acall_fn rfl (af := a_parser_reader_takeWord) rfl rfl ?_
  have e := e_pword (x0 := x0) (x1 := x1) (x2 := x2) (n := n) s h
  have w := h.step
  simp only [hr] at e ⊢
  cases hw : isWord s (t :: ts) <;> simp [List.replicate, go_sem, e, w, hw]
theorem e_takeSymbol (s : Bs) (h : At L (t :: ts)) : acall mach0 n_parser_reader_takeSymbol [.ptr 3 0, .str s] (hr x0 x1 x2 n L (ts.length + 1)) = some (.ret (.bool (isSymT s (t :: ts))) (hr x0 x1 x2 n L (if isSymT s (t :: ts) then ts.length else ts.length + 1))) := by
  refine acall_fn rfl (af := a_parser_reader_takeSymbol) rfl rfl ?_
  have e := e_psymbol (x0 := x0) (x1 := x1) (x2 := x2) (n := n) s h
  have w := h.step
  simp only [hr] at e ⊢
  cases hw : isSymT s (t :: ts) <;> simp [List.replicate, go_sem, e, w, hw]

/-- What a method of the reader comes to. -/
def errH (x0 x1 x2 : List V) (n : Nat) (L : List (Tk × Nat)) (m e : Nat) : Rt := .pan (pfail (posV n L m) e) (hr x0 x1 x2 n L (m - if e = 15 then 5 else 0))
def rdRt (x0 x1 x2 : List V) (n : Nat) (L : List (Tk × Nat)) {α : Type} (val : α → V) : PR α → Rt
  | .ok a r => .ret (val a) (hr x0 x1 x2 n L r.length)
  | .err m e => errH x0 x1 x2 n L m e
def noneV : Unit → V := fun _ => .tup []

theorem e_needWord (s : Bs) (h : At L (t :: ts)) : acall mach0 n_parser_reader_needWord [.ptr 3 0, .str s] (hr x0 x1 x2 n L (ts.length + 1)) = some (rdRt x0 x1 x2 n L noneV (needW s (t :: ts))) := by
  refine acall_fn rfl (af := a_parser_reader_needWord) rfl rfl ?_
  have e := e_takeWord (x0 := x0) (x1 := x1) (x2 := x2) (n := n) s h
  have e2 := e_peek (x0 := x0) (x1 := x1) (x2 := x2) (n := n) h
  have ef := fun h => e_pfail t.kind t.val (posV n L (ts.length + 1)) t.str 1 h
  simp only [hr, tokV] at e e2 ef ⊢
  unfold needW
  cases hw : isWord s (t :: ts) <;> simp [hw] at e
  · simp [List.replicate, go_sem, e, e2, ef, rdRt, failT, errH]
    simp [pfail, go_sem]
  · simp [List.replicate, go_sem, e, e2, rdRt, noneV]
theorem e_needSymbol (s : Bs) (h : At L (t :: ts)) : acall mach0 n_parser_reader_needSymbol [.ptr 3 0, .str s] (hr x0 x1 x2 n L (ts.length + 1)) = some (rdRt x0 x1 x2 n L noneV (needS s (t :: ts))) := by
  refine acall_fn rfl (af := a_parser_reader_needSymbol) rfl rfl ?_
  have e := e_takeSymbol (x0 := x0) (x1 := x1) (x2 := x2) (n := n) s h
  have e2 := e_peek (x0 := x0) (x1 := x1) (x2 := x2) (n := n) h
  have ef := fun h => e_pfail t.kind t.val (posV n L (ts.length + 1)) t.str 1 h
  simp only [hr, tokV] at e e2 ef ⊢
  unfold needS
  cases hw : isSymT s (t :: ts) <;> simp [hw] at e
  · simp [List.replicate, go_sem, e, e2, ef, rdRt, failT, errH]
    simp [pfail, go_sem]
  · simp [List.replicate, go_sem, e, e2, rdRt, noneV]

theorem e_end (h : At L (t :: ts)) : acall mach0 n_parser_reader_end [.ptr 3 0] (hr x0 x1 x2 n L (ts.length + 1)) = some (rdRt x0 x1 x2 n L noneV (endT (t :: ts))) := by
  refine acall_fn rfl (af := a_parser_reader_end) rfl rfl ?_
  have e := e_peek (x0 := x0) (x1 := x1) (x2 := x2) (n := n) h
  by_cases hk : t = .fin
  · subst hk
    simp only [hr, tokV] at e ⊢
    simp [List.replicate, go_sem, e, Tk.kind, rdRt, endT, noneV]
  · have hk' : ¬ (t.kind : Int) = 0 := by cases t <;> simp [Tk.kind] at hk ⊢
    have e3 : endT (t :: ts) = failT (t :: ts) 1 := by cases t <;> simp [endT] at hk ⊢
    rw [e3]
    simp only [hr, tokV] at e ⊢
    have ef := fun h => e_pfail t.kind t.val (posV n L (ts.length + 1)) t.str 1 h
    simp only [tokV] at ef
    simp [List.replicate, go_sem, e, nt' hk', ef, rdRt, failT, errH]
    simp [pfail, go_sem]

theorem e_name (h : At L (t :: ts)) : acall mach0 n_parser_reader_name [.ptr 3 0] (hr x0 x1 x2 n L (ts.length + 1)) = some (rdRt x0 x1 x2 n L .str (nameT (t :: ts))) := by
  refine acall_fn rfl (af := a_parser_reader_name) rfl rfl ?_
  have e := e_peek (x0 := x0) (x1 := x1) (x2 := x2) (n := n) h
  have e2 := e_skip (x0 := x0) (x1 := x1) (x2 := x2) (n := n) h
  have ef := fun h => e_pfail t.kind t.val (posV n L (ts.length + 1)) t.str 1 h
  simp only [hr, tokV] at e e2 ef ⊢
  by_cases hk : t.kind = 1
  · obtain ⟨w, rfl⟩ : ∃ w, t = .word w := by cases t <;> simp [Tk.kind] at hk; exact ⟨_, rfl⟩
    unfold nameT
    simp only [Tk.kind, Tk.val, Tk.str] at e e2
    have ef := fun h => e_pfail 1 0 (posV n L (ts.length + 1)) w 1 h
    simp only [tokV] at ef
    cases hw : isKw w
    · simp [List.replicate, go_sem, e, e2, e_Keyword, hw, rdRt]
    · simp [List.replicate, go_sem, e, ef, e_Keyword, hw, rdRt, failT, errH]
      simp [pfail, go_sem]
  · have hk' : ¬ (t.kind : Int) = 1 := by omega
    have e3 : nameT (t :: ts) = failT (t :: ts) 1 := by cases t <;> simp [nameT, Tk.kind] at hk ⊢
    rw [e3]
    simp [List.replicate, go_sem, e, ef, nt' hk', rdRt, failT, errH]
    simp [pfail, go_sem]
end
end Go.Am
