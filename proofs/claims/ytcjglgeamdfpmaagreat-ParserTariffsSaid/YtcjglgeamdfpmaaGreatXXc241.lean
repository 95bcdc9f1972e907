/- How expressions and tariffs stand in the machine. -/
import Derived.Test.YtcjglgeamdfpmaaGreatXFt
import Derived.Test.YtcjglgeamdfpmaaGreatXXpure
import Derived.Test.YtcjglgeamdfpmaaGreatXXc23
import Derived.Test.YtcjglgeamdfpmaaGreatXAmD
import Derived.KernelRfl
namespace Go.Am
open Go Go.Pu
mutual
def exprV : PE → V
 | .mk op num text args => .agg [.int .i64 op, .int .i64 num, .str text, .sl false 4 (exprVs args)]
def exprVs : List PE → List V
 | [] => []
 | a :: l => exprV a :: exprVs l
end
def exprC : PE → List V
 | .mk op num text args => [.int .i64 op, .int .i64 num, .str text, .sl false 4 (exprVs args)]
def slotV (s : SlotP) : V := .agg [.int .i64 s.days, .int .i64 s.lo, .int .i64 s.hi]
def stepV (s : StepP) : V := .agg [.int .i64 s.upto, .int .i64 s.quant, .int .i64 s.price]
def zoneV (z : ZoneP) : V := .agg [.str z.name, .sl false 1 (z.pref.map V.str)]
def slotsV (l : List SlotP) : V := match l with
 | [] => .sl false 0 []
 | l => .sl false 3 (l.map slotV)
theorem slotsV_ne {l : List SlotP} (h : l ≠ []) : slotsV l = .sl false 3 (l.map slotV) := by
 cases l with
 | nil => exact absurd rfl h
 | cons a l => rfl
def bandV (b : BandP) : V := .agg [.str b.name, slotsV b.slots]
def rateV (r : RateP) : V := .agg [.int .i64 r.kind, .str r.zone, .str r.band, .int .i64 r.setup, .sl false 3 (r.steps.map stepV)]
def discV (d : DiscP) : V := .agg (.str d.name :: (exprC d.cond ++ [.int .i64 d.points]))
def tariffV (t : TariffP) : V := .agg [.str t.name, .int .i64 t.start, .bool t.split, .sl false 2 (t.zones.map zoneV), .sl false 2 (t.bands.map bandV), .sl false 5 (t.rates.map rateV), .sl false 6 (t.discs.map discV)]
def slW (z : Nat) (l : List SlotP) : V := .sl false (if l = [] then z else 3) (l.map slotV)
def bandW (z : Nat) (b : BandP) : V := .agg [.str b.name, slW z b.slots]
theorem slW0 (l : List SlotP) : slotsV l = slW 0 l := by cases l <;> rfl
theorem bandW0 : bandV = bandW 0 := by funext b; unfold bandV bandW; rw [slW0]
def tariffW (z : Nat) (t : TariffP) : V := .agg [.str t.name, .int .i64 t.start, .bool t.split, .sl false 2 (t.zones.map zoneV), .sl false 2 (t.bands.map (bandW z)), .sl false 5 (t.rates.map rateV), .sl false 6 (t.discs.map discV)]
theorem tariffW0 : tariffV = tariffW 0 := by funext t; unfold tariffV tariffW; rw [bandW0]
end Go.Am
set_option linter.unusedSimpArgs false
set_option linter.unnecessarySimpa false
set_option linter.unusedVariables false
set_option maxRecDepth 10000
namespace Go.Am
open Go Go.Pu
def At (L : List (Tk × Nat)) (ts : List Tk) : Prop := (∃ p r, L = p ++ r ∧ r.map (·.1) = ts) ∧ ends ts = true ∧ L.length ≤ 70000
theorem At.tl {L : List (Tk × Nat)} {t : Tk} {ts : List Tk} (h : At L (t :: ts)) (ht : t ≠ .fin) : At L ts := by
 obtain ⟨⟨p, r, h1, h2⟩, h3, h4⟩ := h
 cases r with
 | nil => cases h2
 | cons x r =>
  simp only [List.map_cons, List.cons.injEq] at h2
  exact ⟨⟨p ++ [x], r, by simp [h1], h2.2⟩, ends_cons h3 ht, h4⟩
theorem At.len {L : List (Tk × Nat)} {ts : List Tk} (h : At L ts) : ts.length ≤ L.length := by
 obtain ⟨⟨p, r, h1, h2⟩, _⟩ := h
 have := congrArg List.length h2
 rw [h1]; simp at this ⊢; omega
def posV (n : Nat) (L : List (Tk × Nat)) (m : Nat) : Int := (n - (L[L.length - m]?.getD (.fin, 0)).2 : Nat)
theorem nth_mid {p r : List V} {v : V} : nth (p ++ v :: r) p.length = v := by
 induction p with
 | nil => rfl
 | cons x p ih => exact ih
theorem At.get {L : List (Tk × Nat)} {t : Tk} {ts : List Tk} (n : Nat) (h : At L (t :: ts)) : nth (L.map (tkV n)) (L.length - (ts.length + 1)) = tokV t.kind t.val (posV n L (ts.length + 1)) t.str := by
 obtain ⟨⟨p, r, h1, h2⟩, h3, h4⟩ := h
 cases r with
 | nil => cases h2
 | cons x r =>
  simp only [List.map_cons, List.cons.injEq] at h2
  have hl : r.length = ts.length := by have := congrArg List.length h2.2; simpa using this
  have e : L.length - (ts.length + 1) = p.length := by rw [h1]; simp; omega
  have e2 : L.length - (ts.length + 1) = (p.map (tkV n)).length := by rw [e]; simp
  have e3 : posV n L (ts.length + 1) = (n - x.2 : Nat) := by unfold posV; rw [e, h1]; simp
  rw [e2, e3, h1, List.map_append, List.map_cons, nth_mid]
  simp [tkV, h2.1]
abbrev hr (x0 x1 x2 : List V) (n : Nat) (L : List (Tk × Nat)) (m : Nat) : Heap := [x0, x1, x2, [.sl false 4 (L.map (tkV n)), .int .i64 ((L.length - m : Nat) : Int)]]
def pfail (p e : Int) : V := .ifc 43 (.agg [.int .i64 p, .int .i64 e])
section
variable {x0 x1 x2 : List V} {n : Nat} {L : List (Tk × Nat)} {t : Tk} {ts : List Tk}
theorem e_pfail (k m p : Int) (s : Bs) (e : Int) (h : Heap) : acall mach0 n_parser_fail [tokV k m p s, .int .i64 e] h = some (.pan (pfail p e) h) := by
 refine acall_fn rfl (af := a_parser_fail) rfl rfl ?_
 simp [List.replicate, go_sem, pfail, tokV]
theorem e_peek (h : At L (t :: ts)) : acall mach0 n_parser_reader_peek [.ptr 3 0] (hr x0 x1 x2 n L (ts.length + 1)) = some (.ret (tokV t.kind t.val (posV n L (ts.length + 1)) t.str) (hr x0 x1 x2 n L (ts.length + 1))) := by
 refine acall_fn rfl (af := a_parser_reader_peek) rfl rfl ?_
 have g := h.get n
 have hl := h.len
 simp only [List.length_cons] at hl
 have q : ((L.length - (ts.length + 1) : Nat) : Int) < L.length := by omega
 simp [List.replicate, go_sem, q, g, tokV]
theorem isWord_tk (s : Bs) : isWord s (t :: ts) = (decide (t.kind = 1) && t.str == s) := by
 cases t <;> simp [isWord, Tk.kind, Tk.str]
theorem isSymT_tk (s : Bs) : isSymT s (t :: ts) = (decide (t.kind = 4) && t.str == s) := by
 cases t <;> simp [isSymT, Tk.kind, Tk.str]
theorem e_pword (s : Bs) (h : At L (t :: ts)) : acall mach0 n_parser_reader_word [.ptr 3 0, .str s] (hr x0 x1 x2 n L (ts.length + 1)) = some (.ret (.bool (isWord s (t :: ts))) (hr x0 x1 x2 n L (ts.length + 1))) := by
 refine acall_fn rfl (af := a_parser_reader_word) rfl rfl ?_
 have e := e_peek (x0 := x0) (x1 := x1) (x2 := x2) (n := n) h
 rw [isWord_tk]
 simp only [hr, tokV] at e ⊢
 by_cases hk : t.kind = 1
 ·simp [List.replicate, go_sem, e, hk]
 ·have hk' : ¬ (t.kind : Int) = 1 := by omega
  simp [List.replicate, go_sem, e, hk, bf' hk']
theorem e_psymbol (s : Bs) (h : At L (t :: ts)) : acall mach0 n_parser_reader_symbol [.ptr 3 0, .str s] (hr x0 x1 x2 n L (ts.length + 1)) = some (.ret (.bool (isSymT s (t :: ts))) (hr x0 x1 x2 n L (ts.length + 1))) := by
 refine acall_fn rfl (af := a_parser_reader_symbol) rfl rfl ?_
 have e := e_peek (x0 := x0) (x1 := x1) (x2 := x2) (n := n) h
 rw [isSymT_tk]
 simp only [hr, tokV] at e ⊢
 by_cases hk : t.kind = 4
 ·simp [List.replicate, go_sem, e, hk]
 ·have hk' : ¬ (t.kind : Int) = 4 := by omega
  simp [List.replicate, go_sem, e, hk, bf' hk']
theorem At.step (h : At L (t :: ts)) : IntKind.wrap .i64 (((L.length - (ts.length + 1) : Nat) : Int) + 1) = ((L.length - ts.length : Nat) : Int) := by
 have h1 := h.len
 have h2 := h.2.2
 simp only [List.length_cons] at h1
 rw [wrap_i64 (by omega)]; omega
theorem e_skip (h : At L (t :: ts)) : acall mach0 n_parser_reader_skip [.ptr 3 0] (hr x0 x1 x2 n L (ts.length + 1)) = some (.ret (tokV t.kind t.val (posV n L (ts.length + 1)) t.str) (hr x0 x1 x2 n L ts.length)) := by
 refine acall_fn rfl (af := a_parser_reader_skip) rfl rfl ?_
 have e := e_peek (x0 := x0) (x1 := x1) (x2 := x2) (n := n) h
 have w := h.step
 simp only [hr, tokV] at e ⊢
 simp [List.replicate, go_sem, e, w]
theorem e_takeWord (s : Bs) (h : At L (t :: ts)) : acall mach0 n_parser_reader_takeWord [.ptr 3 0, .str s] (hr x0 x1 x2 n L (ts.length + 1)) = some (.ret (.bool (isWord s (t :: ts))) (hr x0 x1 x2 n L (if isWord s (t :: ts) then ts.length else ts.length + 1))) := by
 refine acall_fn rfl (af := a_parser_reader_takeWord) rfl rfl ?_
 have e := e_pword (x0 := x0) (x1 := x1) (x2 := x2) (n := n) s h
 have w := h.step
 simp only [hr] at e ⊢
 cases hw : isWord s (t :: ts) <;> simp [List.replicate, go_sem, e, w, hw]
theorem e_takeSymbol (s : Bs) (h : At L (t :: ts)) : acall mach0 n_parser_reader_takeSymbol [.ptr 3 0, .str s] (hr x0 x1 x2 n L (ts.length + 1)) = some (.ret (.bool (isSymT s (t :: ts))) (hr x0 x1 x2 n L (if isSymT s (t :: ts) then ts.length else ts.length + 1))) := by
 refine acall_fn rfl (af := a_parser_reader_takeSymbol) rfl rfl ?_
 have e := e_psymbol (x0 := x0) (x1 := x1) (x2 := x2) (n := n) s h
 have w := h.step
 simp only [hr] at e ⊢
 cases hw : isSymT s (t :: ts) <;> simp [List.replicate, go_sem, e, w, hw]
def errH (x0 x1 x2 : List V) (n : Nat) (L : List (Tk × Nat)) (m e : Nat) : Rt := .pan (pfail (posV n L m) e) (hr x0 x1 x2 n L (m - if e = 15 then 5 else 0))
def rdRt (x0 x1 x2 : List V) (n : Nat) (L : List (Tk × Nat)) {α : Type} (val : α → V) : PR α → Rt
 | .ok a r => .ret (val a) (hr x0 x1 x2 n L r.length)
 | .err m e => errH x0 x1 x2 n L m e
def noneV : Unit → V := fun _ => .tup []
theorem e_needWord (s : Bs) (h : At L (t :: ts)) : acall mach0 n_parser_reader_needWord [.ptr 3 0, .str s] (hr x0 x1 x2 n L (ts.length + 1)) = some (rdRt x0 x1 x2 n L noneV (needW s (t :: ts))) := by
 refine acall_fn rfl (af := a_parser_reader_needWord) rfl rfl ?_
 have e := e_takeWord (x0 := x0) (x1 := x1) (x2 := x2) (n := n) s h
 have e2 := e_peek (x0 := x0) (x1 := x1) (x2 := x2) (n := n) h
 have ef := fun h => e_pfail t.kind t.val (posV n L (ts.length + 1)) t.str 1 h
 simp only [hr, tokV] at e e2 ef ⊢
 unfold needW
 cases hw : isWord s (t :: ts) <;> simp [hw] at e
 ·simp [List.replicate, go_sem, e, e2, ef, rdRt, failT, errH]
  simp [pfail, go_sem]
 ·simp [List.replicate, go_sem, e, e2, rdRt, noneV]
theorem e_needSymbol (s : Bs) (h : At L (t :: ts)) : acall mach0 n_parser_reader_needSymbol [.ptr 3 0, .str s] (hr x0 x1 x2 n L (ts.length + 1)) = some (rdRt x0 x1 x2 n L noneV (needS s (t :: ts))) := by
 refine acall_fn rfl (af := a_parser_reader_needSymbol) rfl rfl ?_
 have e := e_takeSymbol (x0 := x0) (x1 := x1) (x2 := x2) (n := n) s h
 have e2 := e_peek (x0 := x0) (x1 := x1) (x2 := x2) (n := n) h
 have ef := fun h => e_pfail t.kind t.val (posV n L (ts.length + 1)) t.str 1 h
 simp only [hr, tokV] at e e2 ef ⊢
 unfold needS
 cases hw : isSymT s (t :: ts) <;> simp [hw] at e
 ·simp [List.replicate, go_sem, e, e2, ef, rdRt, failT, errH]
  simp [pfail, go_sem]
 ·simp [List.replicate, go_sem, e, e2, rdRt, noneV]
theorem e_end (h : At L (t :: ts)) : acall mach0 n_parser_reader_end [.ptr 3 0] (hr x0 x1 x2 n L (ts.length + 1)) = some (rdRt x0 x1 x2 n L noneV (endT (t :: ts))) := by
 refine acall_fn rfl (af := a_parser_reader_end) rfl rfl ?_
 have e := e_peek (x0 := x0) (x1 := x1) (x2 := x2) (n := n) h
 by_cases hk : t = .fin
 ·subst hk
  simp only [hr, tokV] at e ⊢
  simp [List.replicate, go_sem, e, Tk.kind, rdRt, endT, noneV]
 ·have hk' : ¬ (t.kind : Int) = 0 := by cases t <;> simp [Tk.kind] at hk ⊢
  have e3 : endT (t :: ts) = failT (t :: ts) 1 := by cases t <;> simp [endT] at hk ⊢
  rw [e3]
  simp only [hr, tokV] at e ⊢
  have ef := fun h => e_pfail t.kind t.val (posV n L (ts.length + 1)) t.str 1 h
  simp only [tokV] at ef
  simp [List.replicate, go_sem, e, nt' hk', ef, rdRt, failT, errH]
  simp [pfail, go_sem]
theorem e_name (h : At L (t :: ts)) : acall mach0 n_parser_reader_name [.ptr 3 0] (hr x0 x1 x2 n L (ts.length + 1)) = some (rdRt x0 x1 x2 n L .str (nameT (t :: ts))) := by
 refine acall_fn rfl (af := a_parser_reader_name) rfl rfl ?_
 have e := e_peek (x0 := x0) (x1 := x1) (x2 := x2) (n := n) h
 have e2 := e_skip (x0 := x0) (x1 := x1) (x2 := x2) (n := n) h
 have ef := fun h => e_pfail t.kind t.val (posV n L (ts.length + 1)) t.str 1 h
 simp only [hr, tokV] at e e2 ef ⊢
 by_cases hk : t.kind = 1
 ·obtain ⟨w, rfl⟩ : ∃ w, t = .word w := by cases t <;> simp [Tk.kind] at hk; exact ⟨_, rfl⟩
  unfold nameT
  simp only [Tk.kind, Tk.val, Tk.str] at e e2
  have ef := fun h => e_pfail 1 0 (posV n L (ts.length + 1)) w 1 h
  simp only [tokV] at ef
  cases hw : isKw w
  ·simp [List.replicate, go_sem, e, e2, e_Keyword, hw, rdRt]
  ·simp [List.replicate, go_sem, e, ef, e_Keyword, hw, rdRt, failT, errH]
   simp [pfail, go_sem]
 ·have hk' : ¬ (t.kind : Int) = 1 := by omega
  have e3 : nameT (t :: ts) = failT (t :: ts) 1 := by cases t <;> simp [nameT, Tk.kind] at hk ⊢
  rw [e3]
  simp [List.replicate, go_sem, e, ef, nt' hk', rdRt, failT, errH]
  simp [pfail, go_sem]
end
end Go.Am
namespace Go.Am
open Go Go.Pu
section
variable {x0 x1 x2 : List V} {n : Nat} {L : List (Tk × Nat)} {t : Tk} {ts : List Tk}
theorem num_of_kind (h : t.kind = 2) : ∃ d, t = .num d := by
 cases t <;> simp [Tk.kind] at h
 exact ⟨_, rfl⟩
theorem e_pdigits (h : At L (t :: ts)) : acall mach0 n_parser_reader_digits [.ptr 3 0] (hr x0 x1 x2 n L (ts.length + 1)) = some (rdRt x0 x1 x2 n L .str (digitsT (t :: ts))) := by
 refine acall_fn rfl (af := a_parser_reader_digits) rfl rfl ?_
 have e := e_peek (x0 := x0) (x1 := x1) (x2 := x2) (n := n) h
 have e2 := e_skip (x0 := x0) (x1 := x1) (x2 := x2) (n := n) h
 have ef := fun h => e_pfail t.kind t.val (posV n L (ts.length + 1)) t.str 1 h
 simp only [hr, tokV] at e e2 ef ⊢
 by_cases hk : t.kind = 2
 ·obtain ⟨d, rfl⟩ := num_of_kind hk
  simp only [Tk.kind, Tk.val, Tk.str] at e e2
  simp [List.replicate, go_sem, e, e2, rdRt, digitsT]
 ·have hk' : ¬ (t.kind : Int) = 2 := by omega
  have e3 : digitsT (t :: ts) = failT (t :: ts) 1 := by cases t <;> simp [digitsT, Tk.kind] at hk ⊢
  rw [e3]
  simp [List.replicate, go_sem, e, ef, nt' hk', rdRt, failT, errH]
  simp [pfail, go_sem]
def natI (v : Int) : V := .int .i64 v
theorem e_fixed (size : Nat) (most : Int) (h : At L (t :: ts)) : acall mach0 n_parser_reader_fixed [.ptr 3 0, .int .i64 size, .int .i64 most] (hr x0 x1 x2 n L (ts.length + 1)) = some (rdRt x0 x1 x2 n L (V.int .i64) (fixedT size most (t :: ts))) := by
 refine acall_fn rfl (af := a_parser_reader_fixed) rfl rfl ?_
 have e := e_peek (x0 := x0) (x1 := x1) (x2 := x2) (n := n) h
 have e2 := e_skip (x0 := x0) (x1 := x1) (x2 := x2) (n := n) h
 have ef := fun h => e_pfail t.kind t.val (posV n L (ts.length + 1)) t.str 1 h
 simp only [hr, tokV] at e e2 ef ⊢
 by_cases hk : t.kind = 2
 ·obtain ⟨d, rfl⟩ := num_of_kind hk
  simp only [Tk.kind, Tk.val, Tk.str] at e e2
  have ef := fun h => e_pfail 2 (value d) (posV n L (ts.length + 1)) d 1 h
  simp only [tokV] at ef
  unfold fixedT
  by_cases h1 : d.length = size
  ·by_cases h2 : (value d : Int) ≤ most
   ·have h2' : ¬ most < (value d : Int) := by omega
    simp [List.replicate, go_sem, e, e2, rdRt, h1, h2, h2']
   ·have h2' : most < (value d : Int) := by omega
    simp [List.replicate, go_sem, e, ef, rdRt, h1, h2, h2', failT, errH]
    simp [pfail, go_sem]
  ·have h1' : ¬ (d.length : Int) = size := by omega
   simp [List.replicate, go_sem, e, ef, rdRt, h1, nt' h1', failT, errH]
   simp [pfail, go_sem]
 ·have hk' : ¬ (t.kind : Int) = 2 := by omega
  have e3 : fixedT size most (t :: ts) = failT (t :: ts) 1 := by cases t <;> simp [fixedT, Tk.kind] at hk ⊢
  rw [e3]
  simp [List.replicate, go_sem, e, ef, nt' hk', rdRt, failT, errH]
  simp [pfail, go_sem]
theorem e_pnumber (h : At L (t :: ts)) : acall mach0 n_parser_reader_number [.ptr 3 0] (hr x0 x1 x2 n L (ts.length + 1)) = some (rdRt x0 x1 x2 n L (V.int .i64) (numberT (t :: ts))) := by
 refine acall_fn rfl (af := a_parser_reader_number) rfl rfl ?_
 have e := e_peek (x0 := x0) (x1 := x1) (x2 := x2) (n := n) h
 have e2 := e_skip (x0 := x0) (x1 := x1) (x2 := x2) (n := n) h
 have ef := fun h => e_pfail t.kind t.val (posV n L (ts.length + 1)) t.str 1 h
 simp only [hr, tokV] at e e2 ef ⊢
 by_cases hk : t.kind = 2
 ·obtain ⟨d, rfl⟩ := num_of_kind hk
  simp only [Tk.kind, Tk.val, Tk.str] at e e2
  have ef := fun h => e_pfail 2 (value d) (posV n L (ts.length + 1)) d 1 h
  simp only [tokV] at ef
  unfold numberT numB
  by_cases h1 : 1 < d.length
  ·cases d with
   | nil => simp at h1
   | cons c d =>
    have h1' : (1 : Int) < ((d.length : Int) + 1) := by simp at h1; omega
    have h1'' : ¬ d = [] := by intro h; subst h; simp at h1
    by_cases h2 : c.toNat = 48
    ·have h2' : (c.toNat : Int) = 48 := by omega
     simp [List.replicate, go_sem, e, ef, rdRt, h1', h1'', h2, bt' h2', headIs, failT, errH]
     simp [pfail, go_sem]
    ·have h2' : ¬ (c.toNat : Int) = 48 := by omega
     simp [List.replicate, go_sem, e, e2, rdRt, h1', h1'', h2, bf' h2', headIs]
  ·have h1' : ¬ (1 : Int) < (d.length : Int) := by omega
   simp [List.replicate, go_sem, e, e2, rdRt, h1, h1']
 ·have hk' : ¬ (t.kind : Int) = 2 := by omega
  have e3 : numberT (t :: ts) = failT (t :: ts) 1 := by cases t <;> simp [numberT, Tk.kind] at hk ⊢
  rw [e3]
  simp [List.replicate, go_sem, e, ef, nt' hk', rdRt, failT, errH]
  simp [pfail, go_sem]
theorem e_nameOrAny (h : At L (t :: ts)) : acall mach0 n_parser_reader_nameOrAny [.ptr 3 0] (hr x0 x1 x2 n L (ts.length + 1)) = some (rdRt x0 x1 x2 n L .str (nameOrAny (t :: ts))) := by
 refine acall_fn rfl (af := a_parser_reader_nameOrAny) rfl rfl ?_
 have e := e_takeWord (x0 := x0) (x1 := x1) (x2 := x2) (n := n) kAny h
 have e2 := e_name (x0 := x0) (x1 := x1) (x2 := x2) (n := n) h
 unfold nameOrAny
 by_cases hw : isWord kAny (t :: ts) = true
 ·simp only [hw] at e ⊢
  simp only [hr, kAny] at e ⊢
  simp at e
  simp [List.replicate, go_sem, e, rdRt]
 ·have hw : isWord kAny (t :: ts) = false := by simpa using hw
  simp only [hw] at e ⊢
  simp only [hr, kAny] at e e2 ⊢
  simp at e
  cases hn : nameT (t :: ts) with
  | ok a r => simp only [hn, rdRt] at e2; simp [List.replicate, go_sem, e, e2, rdRt]
  | err m q => simp only [hn, rdRt, errH, pfail] at e2; simp [List.replicate, go_sem, e, e2, rdRt, errH, pfail]
end
theorem e_two (op : Int) (a b : PE) (h : Heap) : acall mach0 n_parser_two [.int .i64 op, exprV a, exprV b] h = some (.ret (exprV (two op a b)) h) := by
 refine acall_fn rfl (af := a_parser_two) rfl rfl ?_
 obtain ⟨o1, n1, t1, a1⟩ := a
 obtain ⟨o2, n2, t2, a2⟩ := b
 simp [List.replicate, go_sem, exprV, exprVs, two]
theorem e_attribute (s : Bs) : acall mach0 n_parser_attribute [.str s] [] = some (.ret (.bool (isAttr s)) []) := by
 by_cases hs : s ∈ attrs
 ·have e : isAttr s = true := by simpa [isAttr] using hs
  rw [e]
  simp only [attrs, List.mem_cons, List.not_mem_nil, or_false] at hs
  repeat' (rcases hs with rfl | hs)
  all_goals first
   | exact (acall_iff _).2 ⟨60, by kernel_rfl⟩
   | (subst hs; exact (acall_iff _).2 ⟨60, by kernel_rfl⟩)
 ·have e : isAttr s = false := by simpa [isAttr] using hs
  rw [e]
  simp only [attrs, List.mem_cons, List.not_mem_nil, or_false, not_or] at hs
  have hb : ∀ {x : List UInt8}, ¬ s = x → (s == x) = false := fun h => by simpa using h
  obtain ⟨h1, h2, h3, h4, h5, h6, h7, h8, h9⟩ := hs
  refine acall_fn rfl (af := a_parser_attribute) rfl rfl ?_
  simp [List.replicate, go_sem, hb h1, hb h2, hb h3, hb h4, hb h5, hb h6, hb h7, hb h8, hb h9]
end Go.Am
namespace Go.Am
open Go Go.Pu
section
variable {x0 x1 x2 : List V} {n : Nat} {L : List (Tk × Nat)}
theorem At.word {s : Bs} {ts : List Tk} (h : At L ts) (hw : isWord s ts = true) : At L ts.tail := by
 have e := isWord_cons hw
 rw [e] at h
 exact h.tl (by simp)
theorem At.sym {s : Bs} {ts : List Tk} (h : At L ts) (hw : isSymT s ts = true) : At L ts.tail := by
 have e := isSymT_cons hw
 rw [e] at h
 exact h.tl (by simp)
theorem At.chain {l : Nat} {op : Int} {ts : List Tk} (h : At L ts) (hc : chainOp l ts = some op) : At L ts.tail := by
 unfold chainOp at hc
 repeat' split at hc
 all_goals first
  | (cases hc; done)
  | (rename_i hw; first | exact h.word hw | exact h.sym hw)
theorem At.cmp {o : Int × Bool} {ts : List Tk} (h : At L ts) (hc : cmpOp ts = some o) : At L ts.tail := by
 unfold cmpOp at hc
 repeat' split at hc
 all_goals first
  | (cases hc; done)
  | (rename_i hw; exact h.sym hw)
theorem p_at : ∀ k, (∀ l ts a r, pE k l ts = some (.ok a r) → At L ts → At L r) ∧ (∀ l a ts b r, pL k l a ts = some (.ok b r) → At L ts → At L r) := by
 intro k
 induction k with
 | zero => exact ⟨fun l ts a r h => by simp [pE] at h, fun l a ts b r h => by simp [pL] at h⟩
 | succ k ih =>
  obtain ⟨i1, i2⟩ := ih
  constructor
  ·intro l ts a r h hA
   rw [pE_succ] at h
   split at h
   ·split at h
    ·rename_i hw
     rcases bindO_some h with ⟨b, q, h1, h2⟩ | ⟨m, e, h1, h2⟩
     ·cases h2; exact i1 _ _ _ _ h1 (hA.word hw)
     ·cases h2
    ·exact i1 _ _ _ _ h hA
   ·split at h
    ·rcases bindO_some h with ⟨b, q, h1, h2⟩ | ⟨m, e, h1, h2⟩
     ·have hq := i1 _ _ _ _ h1 hA
      split at h2
      ·cases h2; exact hq
      ·rename_i hc
       rcases bindO_some h2 with ⟨c, q', h3, h4⟩ | ⟨m, e, h3, h4⟩
       ·cases h4; exact i1 _ _ _ _ h3 (hq.cmp hc)
       ·cases h4
     ·cases h2
    ·split at h
     ·split at h
      ·split at h
       ·cases h; exact hA.tl (by simp)
       ·cases h
      ·cases h; exact hA.tl (by simp)
      ·split at h
       ·cases h; exact hA.tl (by simp)
       ·split at h
        ·cases h
        ·cases h; exact hA.tl (by simp)
      ·split at h
       ·rename_i hw
        rcases bindO_some h with ⟨b, q, h1, h2⟩ | ⟨m, e, h1, h2⟩
        ·have hq := i1 _ _ _ _ h1 (hA.sym hw)
         split at h2
         ·rename_i hw2; cases h2; exact hq.sym hw2
         ·cases h2
        ·cases h2
       ·cases h
     ·rcases bindO_some h with ⟨b, q, h1, h2⟩ | ⟨m, e, h1, h2⟩
      ·exact i2 _ _ _ _ _ h2 (i1 _ _ _ _ h1 hA)
      ·cases h2
  ·intro l a ts b r h hA
   rw [pL_succ] at h
   split at h
   ·cases h; exact hA
   ·rename_i hc
    rcases bindO_some h with ⟨c, q, h1, h2⟩ | ⟨m, e, h1, h2⟩
    ·exact i2 _ _ _ _ _ h2 (i1 _ _ _ _ h1 (hA.chain hc))
    ·cases h2
def EqE (x0 x1 x2 : List V) (n : Nat) (L : List (Tk × Nat)) (f : FuncId) (l k : Nat) : Prop := ∀ ts r, pE k l ts = some r → At L ts → acall mach0 f [.ptr 3 0] (hr x0 x1 x2 n L ts.length) = some (rdRt x0 x1 x2 n L exprV r)
abbrev box0 : V := .box [.int .i64 0, .int .i64 0, .str [], .sl false 4 []]
abbrev kX (x0 x1 x2 : List V) (n : Nat) (L : List (Tk × Nat)) (r : PR PE) : Ex → St → Prop := FinQ [.cell 2 (some 4)] 4 (rdRt x0 x1 x2 n L exprV r)
theorem either_l : ∀ k, (∀ m, m < k → EqE x0 x1 x2 n L n_parser_reader_both 2 m) → ∀ a ts r, pL k 1 a ts = some r → At L ts →
  Run mach0 (.c parser_reader_either_l1b :: .lp parser_reader_either_l1 :: .endB 0 :: .c parser_reader_either_k1 :: []) .norm ⟨(.ptr 3 0 :: .undef :: box0 :: .box (exprC a) :: .undef :: .undef :: .undef :: .undef :: .undef :: .undef :: .undef :: .undef :: .undef :: []), hr x0 x1 x2 n L ts.length⟩ (kX x0 x1 x2 n L r) := by
 intro k
 induction k with
 | zero => intro _ a ts r h; simp [pL] at h
 | succ k ih =>
  intro hE a ts r h hA
  have ih := ih (fun m hm => hE m (by omega))
  have hE := hE k (by omega)
  obtain ⟨t, ts, rfl⟩ := ends_ne hA.2.1
  have et := e_takeWord (x0 := x0) (x1 := x1) (x2 := x2) (n := n) kOr hA
  rw [pL_succ] at h
  obtain ⟨op, num, text, args⟩ := a
  simp only [exprC]
  by_cases hw : isWord kOr (t :: ts) = true
  ·have hA2 := hA.word hw
   simp only [List.tail_cons] at hA2
   simp only [hw] at et
   simp only [kOr, if_true] at et
   have hc : chainOp 1 (t :: ts) = some 6 := by simp only [chainOp, hw, if_true]
   rw [hc] at h
   simp only [List.tail_cons] at h
   rcases bindO_some h with ⟨b, q, h1, h2⟩ | ⟨m, e, h1, h2⟩
   ·have eb := hE ts _ h1 hA2
    have ih := ih _ q r h2 ((p_at k).1 _ _ _ _ h1 hA2)
    have e2 := fun h => e_two 6 (.mk op num text args) b h
    obtain ⟨op2, num2, text2, args2⟩ := b
    simp only [two, exprC, exprVs, exprV] at ih
    simp only [exprV, exprVs, two, rdRt] at e2 eb
    unfold parser_reader_either_l1b
    simp [go_sem, et, eb, e2]
    exact ih
   ·subst h2
    have eb := hE ts _ h1 hA2
    simp only [rdRt, errH, pfail] at eb
    unfold parser_reader_either_l1b
    simp [go_sem, et, eb, rdRt, errH, pfail]
  ·have hw : isWord kOr (t :: ts) = false := by simpa using hw
   have hc : chainOp 1 (t :: ts) = none := by simp [chainOp, hw]
   rw [hc] at h
   simp only [Option.some.injEq] at h
   subst h
   simp only [hw] at et
   simp [kOr] at et
   unfold parser_reader_either_l1b
   simp [go_sem, et, parser_reader_either_k1]
   simp [go_sem, parser_reader_either_k1b, rdRt, exprV, kX, hr]
theorem either_f (k : Nat) (hE : ∀ m, m ≤ k → EqE x0 x1 x2 n L n_parser_reader_both 2 m) : EqE x0 x1 x2 n L n_parser_reader_either 1 (k + 1) := by
 intro ts r h hA
 refine acall_fn rfl (af := a_parser_reader_either) rfl rfl ?_
 rw [pE_succ, if_neg (by decide), if_neg (by decide), if_neg (by decide)] at h
 rcases bindO_some h with ⟨a, q, h1, h2⟩ | ⟨m, e, h1, h2⟩
 ·have ea := hE k (Nat.le_refl k) ts _ h1 hA
  have el := either_l k (fun m hm => hE m (by omega)) a q r h2 ((p_at k).1 _ _ _ _ h1 hA)
  obtain ⟨op, num, text, args⟩ := a
  simp only [exprC] at el
  simp only [rdRt, exprV] at ea
  simp [List.replicate, go_sem, ea]
  simpa [kX, hr] using el
 ·subst h2
  have ea := hE k (Nat.le_refl k) ts _ h1 hA
  simp only [rdRt, errH, pfail] at ea
  simp [List.replicate, go_sem, ea, rdRt, errH, pfail]
theorem both_l : ∀ k, (∀ m, m < k → EqE x0 x1 x2 n L n_parser_reader_negated 3 m) → ∀ a ts r, pL k 2 a ts = some r → At L ts →
  Run mach0 (.c parser_reader_both_l1b :: .lp parser_reader_both_l1 :: .endB 0 :: .c parser_reader_both_k1 :: []) .norm ⟨(.ptr 3 0 :: .undef :: box0 :: .box (exprC a) :: .undef :: .undef :: .undef :: .undef :: .undef :: .undef :: .undef :: .undef :: .undef :: []), hr x0 x1 x2 n L ts.length⟩ (kX x0 x1 x2 n L r) := by
 intro k
 induction k with
 | zero => intro _ a ts r h; simp [pL] at h
 | succ k ih =>
  intro hE a ts r h hA
  have ih := ih (fun m hm => hE m (by omega))
  have hE := hE k (by omega)
  obtain ⟨t, ts, rfl⟩ := ends_ne hA.2.1
  have et := e_takeWord (x0 := x0) (x1 := x1) (x2 := x2) (n := n) kAnd hA
  rw [pL_succ] at h
  obtain ⟨op, num, text, args⟩ := a
  simp only [exprC]
  by_cases hw : isWord kAnd (t :: ts) = true
  ·have hA2 := hA.word hw
   simp only [List.tail_cons] at hA2
   simp only [hw] at et
   simp only [kAnd, if_true] at et
   have hc : chainOp 2 (t :: ts) = some 5 := by simp only [chainOp, hw, if_true]
   rw [hc] at h
   simp only [List.tail_cons] at h
   rcases bindO_some h with ⟨b, q, h1, h2⟩ | ⟨m, e, h1, h2⟩
   ·have eb := hE ts _ h1 hA2
    have ih := ih _ q r h2 ((p_at k).1 _ _ _ _ h1 hA2)
    have e2 := fun h => e_two 5 (.mk op num text args) b h
    obtain ⟨op2, num2, text2, args2⟩ := b
    simp only [two, exprC, exprVs, exprV] at ih
    simp only [exprV, exprVs, two, rdRt] at e2 eb
    unfold parser_reader_both_l1b
    simp [go_sem, et, eb, e2]
    exact ih
   ·subst h2
    have eb := hE ts _ h1 hA2
    simp only [rdRt, errH, pfail] at eb
    unfold parser_reader_both_l1b
    simp [go_sem, et, eb, rdRt, errH, pfail]
  ·have hw : isWord kAnd (t :: ts) = false := by simpa using hw
   have hc : chainOp 2 (t :: ts) = none := by simp [chainOp, hw]
   rw [hc] at h
   simp only [Option.some.injEq] at h
   subst h
   simp only [hw] at et
   simp [kAnd] at et
   unfold parser_reader_both_l1b
   simp [go_sem, et, parser_reader_both_k1]
   simp [go_sem, parser_reader_both_k1b, rdRt, exprV, kX, hr]
theorem both_f (k : Nat) (hE : ∀ m, m ≤ k → EqE x0 x1 x2 n L n_parser_reader_negated 3 m) : EqE x0 x1 x2 n L n_parser_reader_both 2 (k + 1) := by
 intro ts r h hA
 refine acall_fn rfl (af := a_parser_reader_both) rfl rfl ?_
 rw [pE_succ, if_neg (by decide), if_neg (by decide), if_neg (by decide)] at h
 rcases bindO_some h with ⟨a, q, h1, h2⟩ | ⟨m, e, h1, h2⟩
 ·have ea := hE k (Nat.le_refl k) ts _ h1 hA
  have el := both_l k (fun m hm => hE m (by omega)) a q r h2 ((p_at k).1 _ _ _ _ h1 hA)
  obtain ⟨op, num, text, args⟩ := a
  simp only [exprC] at el
  simp only [rdRt, exprV] at ea
  simp [List.replicate, go_sem, ea]
  simpa [kX, hr] using el
 ·subst h2
  have ea := hE k (Nat.le_refl k) ts _ h1 hA
  simp only [rdRt, errH, pfail] at ea
  simp [List.replicate, go_sem, ea, rdRt, errH, pfail]
end
end Go.Am
namespace Go.Am
open Go Go.Pu
section
variable {x0 x1 x2 : List V} {n : Nat} {L : List (Tk × Nat)}
theorem sum_l : ∀ k, (∀ m, m < k → EqE x0 x1 x2 n L n_parser_reader_product 6 m) → ∀ a ts r, pL k 5 a ts = some r → At L ts →
  Run mach0 (.c parser_reader_sum_l1b :: .lp parser_reader_sum_l1 :: .endB 0 :: []) .norm ⟨(.ptr 3 0 :: .undef :: box0 :: .box (exprC a) :: .undef :: .undef :: .undef :: .undef :: .undef :: .undef :: .undef :: .undef :: .undef :: .undef :: .undef :: .undef :: .undef :: .undef :: .undef :: .undef :: .undef :: []), hr x0 x1 x2 n L ts.length⟩ (kX x0 x1 x2 n L r) := by
 intro k
 induction k with
 | zero => intro _ a ts r h; simp [pL] at h
 | succ k ih =>
  intro hE a ts r h hA
  have ih := ih (fun m hm => hE m (by omega))
  have hE := hE k (by omega)
  obtain ⟨t, ts, rfl⟩ := ends_ne hA.2.1
  have et0 := e_takeSymbol (x0 := x0) (x1 := x1) (x2 := x2) (n := n) [43] hA
  have et1 := e_takeSymbol (x0 := x0) (x1 := x1) (x2 := x2) (n := n) [45] hA
  rw [pL_succ] at h
  obtain ⟨op, num, text, args⟩ := a
  simp only [exprC]
  by_cases hw0 : isSymT [43] (t :: ts) = true
  ·have hA2 := hA.sym hw0
   simp only [List.tail_cons] at hA2
   simp only [hw0, if_true] at et0
   have hc : chainOp 5 (t :: ts) = some 11 := by simp [chainOp, hw0]
   rw [hc] at h
   simp only [List.tail_cons] at h
   rcases bindO_some h with ⟨b, q, h1, h2⟩ | ⟨m, e, h1, h2⟩
   ·have eb := hE ts _ h1 hA2
    have ih := ih _ q r h2 ((p_at k).1 _ _ _ _ h1 hA2)
    have e2 := fun h => e_two 11 (.mk op num text args) b h
    obtain ⟨op2, num2, text2, args2⟩ := b
    simp only [two, exprC, exprVs, exprV] at ih
    simp only [exprV, exprVs, two, rdRt] at e2 eb
    unfold parser_reader_sum_l1b
    simp [go_sem, et0, eb, e2]
    exact ih
   ·subst h2
    have eb := hE ts _ h1 hA2
    simp only [rdRt, errH, pfail] at eb
    unfold parser_reader_sum_l1b
    simp [go_sem, et0, eb, rdRt, errH, pfail]
  have hw0 : isSymT [43] (t :: ts) = false := by simpa using hw0
  simp [hw0] at et0
  by_cases hw1 : isSymT [45] (t :: ts) = true
  ·have hA2 := hA.sym hw1
   simp only [List.tail_cons] at hA2
   simp only [hw1, if_true] at et1
   have hc : chainOp 5 (t :: ts) = some 12 := by simp [chainOp, hw0, hw1]
   rw [hc] at h
   simp only [List.tail_cons] at h
   rcases bindO_some h with ⟨b, q, h1, h2⟩ | ⟨m, e, h1, h2⟩
   ·have eb := hE ts _ h1 hA2
    have ih := ih _ q r h2 ((p_at k).1 _ _ _ _ h1 hA2)
    have e2 := fun h => e_two 12 (.mk op num text args) b h
    obtain ⟨op2, num2, text2, args2⟩ := b
    simp only [two, exprC, exprVs, exprV] at ih
    simp only [exprV, exprVs, two, rdRt] at e2 eb
    unfold parser_reader_sum_l1b
    simp [go_sem, et0, et1, eb, e2]
    exact ih
   ·subst h2
    have eb := hE ts _ h1 hA2
    simp only [rdRt, errH, pfail] at eb
    unfold parser_reader_sum_l1b
    simp [go_sem, et0, et1, eb, rdRt, errH, pfail]
  have hw1 : isSymT [45] (t :: ts) = false := by simpa using hw1
  simp [hw1] at et1
  have hc : chainOp 5 (t :: ts) = none := by simp [chainOp, hw0, hw1]
  rw [hc] at h
  simp only [Option.some.injEq] at h
  subst h
  unfold parser_reader_sum_l1b
  simp [go_sem, et0, et1, rdRt, exprV, kX, hr]
theorem sum_f (k : Nat) (hE : ∀ m, m ≤ k → EqE x0 x1 x2 n L n_parser_reader_product 6 m) : EqE x0 x1 x2 n L n_parser_reader_sum 5 (k + 1) := by
 intro ts r h hA
 refine acall_fn rfl (af := a_parser_reader_sum) rfl rfl ?_
 rw [pE_succ, if_neg (by decide), if_neg (by decide), if_neg (by decide)] at h
 rcases bindO_some h with ⟨a, q, h1, h2⟩ | ⟨m, e, h1, h2⟩
 ·have ea := hE k (Nat.le_refl k) ts _ h1 hA
  have el := sum_l k (fun m hm => hE m (by omega)) a q r h2 ((p_at k).1 _ _ _ _ h1 hA)
  obtain ⟨op, num, text, args⟩ := a
  simp only [exprC] at el
  simp only [rdRt, exprV] at ea
  simp [List.replicate, go_sem, ea]
  simpa [kX, hr] using el
 ·subst h2
  have ea := hE k (Nat.le_refl k) ts _ h1 hA
  simp only [rdRt, errH, pfail] at ea
  simp [List.replicate, go_sem, ea, rdRt, errH, pfail]
theorem product_l : ∀ k, (∀ m, m < k → EqE x0 x1 x2 n L n_parser_reader_primary 7 m) → ∀ a ts r, pL k 6 a ts = some r → At L ts →
  Run mach0 (.c parser_reader_product_l1b :: .lp parser_reader_product_l1 :: .endB 0 :: []) .norm ⟨(.ptr 3 0 :: .undef :: box0 :: .box (exprC a) :: .undef :: .undef :: .undef :: .undef :: .undef :: .undef :: .undef :: .undef :: .undef :: .undef :: .undef :: .undef :: .undef :: .undef :: .undef :: .undef :: .undef :: .undef :: .undef :: .undef :: .undef :: .undef :: .undef :: .undef :: []), hr x0 x1 x2 n L ts.length⟩ (kX x0 x1 x2 n L r) := by
 intro k
 induction k with
 | zero => intro _ a ts r h; simp [pL] at h
 | succ k ih =>
  intro hE a ts r h hA
  have ih := ih (fun m hm => hE m (by omega))
  have hE := hE k (by omega)
  obtain ⟨t, ts, rfl⟩ := ends_ne hA.2.1
  have et0 := e_takeSymbol (x0 := x0) (x1 := x1) (x2 := x2) (n := n) [42] hA
  have et1 := e_takeSymbol (x0 := x0) (x1 := x1) (x2 := x2) (n := n) [47] hA
  have et2 := e_takeSymbol (x0 := x0) (x1 := x1) (x2 := x2) (n := n) [37] hA
  rw [pL_succ] at h
  obtain ⟨op, num, text, args⟩ := a
  simp only [exprC]
  by_cases hw0 : isSymT [42] (t :: ts) = true
  ·have hA2 := hA.sym hw0
   simp only [List.tail_cons] at hA2
   simp only [hw0, if_true] at et0
   have hc : chainOp 6 (t :: ts) = some 13 := by simp [chainOp, hw0]
   rw [hc] at h
   simp only [List.tail_cons] at h
   rcases bindO_some h with ⟨b, q, h1, h2⟩ | ⟨m, e, h1, h2⟩
   ·have eb := hE ts _ h1 hA2
    have ih := ih _ q r h2 ((p_at k).1 _ _ _ _ h1 hA2)
    have e2 := fun h => e_two 13 (.mk op num text args) b h
    obtain ⟨op2, num2, text2, args2⟩ := b
    simp only [two, exprC, exprVs, exprV] at ih
    simp only [exprV, exprVs, two, rdRt] at e2 eb
    unfold parser_reader_product_l1b
    simp [go_sem, et0, eb, e2]
    exact ih
   ·subst h2
    have eb := hE ts _ h1 hA2
    simp only [rdRt, errH, pfail] at eb
    unfold parser_reader_product_l1b
    simp [go_sem, et0, eb, rdRt, errH, pfail]
  have hw0 : isSymT [42] (t :: ts) = false := by simpa using hw0
  simp [hw0] at et0
  by_cases hw1 : isSymT [47] (t :: ts) = true
  ·have hA2 := hA.sym hw1
   simp only [List.tail_cons] at hA2
   simp only [hw1, if_true] at et1
   have hc : chainOp 6 (t :: ts) = some 14 := by simp [chainOp, hw0, hw1]
   rw [hc] at h
   simp only [List.tail_cons] at h
   rcases bindO_some h with ⟨b, q, h1, h2⟩ | ⟨m, e, h1, h2⟩
   ·have eb := hE ts _ h1 hA2
    have ih := ih _ q r h2 ((p_at k).1 _ _ _ _ h1 hA2)
    have e2 := fun h => e_two 14 (.mk op num text args) b h
    obtain ⟨op2, num2, text2, args2⟩ := b
    simp only [two, exprC, exprVs, exprV] at ih
    simp only [exprV, exprVs, two, rdRt] at e2 eb
    unfold parser_reader_product_l1b
    simp [go_sem, et0, et1, eb, e2]
    exact ih
   ·subst h2
    have eb := hE ts _ h1 hA2
    simp only [rdRt, errH, pfail] at eb
    unfold parser_reader_product_l1b
    simp [go_sem, et0, et1, eb, rdRt, errH, pfail]
  have hw1 : isSymT [47] (t :: ts) = false := by simpa using hw1
  simp [hw1] at et1
  by_cases hw2 : isSymT [37] (t :: ts) = true
  ·have hA2 := hA.sym hw2
   simp only [List.tail_cons] at hA2
   simp only [hw2, if_true] at et2
   have hc : chainOp 6 (t :: ts) = some 15 := by simp [chainOp, hw0, hw1, hw2]
   rw [hc] at h
   simp only [List.tail_cons] at h
   rcases bindO_some h with ⟨b, q, h1, h2⟩ | ⟨m, e, h1, h2⟩
   ·have eb := hE ts _ h1 hA2
    have ih := ih _ q r h2 ((p_at k).1 _ _ _ _ h1 hA2)
    have e2 := fun h => e_two 15 (.mk op num text args) b h
    obtain ⟨op2, num2, text2, args2⟩ := b
    simp only [two, exprC, exprVs, exprV] at ih
    simp only [exprV, exprVs, two, rdRt] at e2 eb
    unfold parser_reader_product_l1b
    simp [go_sem, et0, et1, et2, eb, e2]
    exact ih
   ·subst h2
    have eb := hE ts _ h1 hA2
    simp only [rdRt, errH, pfail] at eb
    unfold parser_reader_product_l1b
    simp [go_sem, et0, et1, et2, eb, rdRt, errH, pfail]
  have hw2 : isSymT [37] (t :: ts) = false := by simpa using hw2
  simp [hw2] at et2
  have hc : chainOp 6 (t :: ts) = none := by simp [chainOp, hw0, hw1, hw2]
  rw [hc] at h
  simp only [Option.some.injEq] at h
  subst h
  unfold parser_reader_product_l1b
  simp [go_sem, et0, et1, et2, rdRt, exprV, kX, hr]
theorem product_f (k : Nat) (hE : ∀ m, m ≤ k → EqE x0 x1 x2 n L n_parser_reader_primary 7 m) : EqE x0 x1 x2 n L n_parser_reader_product 6 (k + 1) := by
 intro ts r h hA
 refine acall_fn rfl (af := a_parser_reader_product) rfl rfl ?_
 rw [pE_succ, if_neg (by decide), if_neg (by decide), if_neg (by decide)] at h
 rcases bindO_some h with ⟨a, q, h1, h2⟩ | ⟨m, e, h1, h2⟩
 ·have ea := hE k (Nat.le_refl k) ts _ h1 hA
  have el := product_l k (fun m hm => hE m (by omega)) a q r h2 ((p_at k).1 _ _ _ _ h1 hA)
  obtain ⟨op, num, text, args⟩ := a
  simp only [exprC] at el
  simp only [rdRt, exprV] at ea
  simp [List.replicate, go_sem, ea]
  simpa [kX, hr] using el
 ·subst h2
  have ea := hE k (Nat.le_refl k) ts _ h1 hA
  simp only [rdRt, errH, pfail] at ea
  simp [List.replicate, go_sem, ea, rdRt, errH, pfail]
end
end Go.Am
namespace Go.Am
open Go Go.Pu
section
variable {x0 x1 x2 : List V} {n : Nat} {L : List (Tk × Nat)}
theorem compared_f (k : Nat) (hE : EqE x0 x1 x2 n L n_parser_reader_sum 5 k) : EqE x0 x1 x2 n L n_parser_reader_compared 4 (k + 1) := by
 intro ts r h hA
 refine acall_fn rfl (af := a_parser_reader_compared) rfl rfl ?_
 rw [pE_succ, if_neg (by decide), if_pos rfl] at h
 rcases bindO_some h with ⟨a, q, h1, h2⟩ | ⟨m, e, h1, h2⟩
 ·have ea := hE ts _ h1 hA
  have hq := (p_at k).1 _ _ _ _ h1 hA
  obtain ⟨op, num, text, args⟩ := a
  simp only [rdRt, exprV] at ea
  obtain ⟨t, q, rfl⟩ := ends_ne hq.2.1
  have ep := e_peek (x0 := x0) (x1 := x1) (x2 := x2) (n := n) hq
  by_cases hk : t.kind = 4
  ·obtain ⟨w, rfl⟩ : ∃ w, t = .sym w := by cases t <;> simp [Tk.kind] at hk; exact ⟨_, rfl⟩
   have hq2 := hq.tl (by simp)
   have es := e_skip (x0 := x0) (x1 := x1) (x2 := x2) (n := n) hq
   simp only [hr, tokV, Tk.kind, Tk.val, Tk.str] at ep es ea
   have hb : ∀ {x : List UInt8}, ¬ w = x → (w == x) = false := fun h => by simpa using h
   by_cases hw0 : w = [61]
   ·subst hw0
    have hc : cmpOp (.sym [61] :: q) = some (7, false) := by simp [cmpOp, isSymT]
    rw [hc] at h2
    simp only [List.tail_cons] at h2
    rcases bindO_some h2 with ⟨b, q', h3, h4⟩ | ⟨m, e, h3, h4⟩
    ·have eb := hE q _ h3 hq2
     obtain ⟨op2, num2, text2, args2⟩ := b
     have e2 := fun h => e_two 7 (.mk op num text args) (.mk op2 num2 text2 args2) h
     simp only [Option.some.injEq] at h4
     subst h4
     simp only [hr, exprV, exprVs, two, rdRt] at e2 eb
     simp [List.replicate, go_sem, ea, ep, es, eb, e2, rdRt, two, exprV, exprVs]
    ·subst h4
     have eb := hE q _ h3 hq2
     simp only [hr, rdRt, errH, pfail] at eb
     simp [List.replicate, go_sem, ea, ep, es, eb, rdRt, errH, pfail]
   by_cases hw1 : w = [60, 62]
   ·subst hw1
    have hc : cmpOp (.sym [60, 62] :: q) = some (8, false) := by simp [cmpOp, isSymT]
    rw [hc] at h2
    simp only [List.tail_cons] at h2
    rcases bindO_some h2 with ⟨b, q', h3, h4⟩ | ⟨m, e, h3, h4⟩
    ·have eb := hE q _ h3 hq2
     obtain ⟨op2, num2, text2, args2⟩ := b
     have e2 := fun h => e_two 8 (.mk op num text args) (.mk op2 num2 text2 args2) h
     simp only [Option.some.injEq] at h4
     subst h4
     simp only [hr, exprV, exprVs, two, rdRt] at e2 eb
     simp [List.replicate, go_sem, ea, ep, es, eb, e2, rdRt, two, exprV, exprVs]
    ·subst h4
     have eb := hE q _ h3 hq2
     simp only [hr, rdRt, errH, pfail] at eb
     simp [List.replicate, go_sem, ea, ep, es, eb, rdRt, errH, pfail]
   by_cases hw2 : w = [60]
   ·subst hw2
    have hc : cmpOp (.sym [60] :: q) = some (9, false) := by simp [cmpOp, isSymT]
    rw [hc] at h2
    simp only [List.tail_cons] at h2
    rcases bindO_some h2 with ⟨b, q', h3, h4⟩ | ⟨m, e, h3, h4⟩
    ·have eb := hE q _ h3 hq2
     obtain ⟨op2, num2, text2, args2⟩ := b
     have e2 := fun h => e_two 9 (.mk op num text args) (.mk op2 num2 text2 args2) h
     simp only [Option.some.injEq] at h4
     subst h4
     simp only [hr, exprV, exprVs, two, rdRt] at e2 eb
     simp [List.replicate, go_sem, ea, ep, es, eb, e2, rdRt, two, exprV, exprVs]
    ·subst h4
     have eb := hE q _ h3 hq2
     simp only [hr, rdRt, errH, pfail] at eb
     simp [List.replicate, go_sem, ea, ep, es, eb, rdRt, errH, pfail]
   by_cases hw3 : w = [60, 61]
   ·subst hw3
    have hc : cmpOp (.sym [60, 61] :: q) = some (10, false) := by simp [cmpOp, isSymT]
    rw [hc] at h2
    simp only [List.tail_cons] at h2
    rcases bindO_some h2 with ⟨b, q', h3, h4⟩ | ⟨m, e, h3, h4⟩
    ·have eb := hE q _ h3 hq2
     obtain ⟨op2, num2, text2, args2⟩ := b
     have e2 := fun h => e_two 10 (.mk op num text args) (.mk op2 num2 text2 args2) h
     simp only [Option.some.injEq] at h4
     subst h4
     simp only [hr, exprV, exprVs, two, rdRt] at e2 eb
     simp [List.replicate, go_sem, ea, ep, es, eb, e2, rdRt, two, exprV, exprVs]
    ·subst h4
     have eb := hE q _ h3 hq2
     simp only [hr, rdRt, errH, pfail] at eb
     simp [List.replicate, go_sem, ea, ep, es, eb, rdRt, errH, pfail]
   by_cases hw4 : w = [62]
   ·subst hw4
    have hc : cmpOp (.sym [62] :: q) = some (9, true) := by simp [cmpOp, isSymT]
    rw [hc] at h2
    simp only [List.tail_cons] at h2
    rcases bindO_some h2 with ⟨b, q', h3, h4⟩ | ⟨m, e, h3, h4⟩
    ·have eb := hE q _ h3 hq2
     obtain ⟨op2, num2, text2, args2⟩ := b
     have e2 := fun h => e_two 9 (.mk op2 num2 text2 args2) (.mk op num text args) h
     simp only [Option.some.injEq] at h4
     subst h4
     simp only [hr, exprV, exprVs, two, rdRt] at e2 eb
     simp [List.replicate, go_sem, ea, ep, es, eb, e2, rdRt, two, exprV, exprVs]
    ·subst h4
     have eb := hE q _ h3 hq2
     simp only [hr, rdRt, errH, pfail] at eb
     simp [List.replicate, go_sem, ea, ep, es, eb, rdRt, errH, pfail]
   by_cases hw5 : w = [62, 61]
   ·subst hw5
    have hc : cmpOp (.sym [62, 61] :: q) = some (10, true) := by simp [cmpOp, isSymT]
    rw [hc] at h2
    simp only [List.tail_cons] at h2
    rcases bindO_some h2 with ⟨b, q', h3, h4⟩ | ⟨m, e, h3, h4⟩
    ·have eb := hE q _ h3 hq2
     obtain ⟨op2, num2, text2, args2⟩ := b
     have e2 := fun h => e_two 10 (.mk op2 num2 text2 args2) (.mk op num text args) h
     simp only [Option.some.injEq] at h4
     subst h4
     simp only [hr, exprV, exprVs, two, rdRt] at e2 eb
     simp [List.replicate, go_sem, ea, ep, es, eb, e2, rdRt, two, exprV, exprVs]
    ·subst h4
     have eb := hE q _ h3 hq2
     simp only [hr, rdRt, errH, pfail] at eb
     simp [List.replicate, go_sem, ea, ep, es, eb, rdRt, errH, pfail]
   have hc : cmpOp (.sym w :: q) = none := by simp [cmpOp, isSymT, hw0, hw1, hw2, hw3, hw4, hw5]
   rw [hc] at h2
   simp only [Option.some.injEq] at h2
   subst h2
   simp [List.replicate, go_sem, ea, ep, hb hw0, hb hw1, hb hw2, hb hw3, hb hw4, hb hw5, rdRt, exprV]
  ·have hk' : ¬ (t.kind : Int) = 4 := by omega
   have hc : cmpOp (t :: q) = none := by simp only [cmpOp, isSymT_tk, hk]; simp
   rw [hc] at h2
   simp only [Option.some.injEq] at h2
   subst h2
   simp only [hr, tokV] at ep ea
   simp [List.replicate, go_sem, ea, ep, nt' hk', rdRt, exprV]
 ·subst h2
  have ea := hE ts _ h1 hA
  simp only [hr, rdRt, errH, pfail] at ea
  simp [List.replicate, go_sem, ea, rdRt, errH, pfail]
def negs : Nat → PE → PE
 | 0, a => a
 | c + 1, a => negs c (neg a)
def negR (c : Nat) : PR PE → PR PE
 | .ok a q => .ok (negs c a) q
 | .err m e => .err m e
theorem neg_l2 (H : Heap) (hH : H.length = 4) : ∀ (c : Nat) (a : PE), c ≤ 70000 →
  Run mach0 (.c parser_reader_negated_l2b :: .lp parser_reader_negated_l2 :: .endB 2 :: .c parser_reader_negated_k1 :: []) .norm ⟨(.undef :: .undef :: box0 :: .int .i64 c :: .box (exprC a) :: .undef :: .undef :: .undef :: .undef :: .undef :: .undef :: .undef :: .undef :: .undef :: .undef :: .undef :: .undef :: .undef :: .undef :: []), H⟩ (FinQ [.cell 2 (some 4)] 4 (.ret (exprV (negs c a)) H)) := by
 intro c
 induction c with
 | zero =>
  intro a _
  obtain ⟨op, num, text, args⟩ := a
  unfold parser_reader_negated_l2b
  simp [go_sem, exprC, parser_reader_negated_k1]
  simp [go_sem, parser_reader_negated_k1b, negs, exprV, exprC, List.take_of_length_le (show H.length ≤ 4 by omega)]
 | succ c ih =>
  intro a hc
  have ih := ih (neg a) (by omega)
  have q : (0 : Int) < (c : Int) + 1 := by omega
  have w : IntKind.wrap .i64 (c : Int) = c := wrap_i64 (by omega)
  obtain ⟨op, num, text, args⟩ := a
  simp only [neg, exprC, exprVs, exprV] at ih
  unfold parser_reader_negated_l2b
  simp [go_sem, q, w, exprC]
  simpa [negs, neg] using ih
theorem neg_l1 : ∀ k, (∀ m, m < k → EqE x0 x1 x2 n L n_parser_reader_compared 4 m) → ∀ (c : Nat) ts r, pE k 3 ts = some r → At L ts → c + ts.length ≤ 70000 →
  Run mach0 (.c parser_reader_negated_l1b :: .lp parser_reader_negated_l1 :: .endB 0 :: .c parser_reader_negated_k2 :: []) .norm ⟨(.ptr 3 0 :: .undef :: box0 :: .int .i64 c :: .undef :: .undef :: .undef :: .undef :: .undef :: .undef :: .undef :: .undef :: .undef :: .undef :: .undef :: .undef :: .undef :: .undef :: .undef :: []), hr x0 x1 x2 n L ts.length⟩ (kX x0 x1 x2 n L (negR c r)) := by
 intro k
 induction k with
 | zero => intro _ c ts r h; simp [pE] at h
 | succ k ih =>
  intro hE c ts r h hA hc
  have ih := ih (fun m hm => hE m (by omega))
  have hE := hE k (by omega)
  obtain ⟨t, ts, rfl⟩ := ends_ne hA.2.1
  have et := e_takeWord (x0 := x0) (x1 := x1) (x2 := x2) (n := n) kNot hA
  rw [pE_succ, if_pos rfl] at h
  simp only [List.length_cons] at hc
  by_cases hw : isWord kNot (t :: ts) = true
  ·have hA2 := hA.word hw
   simp only [List.tail_cons] at hA2
   rw [if_pos hw] at h
   simp only [hw] at et
   simp only [kNot, if_true] at et
   simp only [List.tail_cons] at h
   have w : IntKind.wrap .i64 ((c : Int) + 1) = (c : Int) + 1 := wrap_i64 (by omega)
   have key : ∃ r', pE k 3 ts = some r' ∧ negR c r = negR (c + 1) r' := by
    rcases bindO_some h with ⟨b, q, h1, h2⟩ | ⟨m, e, h1, h2⟩
    ·cases h2; exact ⟨_, h1, rfl⟩
    ·subst h2; exact ⟨_, h1, rfl⟩
   obtain ⟨r', h1, h2⟩ := key
   have ih := ih (c + 1) ts r' h1 hA2 (by omega)
   rw [h2]
   unfold parser_reader_negated_l1b
   simp [go_sem, et, w]
   simpa using ih
  ·have hw : isWord kNot (t :: ts) = false := by simpa using hw
   rw [hw, if_neg (by decide)] at h
   simp only [hw] at et
   simp [kNot] at et
   have eb := hE (t :: ts) _ h hA
   simp only [List.length_cons] at eb
   unfold parser_reader_negated_l1b
   simp [go_sem, et, parser_reader_negated_k2]
   unfold parser_reader_negated_k2b
   cases r with
   | ok a q =>
    have l2 := neg_l2 (hr x0 x1 x2 n L q.length) rfl c a (by omega)
    obtain ⟨op, num, text, args⟩ := a
    simp only [rdRt, exprV] at eb
    simp only [exprC] at l2
    simp [go_sem, eb]
    simpa [kX, hr, rdRt, negR] using l2
   | err m e =>
    simp only [rdRt, errH, pfail] at eb
    simp [go_sem, eb, rdRt, errH, pfail, negR, kX]
theorem negated_f (k : Nat) (hE : ∀ m, m < k → EqE x0 x1 x2 n L n_parser_reader_compared 4 m) : EqE x0 x1 x2 n L n_parser_reader_negated 3 k := by
 intro ts r h hA
 refine acall_fn rfl (af := a_parser_reader_negated) rfl rfl ?_
 have hl := hA.len
 have h70 := hA.2.2
 have el := neg_l1 k hE 0 ts r h hA (by omega)
 have e0 : negR 0 r = r := by cases r <;> rfl
 rw [e0] at el
 simp [List.replicate, go_sem]
 simpa [kX, hr] using el
theorem primary_f (k : Nat) (hE : EqE x0 x1 x2 n L n_parser_reader_either 1 k) : EqE x0 x1 x2 n L n_parser_reader_primary 7 (k + 1) := by
 intro ts r h hA
 refine acall_fn rfl (af := a_parser_reader_primary) rfl rfl ?_
 obtain ⟨t, ts, rfl⟩ := ends_ne hA.2.1
 have ep := e_peek (x0 := x0) (x1 := x1) (x2 := x2) (n := n) hA
 have es := e_skip (x0 := x0) (x1 := x1) (x2 := x2) (n := n) hA
 have en := e_pnumber (x0 := x0) (x1 := x1) (x2 := x2) (n := n) hA
 have em := e_name (x0 := x0) (x1 := x1) (x2 := x2) (n := n) hA
 have eo := e_needSymbol (x0 := x0) (x1 := x1) (x2 := x2) (n := n) [40] hA
 rw [pE_succ, if_neg (by decide), if_neg (by decide), if_pos rfl] at h
 have par : (if isSymT [40] (t :: ts) then bindO (pE k 1 ts) fun a r => (if isSymT [41] r then some (.ok a r.tail) else some (failT r 1)) else some (failT (t :: ts) 1)) = some r → (t.kind ≠ 1 ∧ t.kind ≠ 2 ∧ t.kind ≠ 3) →
   Run mach0 (It.c a_parser_reader_primary.body :: []) .norm ⟨[V.ptr 3 0] ++ List.replicate (49 - [V.ptr 3 0].length) .undef, hr x0 x1 x2 n L (t :: ts).length⟩ (FinQ [.cell 2 (some 4)] (hr x0 x1 x2 n L (t :: ts).length).length (rdRt x0 x1 x2 n L exprV r)) := by
  intro h hk
  have k1 : ¬ (t.kind : Int) = 1 := by omega
  have k2 : ¬ (t.kind : Int) = 2 := by omega
  have k3 : ¬ (t.kind : Int) = 3 := by omega
  simp only [hr, tokV] at ep
  unfold needS at eo
  by_cases hw : isSymT [40] (t :: ts) = true
  ·have hA2 := hA.sym hw
   simp only [List.tail_cons] at hA2
   rw [if_pos hw] at h eo
   simp only [hr, rdRt, noneV, List.tail_cons] at eo
   rcases bindO_some h with ⟨a, q, h1, h2⟩ | ⟨m, e, h1, h2⟩
   ·have ea := hE ts _ h1 hA2
    have hq := (p_at k).1 _ _ _ _ h1 hA2
    obtain ⟨u, q, rfl⟩ := ends_ne hq.2.1
    have ec := e_needSymbol (x0 := x0) (x1 := x1) (x2 := x2) (n := n) [41] hq
    obtain ⟨op, num, text, args⟩ := a
    simp only [hr, rdRt, exprV] at ea
    unfold needS at ec
    by_cases hw2 : isSymT [41] (u :: q) = true
    ·rw [if_pos hw2] at h2 ec
     simp only [Option.some.injEq] at h2
     subst h2
     simp only [hr, rdRt, noneV, List.tail_cons] at ec
     simp [a_parser_reader_primary, List.replicate, go_sem, ep, bf' k1, bf' k2, bf' k3, eo, ea, ec, rdRt, exprV]
    ·rw [if_neg hw2] at h2 ec
     simp only [Option.some.injEq] at h2
     subst h2
     simp only [rdRt, failT, errH, pfail] at ec
     simp at ec
     simp [a_parser_reader_primary, List.replicate, go_sem, ep, bf' k1, bf' k2, bf' k3, eo, ea, ec, rdRt, failT, errH, pfail]
   ·subst h2
    have ea := hE ts _ h1 hA2
    simp only [hr, rdRt, errH, pfail] at ea
    simp [a_parser_reader_primary, List.replicate, go_sem, ep, bf' k1, bf' k2, bf' k3, eo, ea, rdRt, errH, pfail]
  ·rw [if_neg hw] at h eo
   simp only [Option.some.injEq] at h
   subst h
   simp only [rdRt, failT, errH, pfail] at eo
   simp at eo
   simp [a_parser_reader_primary, List.replicate, go_sem, ep, bf' k1, bf' k2, bf' k3, eo, rdRt, failT, errH, pfail]
 cases t with
 | num d =>
  simp only [numberT] at en
  simp only [hr, tokV, Tk.kind, Tk.val, Tk.str] at ep en
  simp only at h
  by_cases hn : numB d = true
  ·rw [if_pos hn] at h en
   simp only [Option.some.injEq] at h
   subst h
   simp only [rdRt] at en
   simp [List.replicate, go_sem, ep, en, rdRt, exprV, exprVs]
  ·rw [if_neg hn] at h en
   simp only [Option.some.injEq] at h
   subst h
   simp only [rdRt, failT, errH, pfail] at en
   simp at en
   simp [List.replicate, go_sem, ep, en, rdRt, failT, errH, pfail]
 | text s =>
  simp only [hr, tokV, Tk.kind, Tk.val, Tk.str] at ep es
  simp only [Option.some.injEq] at h
  subst h
  simp [List.replicate, go_sem, ep, es, rdRt, exprV, exprVs]
 | word w =>
  simp only [nameT] at em
  simp only [hr, tokV, Tk.kind, Tk.val, Tk.str] at ep es em
  simp only at h
  by_cases ha : isAttr w = true
  ·rw [if_pos ha] at h
   simp only [Option.some.injEq] at h
   subst h
   simp [List.replicate, go_sem, ep, es, e_attribute, ha, rdRt, exprV, exprVs]
  ·rw [if_neg ha] at h
   have ha : isAttr w = false := by simpa using ha
   by_cases hw : isKw w = true
   ·rw [if_pos hw] at h em
    simp only [Option.some.injEq] at h
    subst h
    simp only [rdRt, failT, errH, pfail] at em
    simp at em
    simp [List.replicate, go_sem, ep, em, e_attribute, ha, rdRt, failT, errH, pfail]
   ·rw [if_neg hw] at h em
    simp only [Option.some.injEq] at h
    subst h
    simp only [rdRt] at em
    simp [List.replicate, go_sem, ep, em, e_attribute, ha, rdRt, exprV, exprVs]
 | sym s => exact par h (by simp [Tk.kind])
 | fin => exact par h (by simp [Tk.kind])
theorem expr_all (k : Nat) : EqE x0 x1 x2 n L n_parser_reader_either 1 k ∧ EqE x0 x1 x2 n L n_parser_reader_both 2 k ∧ EqE x0 x1 x2 n L n_parser_reader_negated 3 k ∧ EqE x0 x1 x2 n L n_parser_reader_compared 4 k ∧ EqE x0 x1 x2 n L n_parser_reader_sum 5 k ∧ EqE x0 x1 x2 n L n_parser_reader_product 6 k ∧ EqE x0 x1 x2 n L n_parser_reader_primary 7 k := by
 induction k using Nat.strongRecOn with
 | _ k ih =>
  cases k with
  | zero => refine ⟨?_, ?_, ?_, ?_, ?_, ?_, ?_⟩ <;> (intro ts r h; simp [pE] at h)
  | succ k =>
   have ih := fun m (hm : m ≤ k) => ih m (by omega)
   refine ⟨either_f k fun m hm => (ih m hm).2.1, both_f k fun m hm => (ih m hm).2.2.1, negated_f (k + 1) fun m hm => (ih m (by omega)).2.2.2.1, compared_f k (ih k (by omega)).2.2.2.2.1, sum_f k fun m hm => (ih m hm).2.2.2.2.2.1, product_f k fun m hm => (ih m hm).2.2.2.2.2.2, primary_f k (ih k (by omega)).1⟩
theorem e_either {ts : List Tk} (hA : At L ts) : acall mach0 n_parser_reader_either [.ptr 3 0] (hr x0 x1 x2 n L ts.length) = some (rdRt x0 x1 x2 n L exprV (exprT ts)) :=
 (expr_all (10 * ts.length + 10)).1 ts _ (exprT_eq ts) hA
end
end Go.Am
namespace Go.Am
open Go Go.Pu
section
variable {x0 x1 x2 : List V} {n : Nat} {L : List (Tk × Nat)} {ts : List Tk}
theorem r_peek (h : At L ts) : ∃ t r, ts = t :: r ∧ acall mach0 n_parser_reader_peek [.ptr 3 0] (hr x0 x1 x2 n L ts.length) = some (.ret (tokV t.kind t.val (posV n L ts.length) t.str) (hr x0 x1 x2 n L ts.length)) := by
 obtain ⟨t, ts, rfl⟩ := ends_ne h.2.1
 exact ⟨t, ts, rfl, e_peek h⟩
theorem r_takeWord (s : Bs) (h : At L ts) : acall mach0 n_parser_reader_takeWord [.ptr 3 0, .str s] (hr x0 x1 x2 n L ts.length) = some (.ret (.bool (isWord s ts)) (hr x0 x1 x2 n L (if isWord s ts then ts.tail.length else ts.length))) := by
 obtain ⟨t, ts, rfl⟩ := ends_ne h.2.1
 exact e_takeWord s h
theorem r_takeSymbol (s : Bs) (h : At L ts) : acall mach0 n_parser_reader_takeSymbol [.ptr 3 0, .str s] (hr x0 x1 x2 n L ts.length) = some (.ret (.bool (isSymT s ts)) (hr x0 x1 x2 n L (if isSymT s ts then ts.tail.length else ts.length))) := by
 obtain ⟨t, ts, rfl⟩ := ends_ne h.2.1
 exact e_takeSymbol s h
theorem r_needWord (s : Bs) (h : At L ts) : acall mach0 n_parser_reader_needWord [.ptr 3 0, .str s] (hr x0 x1 x2 n L ts.length) = some (rdRt x0 x1 x2 n L noneV (needW s ts)) := by
 obtain ⟨t, ts, rfl⟩ := ends_ne h.2.1
 exact e_needWord s h
theorem r_needSymbol (s : Bs) (h : At L ts) : acall mach0 n_parser_reader_needSymbol [.ptr 3 0, .str s] (hr x0 x1 x2 n L ts.length) = some (rdRt x0 x1 x2 n L noneV (needS s ts)) := by
 obtain ⟨t, ts, rfl⟩ := ends_ne h.2.1
 exact e_needSymbol s h
theorem r_end (h : At L ts) : acall mach0 n_parser_reader_end [.ptr 3 0] (hr x0 x1 x2 n L ts.length) = some (rdRt x0 x1 x2 n L noneV (endT ts)) := by
 obtain ⟨t, ts, rfl⟩ := ends_ne h.2.1
 exact e_end h
theorem r_name (h : At L ts) : acall mach0 n_parser_reader_name [.ptr 3 0] (hr x0 x1 x2 n L ts.length) = some (rdRt x0 x1 x2 n L .str (nameT ts)) := by
 obtain ⟨t, ts, rfl⟩ := ends_ne h.2.1
 exact e_name h
theorem r_nameOrAny (h : At L ts) : acall mach0 n_parser_reader_nameOrAny [.ptr 3 0] (hr x0 x1 x2 n L ts.length) = some (rdRt x0 x1 x2 n L .str (nameOrAny ts)) := by
 obtain ⟨t, ts, rfl⟩ := ends_ne h.2.1
 exact e_nameOrAny h
theorem r_digits (h : At L ts) : acall mach0 n_parser_reader_digits [.ptr 3 0] (hr x0 x1 x2 n L ts.length) = some (rdRt x0 x1 x2 n L .str (digitsT ts)) := by
 obtain ⟨t, ts, rfl⟩ := ends_ne h.2.1
 exact e_pdigits h
theorem r_number (h : At L ts) : acall mach0 n_parser_reader_number [.ptr 3 0] (hr x0 x1 x2 n L ts.length) = some (rdRt x0 x1 x2 n L (V.int .i64) (numberT ts)) := by
 obtain ⟨t, ts, rfl⟩ := ends_ne h.2.1
 exact e_pnumber h
theorem r_fixed (size : Nat) (most : Int) (h : At L ts) : acall mach0 n_parser_reader_fixed [.ptr 3 0, .int .i64 size, .int .i64 most] (hr x0 x1 x2 n L ts.length) = some (rdRt x0 x1 x2 n L (V.int .i64) (fixedT size most ts)) := by
 obtain ⟨t, ts, rfl⟩ := ends_ne h.2.1
 exact e_fixed size most h
theorem needW_ok {s : Bs} {u : Unit} {r : List Tk} (h : needW s ts = .ok u r) : ts = .word s :: r := by
 unfold needW at h
 split at h
 ·rename_i hw; cases h; exact isWord_cons hw
 ·cases h
theorem needS_ok {s : Bs} {u : Unit} {r : List Tk} (h : needS s ts = .ok u r) : ts = .sym s :: r := by
 unfold needS at h
 split at h
 ·rename_i hw; cases h; exact isSymT_cons hw
 ·cases h
theorem nameT_ok {w : Bs} {r : List Tk} (h : nameT ts = .ok w r) : ts = .word w :: r ∧ isKw w = false := by
 unfold nameT at h
 split at h
 ·split at h
  ·cases h
  ·rename_i hw; cases h; exact ⟨rfl, by simpa using hw⟩
 ·cases h
theorem nameOrAny_ok {w : Bs} {r : List Tk} (h : nameOrAny ts = .ok w r) : ∃ v, ts = .word v :: r := by
 unfold nameOrAny at h
 split at h
 ·rename_i hw; cases h; exact ⟨_, isWord_cons hw⟩
 ·exact ⟨_, (nameT_ok h).1⟩
theorem digitsT_ok {d : Bs} {r : List Tk} (h : digitsT ts = .ok d r) : ts = .num d :: r := by
 unfold digitsT at h
 split at h
 ·cases h; rfl
 ·cases h
theorem numberT_ok {v : Int} {r : List Tk} (h : numberT ts = .ok v r) : ∃ d, ts = .num d :: r ∧ v = value d ∧ numB d = true := by
 unfold numberT at h
 split at h
 ·split at h
  ·rename_i hn; cases h; exact ⟨_, rfl, rfl, hn⟩
  ·cases h
 ·cases h
theorem fixedT_ok {size : Nat} {most v : Int} {r : List Tk} (h : fixedT size most ts = .ok v r) : ∃ d, ts = .num d :: r ∧ v = value d ∧ d.length = size ∧ v ≤ most := by
 unfold fixedT at h
 split at h
 ·split at h
  ·rename_i hn; cases h; exact ⟨_, rfl, rfl, hn.1, hn.2⟩
  ·cases h
 ·cases h
theorem At.xW {s : Bs} {u : Unit} {r : List Tk} (hA : At L ts) (h : needW s ts = .ok u r) : At L r := by
 rw [needW_ok h] at hA; exact hA.tl (by simp)
theorem At.xS {s : Bs} {u : Unit} {r : List Tk} (hA : At L ts) (h : needS s ts = .ok u r) : At L r := by
 rw [needS_ok h] at hA; exact hA.tl (by simp)
theorem At.name {w : Bs} {r : List Tk} (hA : At L ts) (h : nameT ts = .ok w r) : At L r := by
 rw [(nameT_ok h).1] at hA; exact hA.tl (by simp)
theorem At.xAny {w : Bs} {r : List Tk} (hA : At L ts) (h : nameOrAny ts = .ok w r) : At L r := by
 obtain ⟨v, e⟩ := nameOrAny_ok h
 rw [e] at hA; exact hA.tl (by simp)
theorem At.digits {w : Bs} {r : List Tk} (hA : At L ts) (h : digitsT ts = .ok w r) : At L r := by
 rw [digitsT_ok h] at hA; exact hA.tl (by simp)
theorem At.number {w : Int} {r : List Tk} (hA : At L ts) (h : numberT ts = .ok w r) : At L r := by
 obtain ⟨v, e, _⟩ := numberT_ok h
 rw [e] at hA; exact hA.tl (by simp)
theorem At.fixed {size : Nat} {most w : Int} {r : List Tk} (hA : At L ts) (h : fixedT size most ts = .ok w r) : At L r := by
 obtain ⟨v, e, _⟩ := fixedT_ok h
 rw [e] at hA; exact hA.tl (by simp)
theorem At.expr {a : PE} {r : List Tk} (hA : At L ts) (h : exprT ts = .ok a r) : At L r := by
 have := exprT_eq ts
 rw [h] at this
 exact (p_at _).1 _ _ _ _ this hA
theorem r_time (most : Int) (hm : most ≤ 24) (hA : At L ts) : acall mach0 n_parser_reader_time [.ptr 3 0, .int .i64 most] (hr x0 x1 x2 n L ts.length) = some (rdRt x0 x1 x2 n L (V.int .i64) (timeT most ts)) := by
 refine acall_fn rfl (af := a_parser_reader_time) rfl rfl ?_
 unfold timeT
 have e1 := r_fixed (x0 := x0) (x1 := x1) (x2 := x2) (n := n) 2 most hA
 cases h1 : fixedT 2 most ts with
 | err m e =>
  simp only [h1, rdRt, errH, pfail] at e1
  simp at e1
  simp [List.replicate, go_sem, e1, rdRt, errH, pfail]
 | ok v r =>
  simp only [h1, rdRt] at e1
  simp at e1
  have A1 := hA.fixed h1
  obtain ⟨d1, _, g1, _, g2⟩ := fixedT_ok h1
  have e2 := r_needSymbol (x0 := x0) (x1 := x1) (x2 := x2) (n := n) [58] A1
  simp only [bindP_ok]
  cases h2 : needS [58] r with
  | err m e =>
   simp only [h2, rdRt, errH, pfail] at e2
   simp [List.replicate, go_sem, e1, e2, rdRt, errH, pfail]
  | ok u r2 =>
   simp only [h2, rdRt, noneV] at e2
   have A2 := A1.xS h2
   simp only [bindP_ok]
   have w1 : IntKind.wrap .i64 (60 * v) = 60 * v := wrap_i64 (by omega)
   by_cases h24 : v = 24
   ·have e3 := r_fixed (x0 := x0) (x1 := x1) (x2 := x2) (n := n) 2 0 A2
    rw [if_pos h24]
    cases h3 : fixedT 2 0 r2 with
    | err m e =>
     simp only [h3, rdRt, errH, pfail] at e3
     simp at e3
     simp [List.replicate, go_sem, e1, e2, e3, bt' h24, w1, rdRt, errH, pfail]
    | ok v2 r3 =>
     simp only [h3, rdRt] at e3
     simp at e3
     obtain ⟨d3, _, g3, _, g4⟩ := fixedT_ok h3
     have w2 : IntKind.wrap .i64 (60 * v + v2) = 60 * v + v2 := wrap_i64 (by omega)
     simp [List.replicate, go_sem, e1, e2, e3, bt' h24, w1, w2, rdRt]
   ·have e3 := r_fixed (x0 := x0) (x1 := x1) (x2 := x2) (n := n) 2 59 A2
    rw [if_neg h24]
    cases h3 : fixedT 2 59 r2 with
    | err m e =>
     simp only [h3, rdRt, errH, pfail] at e3
     simp at e3
     simp [List.replicate, go_sem, e1, e2, e3, bf' h24, w1, rdRt, errH, pfail]
    | ok v2 r3 =>
     simp only [h3, rdRt] at e3
     simp at e3
     obtain ⟨d3, _, g3, _, g4⟩ := fixedT_ok h3
     have w2 : IntKind.wrap .i64 (60 * v + v2) = 60 * v + v2 := wrap_i64 (by omega)
     simp [List.replicate, go_sem, e1, e2, e3, bf' h24, w1, w2, rdRt]
theorem At.time {most : Int} {w : Int} {r : List Tk} (hA : At L ts) (h : timeT most ts = .ok w r) : At L r := by
 unfold timeT at h
 cases h1 : fixedT 2 most ts with
 | err m e => rw [h1] at h; cases h
 | ok v q =>
  rw [h1, bindP_ok] at h
  cases h2 : needS [58] q with
  | err m e => rw [h2] at h; cases h
  | ok u q2 =>
   rw [h2, bindP_ok] at h
   cases h3 : fixedT 2 (if v = 24 then 0 else 59) q2 with
   | err m e => rw [h3] at h; cases h
   | ok v3 q3 => rw [h3, bindP_ok] at h; cases h; exact ((hA.fixed h1).xS h2).fixed h3
end
end Go.Am
namespace Go.Am
open Go Go.Pu
theorem e_leap (y : Int) (h : Heap) (hy : 0 ≤ y) : acall mach0 n_calendar_leap [.int .i64 y] h = some (.ret (.bool (leap y)) h) := by
 refine acall_fn rfl (af := a_calendar_leap) rfl rfl ?_
 have m4 : y.tmod 4 = y % 4 := Int.tmod_eq_emod_of_nonneg hy
 have m100 : y.tmod 100 = y % 100 := Int.tmod_eq_emod_of_nonneg hy
 have m400 : y.tmod 400 = y % 400 := Int.tmod_eq_emod_of_nonneg hy
 unfold leap
 by_cases h1 : y % 4 = 0
 ·by_cases h2 : y % 100 = 0
  ·by_cases h3 : y % 400 = 0
   ·simp [List.replicate, go_sem, m4, m100, m400, bt' h1, nf' h2, bt' h3, h1, h2, h3]
   ·simp [List.replicate, go_sem, m4, m100, m400, bt' h1, nf' h2, bf' h3, h1, h2, h3]
  ·simp [List.replicate, go_sem, m4, m100, m400, bt' h1, nt' h2, h1, h2]
 ·have h3 : ¬ y % 400 = 0 := by omega
  simp [List.replicate, go_sem, m4, m100, m400, bf' h1, bf' h3, h1, h3]
theorem e_days (y m : Int) (h : Heap) (hy : 0 ≤ y) (h1 : 1 ≤ m) (h2 : m ≤ 12) : acall mach0 n_calendar_days [.int .i64 y, .int .i64 m] h = some (.ret (.int .i64 (dlen y m)) h) := by
 refine acall_fn rfl (af := a_calendar_days) rfl rfl ?_
 have hm : m = 1 ∨ m = 2 ∨ m = 3 ∨ m = 4 ∨ m = 5 ∨ m = 6 ∨ m = 7 ∨ m = 8 ∨ m = 9 ∨ m = 10 ∨ m = 11 ∨ m = 12 := by omega
 rcases hm with rfl | rfl | rfl | rfl | rfl | rfl | rfl | rfl | rfl | rfl | rfl | rfl
 case inr.inl => cases hl : leap y <;> simp [List.replicate, go_sem, dlen, e_leap y _ hy, hl, wrap_i64]
 all_goals simp [List.replicate, go_sem, dlen, wrap_i64]
def lenP (y m : Int) : Int := if y < 2000 ∨ 2399 < y ∨ m < 1 ∨ 12 < m then 0 else dlen y m
theorem e_Length (y m : Int) (h : Heap) : acall mach0 n_calendar_Length [.int .i64 y, .int .i64 m] h = some (.ret (.int .i64 (lenP y m)) h) := by
 refine acall_fn rfl (af := a_calendar_Length) rfl rfl ?_
 unfold lenP
 by_cases h1 : y < 2000
 ·simp [List.replicate, go_sem, h1]
 by_cases h2 : 2399 < y
 ·simp [List.replicate, go_sem, h1, h2]
 by_cases h3 : m < 1
 ·simp [List.replicate, go_sem, h1, h2, h3]
 by_cases h4 : 12 < m
 ·simp [List.replicate, go_sem, h1, h2, h3, h4]
 simp [List.replicate, go_sem, h1, h2, h3, h4, e_days y m _ (by omega) (by omega) (by omega)]
theorem e_before (y : Int) (h : Heap) (h1 : 2000 ≤ y) (h2 : y ≤ 2400) : acall mach0 n_calendar_before [.int .i64 y] h = some (.ret (.int .i64 (bef y)) h) := by
 refine acall_fn rfl (af := a_calendar_before) rfl rfl ?_
 have w0 : IntKind.wrap .i64 (y - 2000) = y - 2000 := wrap_i64 (by omega)
 have w1 : IntKind.wrap .i64 (365 * (y - 2000)) = 365 * (y - 2000) := wrap_i64 (by omega)
 have w2 : IntKind.wrap .i64 (y - 2000 - 1) = y - 2001 := by rw [wrap_i64 (by omega)]; omega
 unfold bef
 by_cases h3 : 2000 < y
 ·have h4 : 0 < y - 2000 := by omega
  have d4 : (y - 2001).tdiv 4 = (y - 2001) / 4 := Int.tdiv_eq_ediv_of_nonneg (by omega)
  have d100 : (y - 2001).tdiv 100 = (y - 2001) / 100 := Int.tdiv_eq_ediv_of_nonneg (by omega)
  have d400 : (y - 2001).tdiv 400 = (y - 2001) / 400 := Int.tdiv_eq_ediv_of_nonneg (by omega)
  simp only [List.replicate, go_sem, w0, w1, w2, h3, h4, d4, d100, d400]
  simp [go_sem, w0, w1, w2, d4, d100, d400, h3]
  rw [wrap_i64 (n := (y - 2001) / 4) (by omega), wrap_i64 (n := (y - 2001) / 100) (by omega), wrap_i64 (n := (y - 2001) / 400) (by omega), wrap_i64 (n := (y - 2001) / 4 - (y - 2001) / 100) (by omega), wrap_i64 (n := (y - 2001) / 4 - (y - 2001) / 100 + (y - 2001) / 400) (by omega), wrap_i64 (n := (y - 2001) / 4 - (y - 2001) / 100 + (y - 2001) / 400 + 1) (by omega), wrap_i64 (by omega)]
 ·have h4 : ¬ 0 < y - 2000 := by omega
  simp [List.replicate, go_sem, w0, w1, h3, h4]
def dayP (y m d : Int) : Int × Int := if d < 1 ∨ lenP y m < d then (0, 6) else (bef y + mcum y (m - 1).toNat + d - 1, 0)
theorem lenP_pos {y m d : Int} (h1 : ¬ d < 1) (h2 : ¬ lenP y m < d) : 2000 ≤ y ∧ y ≤ 2399 ∧ 1 ≤ m ∧ m ≤ 12 ∧ lenP y m = dlen y m ∧ 1 ≤ d ∧ d ≤ dlen y m := by
 unfold lenP at h2 ⊢
 split at h2
 ·omega
 ·rename_i h; rw [if_neg h]; omega
theorem l_day (y d N : Int) (M : Nat) (h h' : Heap) (n0 : Nat) (k : List It) (hM : M ≤ 11) (hy : 0 ≤ y) (hN : 0 ≤ N) (hN' : N ≤ 1000000)
    (hk : Run mach0 k (.exit 0) ⟨(.undef :: .rptr [.int .i64 y, .int .i64 ((M : Int) + 1), .int .i64 d] :: .undef :: .undef :: .int .i64 (N + mcum y M) :: .int .i64 ((M : Int) + 1) :: .undef :: .undef :: .undef :: .undef :: .undef :: .undef :: .undef :: .undef :: .undef :: .undef :: .undef :: .undef :: .undef :: .undef :: .undef :: .undef :: .undef :: .undef :: .undef :: .undef :: .int .i64 ((M : Int) + 1) :: .rptr [.int .i64 ((M : Int) + 1), .int .i64 d] :: .int .i64 ((M : Int) + 1) :: .bool false :: .undef :: .undef :: .undef :: .undef :: .undef :: .undef :: .undef :: .undef :: .undef :: []), h⟩ (FinQ [.tmp 2, .tmp 3] n0 (.ret (.tup [.int .i64 (N + mcum y M), .int .i64 0]) h'))) :
    ∀ (n i : Nat) (v c : Int), i + n = M → v = N + mcum y i → c = (i : Int) + 1 →
    Run mach0 (.c calendar_Day_l1b :: .lp calendar_Day_l1 :: k) .norm ⟨(.undef :: .rptr [.int .i64 y, .int .i64 ((M : Int) + 1), .int .i64 d] :: .undef :: .undef :: .int .i64 v :: .int .i64 c :: .undef :: .undef :: .undef :: .undef :: .undef :: .undef :: .undef :: .undef :: .undef :: .undef :: .undef :: .undef :: .undef :: .undef :: .undef :: .undef :: .undef :: .undef :: .undef :: .undef :: .undef :: .undef :: .undef :: .undef :: .undef :: .undef :: .undef :: .undef :: .undef :: .undef :: .undef :: .undef :: .undef :: []), h⟩ (FinQ [.tmp 2, .tmp 3] n0 (.ret (.tup [.int .i64 (N + mcum y M), .int .i64 0]) h'))
  | 0, i, v, c, hi, hv, hc => by
    obtain rfl : i = M := by omega
    subst hv; subst hc
    unfold calendar_Day_l1b
    simp [go_sem]
    exact hk
  | n + 1, i, v, c, hi, hv, hc => by
    subst hv; subst hc
    have ih := l_day y d N M h h' n0 k hM hy hN hN' hk n (i + 1) _ _ (by omega) rfl rfl
    have e := e_days y ((i : Int) + 1) [] hy (by omega) (by omega)
    have q : (i : Int) + 1 < (M : Int) + 1 := by omega
    have hm : mcum y (i + 1) = mcum y i + dlen y ((i : Int) + 1) := rfl
    have b1 := mcum_nonneg y (i + 1)
    have b2 := mcum_hi (y := y) (m := i + 1) (by omega)
    have w1 : IntKind.wrap .i64 (N + mcum y i + dlen y ((i : Int) + 1)) = N + mcum y (i + 1) := by rw [hm, ← Int.add_assoc]; exact wrap_i64 (by omega)
    have w2 : IntKind.wrap .i64 ((i : Int) + 1 + 1) = (i : Int) + 1 + 1 := wrap_i64 (by omega)
    have q' : i < M := by omega
    unfold calendar_Day_l1b
    simp [go_sem, q, q', e, w1, w2]
    exact ih
theorem e_Day (y m d : Int) (h : Heap) : acall mach0 n_calendar_Day [.agg [.int .i64 y, .int .i64 m, .int .i64 d]] h = some (.ret (.tup [.int .i64 (dayP y m d).1, .int .i64 (dayP y m d).2]) h) := by
 refine acall_fn rfl (af := a_calendar_Day) rfl rfl ?_
 unfold dayP
 by_cases h1 : d < 1
 ·simp [List.replicate, go_sem, h1]
 by_cases h2 : lenP y m < d
 ·simp [List.replicate, go_sem, e_Length, h1, h2]
 rw [if_neg (by omega)]
 obtain ⟨a1, a2, a3, a4, a5, a6, a7⟩ := lenP_pos h1 h2
 have b1 := bef_lo0 a1
 have b2 := bef_hi' a1 (by omega)
 have b3 := dlen_hi y m
 have w : IntKind.wrap .i64 (IntKind.wrap .i64 (bef y + d) - 1) = bef y + d - 1 := by rw [wrap_i64 (n := bef y + d) (by omega), wrap_i64 (by omega)]
 obtain ⟨M, hM⟩ : ∃ M : Nat, m = (M : Int) + 1 := ⟨(m - 1).toNat, by omega⟩
 subst hM
 have e1 : ((M : Int) + 1 - 1).toNat = M := by omega
 have e2 : bef y + mcum y M + d - 1 = bef y + d - 1 + mcum y M := by omega
 rw [e1, e2]
 simp [List.replicate, go_sem, e_Length, h1, h2, e_before y _ a1 (by omega), w]
 generalize bef y + d - 1 = N at *
 refine l_day y d N M h h h.length _ (by omega) (by omega) (by omega) (by omega) ?_ M 0 _ _ (Nat.zero_add _) (by simp [mcum]) (by simp)
 simp [go_sem, calendar_Day_k1]
 simp [go_sem, calendar_Day_k1b]
theorem lenP_lenQ (y m : Int) : lenP y m = lenQ y m := rfl
theorem dayP_dayQ (y m d : Int) : dayP y m d = match dayQ y m d with
  | some v => (v, 0)
  | none => (0, 6) := by
 unfold dayP dayQ
 rw [lenP_lenQ]
 split <;> rfl
end Go.Am
namespace Go.Am
open Go Go.Pu
theorem wplaceF_no (s : Bs) : ∀ (l : List Bs) (i : Nat), s ∉ l → wplaceF s l i = -1
 | [], i, _ => rfl
 | w :: l, i, h => by
  simp only [List.mem_cons, not_or] at h
  simp only [wplaceF, if_neg (fun e => h.1 (Eq.symm e))]
  exact wplaceF_no s l (i + 1) h.2
theorem wplace_no {s : Bs} {l : List Bs} (h : s ∉ l) : wplace l s = -1 := wplaceF_no s l 0 h
theorem wplaceF_hi (s : Bs) : ∀ (l : List Bs) (i : Nat), wplaceF s l i < (i : Int) + l.length ∨ wplaceF s l i = -1
 | [], i => .inr rfl
 | w :: l, i => by
  simp only [wplaceF]
  split
  ·left; simp; omega
  ·rcases wplaceF_hi s l (i + 1) with h | h
   ·left; simp; omega
   ·exact .inr h
theorem wplace_hi (s : Bs) (l : List Bs) : wplace l s < l.length ∨ wplace l s = -1 := by
 rcases wplaceF_hi s l 0 with h | h
 ·left; unfold wplace; omega
 ·exact .inr h
theorem e_weekday (s : Bs) : acall mach0 n_parser_weekday [.str s] [] = some (.ret (.int .i64 (wplace dayWs s)) []) := by
 by_cases hs : s ∈ dayWs
 ·simp only [dayWs, List.mem_cons, List.not_mem_nil, or_false] at hs
  repeat' (rcases hs with rfl | hs)
  all_goals first
   | exact (acall_iff _).2 ⟨100, by kernel_rfl⟩
   | (subst hs; exact (acall_iff _).2 ⟨100, by kernel_rfl⟩)
 ·rw [wplace_no hs]
  simp only [dayWs, List.mem_cons, List.not_mem_nil, or_false, not_or] at hs
  have hb : ∀ {x : List UInt8}, ¬ s = x → (s == x) = false := fun h => by simpa using h
  obtain ⟨h1, h2, h3, h4, h5, h6, h7, h8⟩ := hs
  refine acall_fn rfl (af := a_parser_weekday) rfl rfl ?_
  simp [List.replicate, go_sem]
  have w1 : IntKind.wrap .i64 1 = 1 := rfl
  have w2 : IntKind.wrap .i64 2 = 2 := rfl
  have w3 : IntKind.wrap .i64 3 = 3 := rfl
  have w4 : IntKind.wrap .i64 4 = 4 := rfl
  have w5 : IntKind.wrap .i64 5 = 5 := rfl
  have w6 : IntKind.wrap .i64 6 = 6 := rfl
  have w7 : IntKind.wrap .i64 7 = 7 := rfl
  have w8 : IntKind.wrap .i64 8 = 8 := rfl
  iterate 8
   unfold parser_weekday_l1b
   simp [go_sem, w1, w2, w3, w4, w5, w6, w7, w8, hb h1, hb h2, hb h3, hb h4, hb h5, hb h6, hb h7, hb h8]
  unfold parser_weekday_l1b
  simp [go_sem, parser_weekday_k1]
  simp [go_sem, parser_weekday_k1b]
theorem e_kind (s : Bs) : acall mach0 n_parser_kind [.str s] [] = some (.ret (.int .i64 (wplace kindWs s + 1)) []) := by
 by_cases hs : s ∈ kindWs
 ·simp only [kindWs, List.mem_cons, List.not_mem_nil, or_false] at hs
  repeat' (rcases hs with rfl | hs)
  all_goals first
   | exact (acall_iff _).2 ⟨100, by kernel_rfl⟩
   | (subst hs; exact (acall_iff _).2 ⟨100, by kernel_rfl⟩)
 ·rw [wplace_no hs]
  simp only [kindWs, List.mem_cons, List.not_mem_nil, or_false, not_or] at hs
  have hb : ∀ {x : List UInt8}, ¬ s = x → (s == x) = false := fun h => by simpa using h
  obtain ⟨h1, h2, h3, h4⟩ := hs
  refine acall_fn rfl (af := a_parser_kind) rfl rfl ?_
  simp [List.replicate, go_sem, hb h1, hb h2, hb h3, hb h4]
section
variable {x0 x1 x2 : List V} {n : Nat} {L : List (Tk × Nat)} {ts : List Tk}
theorem word_of_kind {t : Tk} (h : t.kind = 1) : ∃ d, t = .word d := by
 cases t <;> simp [Tk.kind] at h
 exact ⟨_, rfl⟩
theorem wordT_ok {l : List Bs} {least v : Int} {r : List Tk} (h : wordT l least ts = .ok v r) : ∃ w, ts = .word w :: r ∧ v = wplace l w ∧ least ≤ v ∧ 0 ≤ v := by
 unfold wordT at h
 split at h
 ·split at h
  ·cases h
  ·rename_i hn; cases h; exact ⟨_, rfl, rfl, by omega, by omega⟩
 ·cases h
theorem At.xWord {l : List Bs} {least v : Int} {r : List Tk} (hA : At L ts) (h : wordT l least ts = .ok v r) : At L r := by
 obtain ⟨v, e, _⟩ := wordT_ok h
 rw [e] at hA; exact hA.tl (by simp)
theorem r_day (last : Int) (hl : -1 ≤ last) (hA : At L ts) : acall mach0 n_parser_reader_day [.ptr 3 0, .int .i64 last] (hr x0 x1 x2 n L ts.length) = some (rdRt x0 x1 x2 n L (V.int .i64) (wordT dayWs (last + 1) ts)) := by
 refine acall_fn rfl (af := a_parser_reader_day) rfl rfl ?_
 obtain ⟨t, ts, rfl⟩ := ends_ne hA.2.1
 have e := e_peek (x0 := x0) (x1 := x1) (x2 := x2) (n := n) hA
 have e2 := e_skip (x0 := x0) (x1 := x1) (x2 := x2) (n := n) hA
 have ef := fun h => e_pfail t.kind t.val (posV n L (ts.length + 1)) t.str 1 h
 have ew := e_weekday t.str
 simp only [hr, tokV] at e e2 ef ⊢
 by_cases hk : t.kind = 1
 ·obtain ⟨w, rfl⟩ := word_of_kind hk
  have ef := fun h => e_pfail 1 0 (posV n L (ts.length + 1)) w 1 h
  simp only [tokV] at ef
  simp only [Tk.kind, Tk.val, Tk.str] at e e2 ew
  have e4 : Go.Pu.wordT dayWs (last + 1) (.word w :: ts) = if wplace dayWs w < last + 1 ∨ wplace dayWs w < 0 then failT (.word w :: ts) 1 else .ok (wplace dayWs w) ts := rfl
  rw [e4]
  by_cases hp : wplace dayWs w ≤ last
  ·rw [if_pos (by omega)]
   simp [List.replicate, go_sem, e, ef, ew, hp, rdRt, failT, errH]
   simp [pfail, go_sem]
  ·rw [if_neg (by omega)]
   simp [List.replicate, go_sem, e, e2, ew, hp, rdRt]
 ·have hk' : ¬ (t.kind : Int) = 1 := by omega
  have e3 : Go.Pu.wordT dayWs (last + 1) (t :: ts) = failT (t :: ts) 1 := by cases t <;> simp [Go.Pu.wordT, Tk.kind] at hk ⊢
  rw [e3]
  simp [List.replicate, go_sem, e, ew, ef, nt' hk', rdRt, failT, errH]
  simp [pfail, go_sem]
theorem r_date (hA : At L ts) : acall mach0 n_parser_reader_date [.ptr 3 0] (hr x0 x1 x2 n L ts.length) = some (rdRt x0 x1 x2 n L (V.int .i64) (dateT ts)) := by
 refine acall_fn rfl (af := a_parser_reader_date) rfl rfl ?_
 obtain ⟨t0, r0, ht0, ep⟩ := r_peek (x0 := x0) (x1 := x1) (x2 := x2) (n := n) hA
 have ef := fun h => e_pfail t0.kind t0.val (posV n L ts.length) t0.str 15 h
 simp only [hr, tokV] at ep ef
 unfold dateT
 have e1 := r_fixed (x0 := x0) (x1 := x1) (x2 := x2) (n := n) 4 9999 hA
 cases h1 : fixedT 4 9999 ts with
 | err m e =>
  simp only [h1, rdRt, errH, pfail] at e1
  simp at e1
  simp [List.replicate, go_sem, ep, e1, rdRt, errH, pfail]
 | ok y q1 =>
  simp only [h1, rdRt] at e1
  simp at e1
  have A1 := hA.fixed h1
  obtain ⟨d1, l1, g1, _, b1⟩ := fixedT_ok h1
  simp only [bindP_ok]
  have e2 := r_needSymbol (x0 := x0) (x1 := x1) (x2 := x2) (n := n) [45] A1
  cases h2 : needS [45] q1 with
  | err m e =>
   simp only [h2, rdRt, errH, pfail] at e2
   simp [List.replicate, go_sem, ep, e1, e2, rdRt, errH, pfail]
  | ok u q2 =>
   simp only [h2, rdRt, noneV] at e2
   have A2 := A1.xS h2
   have l2 := needS_ok h2
   simp only [bindP_ok]
   have e3 := r_fixed (x0 := x0) (x1 := x1) (x2 := x2) (n := n) 2 99 A2
   cases h3 : fixedT 2 99 q2 with
   | err m e =>
    simp only [h3, rdRt, errH, pfail] at e3
    simp at e3
    simp [List.replicate, go_sem, ep, e1, e2, e3, rdRt, errH, pfail]
   | ok mo q3 =>
    simp only [h3, rdRt] at e3
    simp at e3
    have A3 := A2.fixed h3
    obtain ⟨d3, l3, g3, _, b3⟩ := fixedT_ok h3
    simp only [bindP_ok]
    have e4 := r_needSymbol (x0 := x0) (x1 := x1) (x2 := x2) (n := n) [45] A3
    cases h4 : needS [45] q3 with
    | err m e =>
     simp only [h4, rdRt, errH, pfail] at e4
     simp [List.replicate, go_sem, ep, e1, e2, e3, e4, rdRt, errH, pfail]
    | ok u q4 =>
     simp only [h4, rdRt, noneV] at e4
     have A4 := A3.xS h4
     have l4 := needS_ok h4
     simp only [bindP_ok]
     have e5 := r_fixed (x0 := x0) (x1 := x1) (x2 := x2) (n := n) 2 99 A4
     cases h5 : fixedT 2 99 q4 with
     | err m e =>
      simp only [h5, rdRt, errH, pfail] at e5
      simp at e5
      simp [List.replicate, go_sem, ep, e1, e2, e3, e4, e5, rdRt, errH, pfail]
     | ok da q5 =>
      simp only [h5, rdRt] at e5
      simp at e5
      obtain ⟨d5, l5, g5, _, b5⟩ := fixedT_ok h5
      simp only [bindP_ok]
      have e6 := e_Day y mo da []
      rw [dayP_dayQ] at e6
      have len : q5.length = ts.length - 5 := by rw [l1, l2, l3, l4, l5]; simp
      cases hd : dayQ y mo da with
      | none =>
       rw [hd] at e6
       simp [List.replicate, go_sem, ep, e1, e2, e3, e4, e5, e6, ef, rdRt, failT, errH, pfail, len]
      | some v =>
       rw [hd] at e6
       have bv : 0 ≤ v ∧ v ≤ 146097 := by
        unfold dayQ at hd
        split at hd
        ·cases hd
        ·simp only [Option.some.injEq] at hd
         subst hd
         rename_i hn
         obtain ⟨a1, a2, a3, a4, a5, a6, a7⟩ := lenP_pos (y := y) (m := mo) (d := da) (by omega) (by rw [lenP_lenQ]; omega)
         have hi := IsDate.hi (day := bef y + mcum y (mo - 1).toNat + da - 1) (y := y) (m := mo) (d := da) ⟨a1, a2, a3, a4, a6, a7, rfl⟩
         have lo := IsDate.lo (day := bef y + mcum y (mo - 1).toNat + da - 1) (y := y) (m := mo) (d := da) ⟨a1, a2, a3, a4, a6, a7, rfl⟩
         omega
       have w : IntKind.wrap .i64 (v * 86400) = v * 86400 := wrap_i64 (by omega)
       simp [List.replicate, go_sem, ep, e1, e2, e3, e4, e5, e6, w, rdRt]
end
end Go.Am
namespace Go.Am
open Go Go.Pu
theorem day_hi (w : Bs) {k : Int} (h : k = wplace dayWs w) : k ≤ 7 := by
 have := wplace_hi w dayWs
 have e8 : dayWs.length = 8 := rfl
 rw [e8] at this
 omega
theorem sym_shape {s : Bs} {ts : List Tk} (h : isSymT s ts = true) : ∃ r, ts = .sym s :: r := ⟨_, isSymT_cons h⟩
theorem word_shape {s : Bs} {ts : List Tk} (h : isWord s ts = true) : ∃ r, ts = .word s :: r := ⟨_, isWord_cons h⟩
theorem shl_i64 {k : Int} (h0 : 0 ≤ k) (h7 : k ≤ 7) : IntKind.wrap .i64 (2 ^ min k.toNat 64) = 2 ^ k.toNat := by
 obtain ⟨j, rfl⟩ : ∃ j : Nat, k = j := ⟨k.toNat, by omega⟩
 have : j = 0 ∨ j = 1 ∨ j = 2 ∨ j = 3 ∨ j = 4 ∨ j = 5 ∨ j = 6 ∨ j = 7 := by omega
 rcases this with rfl | rfl | rfl | rfl | rfl | rfl | rfl | rfl <;> rfl
theorem or_all : ∀ (j : Fin 8) (d : Fin 128), d.val < 2 ^ j.val → bits .or .i64 ((d.val : Nat) : Int) (2 ^ j.val) = ((d.val : Nat) : Int) + 2 ^ j.val := by decide +kernel
theorem or_i64 {d k : Int} (h0 : 0 ≤ k) (h7 : k ≤ 7) (hd : 0 ≤ d) (hk : d < 2 ^ k.toNat) : bits .or .i64 d (2 ^ k.toNat) = d + 2 ^ k.toNat := by
 obtain ⟨j, rfl⟩ : ∃ j : Nat, k = j := ⟨k.toNat, by omega⟩
 obtain ⟨e, rfl⟩ : ∃ e : Nat, d = e := ⟨d.toNat, by omega⟩
 simp only [Int.toNat_natCast] at hk ⊢
 have hj : j < 8 := by omega
 have he : e < 2 ^ j := by
  have : ((e : Nat) : Int) < ((2 ^ j : Nat) : Int) := by rw [Int.natCast_pow]; exact hk
  omega
 have h128 : e < 128 := Nat.lt_of_lt_of_le he (by
  have := Nat.pow_le_pow_right (n := 2) (by omega) (show j ≤ 7 by omega)
  simpa using this)
 exact or_all ⟨j, hj⟩ ⟨e, h128⟩ he
theorem pow_step {last k : Int} (h : last + 1 ≤ k) (h0 : 0 ≤ last) {d : Int} (hd : d < 2 ^ (last + 1).toNat) : d < 2 ^ k.toNat ∧ d + 2 ^ k.toNat < 2 ^ (k + 1).toNat := by
 have e1 : (k + 1).toNat = k.toNat + 1 := by omega
 have m : (2 : Int) ^ (last + 1).toNat ≤ 2 ^ k.toNat := by
  have := Nat.pow_le_pow_right (n := 2) (by omega) (show (last + 1).toNat ≤ k.toNat by omega)
  exact_mod_cast this
 rw [e1, Int.pow_succ]
 omega
section
variable {x0 x1 x2 : List V} {n : Nat} {L : List (Tk × Nat)} {ts : List Tk}
theorem At.xDays : ∀ (m : Nat) {last days w : Int} {ts r : List Tk} (_ : At L ts) (_ : Go.Pu.daysT m last days ts = .ok w r), At L r
 | 0, _, _, _, _, _, hA, h => by simp only [Go.Pu.daysT] at h; cases h; exact hA
 | m + 1, last, days, w, ts, r, hA, h => by
  simp only [Go.Pu.daysT] at h
  split at h
  ·rename_i hw
   cases h1 : Go.Pu.wordT dayWs (last + 1) ts.tail with
   | err m e => rw [h1] at h; cases h
   | ok k q =>
    rw [h1, bindP_ok] at h
    exact At.xDays m ((hA.sym hw).xWord h1) h
  ·cases h; exact hA
abbrev kS (x0 x1 x2 : List V) (n : Nat) (L : List (Tk × Nat)) (r : PR SlotP) : Ex → St → Prop := FinQ [.cell 2 (some 3)] 4 (rdRt x0 x1 x2 n L slotV r)
theorem slot_l : ∀ (m : Nat) (last days : Int) (ts : List Tk), ts.length ≤ m → 0 ≤ last → last ≤ 7 → 0 ≤ days → days < 2 ^ (last + 1).toNat → At L ts →
  Run mach0 (.c parser_reader_slot_l1b :: .lp parser_reader_slot_l1 :: .endB 0 :: .c parser_reader_slot_k1 :: []) .norm ⟨(.ptr 3 0 :: .undef :: .box [.int .i64 0, .int .i64 0, .int .i64 0] :: .int .i64 last :: .box [.int .i64 days, .int .i64 0, .int .i64 0] :: .undef :: .undef :: .undef :: .undef :: .undef :: .undef :: .undef :: .undef :: .undef :: .undef :: .undef :: .undef :: .undef :: .undef :: .undef :: .undef :: .undef :: .undef :: .undef :: .undef :: .undef :: .undef :: .undef :: .undef :: .undef :: []), hr x0 x1 x2 n L ts.length⟩
   (kS x0 x1 x2 n L (bindP (Go.Pu.daysT m last days ts) fun d r => bindP (timeT 23 r) fun a r => bindP (needS [45] r) fun _ r => bindP (timeT 24 r) fun b r => .ok ⟨d, a, b⟩ r)) := by
 intro m
 induction m with
 | zero =>
  intro last days ts hl _ _ _ _ hA
  obtain ⟨t, r, rfl⟩ := ends_ne hA.2.1
  simp at hl
 | succ m ih =>
  intro last days ts hl h0 h7 hd0 hd hA
  have et := r_takeSymbol (x0 := x0) (x1 := x1) (x2 := x2) (n := n) [43] hA
  unfold Go.Pu.daysT
  by_cases hw : isSymT [43] ts = true
  ·have A1 := hA.sym hw
   obtain ⟨ts, rfl⟩ := sym_shape hw
   simp only [hw, if_true, List.tail_cons] at et A1 ⊢
   simp only [List.length_cons] at et hl ⊢
   have e1 := r_day (x0 := x0) (x1 := x1) (x2 := x2) (n := n) last (by omega) A1
   cases h1 : wordT dayWs (last + 1) ts with
   | err m e =>
    simp only [h1, rdRt, errH, pfail] at e1
    unfold parser_reader_slot_l1b
    simp [go_sem, et, e1, rdRt, errH, pfail, kS]
   | ok k q =>
    simp only [h1, rdRt] at e1
    obtain ⟨w, g1, g2, g3, g4⟩ := wordT_ok h1
    have hk7 : k ≤ 7 := day_hi w g2
    obtain ⟨p1, p2⟩ := pow_step g3 h0 hd
    have hq : q.length ≤ m := by rw [g1] at hl; simp at hl; omega
    have hp0 : (0 : Int) ≤ 2 ^ k.toNat := Int.le_of_lt (Int.pow_pos (by decide))
    have ih := ih k (days + 2 ^ k.toNat) q hq g4 hk7 (by omega) p2 (A1.xWord h1)
    have sh := shl_i64 g4 hk7
    have oo := or_i64 g4 hk7 hd0 p1
    simp only [bindP_ok]
    unfold parser_reader_slot_l1b
    simp [go_sem, et, e1, g4, sh, oo]
    exact ih
  ·have hw : isSymT [43] ts = false := by simpa using hw
   simp [hw] at et ⊢
   have e1 := r_time (x0 := x0) (x1 := x1) (x2 := x2) (n := n) 23 (by decide) hA
   unfold parser_reader_slot_l1b
   simp [go_sem, et, parser_reader_slot_k1]
   unfold parser_reader_slot_k1b
   cases h1 : timeT 23 ts with
   | err m e =>
    simp only [h1, rdRt, errH, pfail] at e1
    simp [go_sem, e1, rdRt, errH, pfail, kS]
   | ok a q =>
    simp only [h1, rdRt] at e1
    have A1 := hA.time h1
    have e2 := r_needSymbol (x0 := x0) (x1 := x1) (x2 := x2) (n := n) [45] A1
    simp only [bindP_ok]
    cases h2 : needS [45] q with
    | err m e =>
     simp only [h2, rdRt, errH, pfail] at e2
     simp [go_sem, e1, e2, rdRt, errH, pfail, kS]
    | ok u q2 =>
     simp only [h2, rdRt, noneV] at e2
     have A2 := A1.xS h2
     have e3 := r_time (x0 := x0) (x1 := x1) (x2 := x2) (n := n) 24 (by decide) A2
     simp only [bindP_ok]
     cases h3 : timeT 24 q2 with
     | err m e =>
      simp only [h3, rdRt, errH, pfail] at e3
      simp [go_sem, e1, e2, e3, rdRt, errH, pfail, kS]
     | ok b q3 =>
      simp only [h3, rdRt] at e3
      simp [go_sem, e1, e2, e3, rdRt, kS, slotV]
theorem r_slot (hA : At L ts) : acall mach0 n_parser_reader_slot [.ptr 3 0] (hr x0 x1 x2 n L ts.length) = some (rdRt x0 x1 x2 n L slotV (slotT ts)) := by
 refine acall_fn rfl (af := a_parser_reader_slot) rfl rfl ?_
 unfold slotT
 have e1 := r_day (x0 := x0) (x1 := x1) (x2 := x2) (n := n) (-1) (by omega) hA
 rw [show (-1 : Int) + 1 = 0 by rfl] at e1
 cases h1 : wordT dayWs 0 ts with
 | err m e =>
  simp only [h1, rdRt, errH, pfail] at e1
  simp [List.replicate, go_sem, e1, rdRt, errH, pfail]
 | ok k q =>
  simp only [h1, rdRt] at e1
  obtain ⟨w, g1, g2, g3, g4⟩ := wordT_ok h1
  have hk7 : k ≤ 7 := day_hi w g2
  have hp0 : (0 : Int) ≤ 2 ^ k.toNat := Int.le_of_lt (Int.pow_pos (by decide))
  have hp1 : (2 : Int) ^ k.toNat < 2 ^ (k + 1).toNat := by
   rw [show (k + 1).toNat = k.toNat + 1 by omega, Int.pow_succ]
   have := Int.pow_pos (n := 2) (m := k.toNat) (by decide)
   omega
  have sl := slot_l (x0 := x0) (x1 := x1) (x2 := x2) (n := n) q.length k (2 ^ k.toNat) q (Nat.le_refl _) g4 hk7 hp0 hp1 (hA.xWord h1)
  have sh := shl_i64 g4 hk7
  simp [List.replicate, go_sem, e1, g4, sh]
  simpa [kS, hr] using sl
theorem At.slot {s : SlotP} {r : List Tk} (hA : At L ts) (h : slotT ts = .ok s r) : At L r := by
 unfold slotT at h
 cases h1 : Go.Pu.wordT dayWs 0 ts with
 | err m e => rw [h1] at h; cases h
 | ok v q =>
  rw [h1, bindP_ok] at h
  cases h2 : Go.Pu.daysT q.length v (2 ^ v.toNat) q with
  | err m e => rw [h2] at h; cases h
  | ok u q2 =>
   rw [h2, bindP_ok] at h
   cases h3 : timeT 23 q2 with
   | err m e => rw [h3] at h; cases h
   | ok v3 q3 =>
    rw [h3, bindP_ok] at h
    cases h4 : Go.Pu.needS [45] q3 with
    | err m e => rw [h4] at h; cases h
    | ok v4 q4 =>
     rw [h4, bindP_ok] at h
     cases h5 : timeT 24 q4 with
     | err m e => rw [h5] at h; cases h
     | ok v5 q5 => rw [h5, bindP_ok] at h; cases h; exact ((((hA.xWord h1).xDays _ h2).time h3).xS h4).time h5
end
end Go.Am
namespace Go.Am
open Go Go.Pu
section
variable {x0 x1 x2 : List V} {n : Nat} {L : List (Tk × Nat)} {ts : List Tk}
theorem needW_le {s : Bs} {u : Unit} {r : List Tk} (h : needW s ts = .ok u r) : r.length ≤ ts.length := by rw [needW_ok h]; simp
theorem needS_le {s : Bs} {u : Unit} {r : List Tk} (h : needS s ts = .ok u r) : r.length ≤ ts.length := by rw [needS_ok h]; simp
theorem nameT_le {w : Bs} {r : List Tk} (h : nameT ts = .ok w r) : r.length ≤ ts.length := by rw [(nameT_ok h).1]; simp
theorem nameOrAny_le {w : Bs} {r : List Tk} (h : nameOrAny ts = .ok w r) : r.length ≤ ts.length := by
 obtain ⟨v, e⟩ := nameOrAny_ok h
 rw [e]; simp
theorem digitsT_le {w : Bs} {r : List Tk} (h : digitsT ts = .ok w r) : r.length ≤ ts.length := by rw [digitsT_ok h]; simp
theorem numberT_le {w : Int} {r : List Tk} (h : numberT ts = .ok w r) : r.length ≤ ts.length := by
 obtain ⟨v, e, _⟩ := numberT_ok h
 rw [e]; simp
theorem fixedT_le {s : Nat} {m w : Int} {r : List Tk} (h : fixedT s m ts = .ok w r) : r.length ≤ ts.length := by
 obtain ⟨v, e, _⟩ := fixedT_ok h
 rw [e]; simp
theorem wordT_le {l : List Bs} {m w : Int} {r : List Tk} (h : wordT l m ts = .ok w r) : r.length ≤ ts.length := by
 obtain ⟨v, e, _⟩ := wordT_ok h
 rw [e]; simp
theorem exprT_le {w : PE} {r : List Tk} (h : exprT ts = .ok w r) : r.length ≤ ts.length := by
 obtain ⟨o, h1, h2⟩ := pExpr_some ts
 rw [exprT_eq, h] at h1
 cases h1
 exact Nat.le_of_lt (h2 _ _ rfl)
theorem At.digitsR {w : Bs} {r : List Tk} (hA : At L ts) (h : digitsT ts = .ok w r) : At L r ∧ r.length ≤ ts.length := ⟨hA.digits h, digitsT_le h⟩
theorem timeT_le {most w : Int} {r : List Tk} (h : timeT most ts = .ok w r) : r.length ≤ ts.length := by
 unfold timeT at h
 cases h1 : fixedT 2 most ts with
 | err m e => rw [h1] at h; cases h
 | ok v q =>
  rw [h1, bindP_ok] at h
  cases h2 : needS [58] q with
  | err m e => rw [h2] at h; cases h
  | ok u q2 =>
   rw [h2, bindP_ok] at h
   cases h3 : fixedT 2 (if v = 24 then 0 else 59) q2 with
   | err m e => rw [h3] at h; cases h
   | ok v3 q3 =>
    rw [h3, bindP_ok] at h; cases h
    have := fixedT_le h1; have := needS_le h2; have := fixedT_le h3; omega
theorem daysT_le : ∀ (m : Nat) {last days w : Int} {ts r : List Tk} (_ : daysT m last days ts = .ok w r), r.length ≤ ts.length
 | 0, _, _, _, _, _, h => by simp only [daysT] at h; cases h; exact Nat.le_refl _
 | m + 1, last, days, w, ts, r, h => by
  simp only [daysT] at h
  split at h
  ·rename_i hw
   obtain ⟨ts, rfl⟩ := sym_shape hw
   cases h1 : wordT dayWs (last + 1) ts with
   | err m e => rw [List.tail_cons, h1] at h; cases h
   | ok k q =>
    rw [List.tail_cons, h1, bindP_ok] at h
    have := wordT_le h1
    have := daysT_le m h
    simp; omega
  ·cases h; exact Nat.le_refl _
theorem At.slotR {s : SlotP} {r : List Tk} (hA : At L ts) (h : slotT ts = .ok s r) : At L r ∧ r.length ≤ ts.length := by
 refine ⟨hA.slot h, ?_⟩
 unfold slotT at h
 cases h1 : wordT dayWs 0 ts with
 | err m e => rw [h1] at h; cases h
 | ok v q =>
  rw [h1, bindP_ok] at h
  cases h2 : daysT q.length v (2 ^ v.toNat) q with
  | err m e => rw [h2] at h; cases h
  | ok u q2 =>
   rw [h2, bindP_ok] at h
   cases h3 : timeT 23 q2 with
   | err m e => rw [h3] at h; cases h
   | ok v3 q3 =>
    rw [h3, bindP_ok] at h
    cases h4 : needS [45] q3 with
    | err m e => rw [h4] at h; cases h
    | ok v4 q4 =>
     rw [h4, bindP_ok] at h
     cases h5 : timeT 24 q4 with
     | err m e => rw [h5] at h; cases h
     | ok v5 q5 =>
      rw [h5, bindP_ok] at h; cases h
      have := wordT_le h1; have := daysT_le _ h2; have := timeT_le h3; have := needS_le h4; have := timeT_le h5; omega
theorem At.opt {k : Bs} {v : Int} {r : List Tk} (hA : At L ts) (h : optN k ts = .ok v r) : At L r ∧ r.length ≤ ts.length := by
 unfold optN at h
 split at h
 ·rename_i hw
  have A1 := hA.word hw
  obtain ⟨ts, rfl⟩ := word_shape hw
  refine ⟨A1.number h, ?_⟩
  have := numberT_le h
  simp at this ⊢; omega
 ·cases h; exact ⟨hA, Nat.le_refl _⟩
theorem At.many {α : Type} {hd : List Tk → Bool} {item : List Tk → PR α} (hh : ∀ ts, At L ts → hd ts = true → At L ts.tail) (hi : ∀ {ts a r}, At L ts → item ts = .ok a r → At L r ∧ r.length ≤ ts.length) :
    ∀ (m : Nat) {acc l : List α} {ts r : List Tk} (_ : At L ts) (_ : manyT hd item m acc ts = .ok l r), At L r ∧ r.length ≤ ts.length
  | 0, _, _, _, _, hA, h => by simp only [manyT] at h; cases h; exact ⟨hA, Nat.le_refl _⟩
  | m + 1, acc, l, ts, r, hA, h => by
    simp only [manyT] at h
    split at h
    · rename_i hw
      have A1 := hh ts hA hw
      cases h1 : item ts.tail with
      | err m e => rw [h1] at h; cases h
      | ok a q =>
        rw [h1, bindP_ok] at h
        have a1 := hi A1 h1
        have a2 := At.many hh hi m a1.1 h
        have : ts.tail.length ≤ ts.length := by cases ts <;> simp
        exact ⟨a2.1, by omega⟩
    · cases h; exact ⟨hA, Nat.le_refl _⟩
theorem At.sep {α : Type} {item : List Tk → PR α} (hi : ∀ {ts a r}, At L ts → item ts = .ok a r → At L r ∧ r.length ≤ ts.length) {l : List α} {r : List Tk} (hA : At L ts) (h : sepT item ts = .ok l r) : At L r ∧ r.length ≤ ts.length := by
 unfold sepT at h
 cases h1 : item ts with
 | err m e => rw [h1] at h; cases h
 | ok a q =>
  rw [h1, bindP_ok] at h
  have a1 := hi hA h1
  have a2 := At.many (fun ts hA hw => hA.sym hw) hi _ a1.1 h
  exact ⟨a2.1, by omega⟩
theorem r_step (hA : At L ts) : acall mach0 n_parser_reader_step [.ptr 3 0] (hr x0 x1 x2 n L ts.length) = some (rdRt x0 x1 x2 n L stepV (tierT ts)) := by
 refine acall_fn rfl (af := a_parser_reader_step) rfl rfl ?_
 unfold tierT
 have e1 := r_takeWord (x0 := x0) (x1 := x1) (x2 := x2) (n := n) kUpto hA
 unfold optN
 by_cases w1 : isWord kUpto ts = true
 ·have A1 := hA.word w1
  obtain ⟨q1, rfl⟩ := word_shape w1
  simp only [w1, if_true, List.tail_cons] at e1 A1 ⊢
  simp only [kUpto] at e1
  simp only [List.length_cons] at *
  have e2 := r_number (x0 := x0) (x1 := x1) (x2 := x2) (n := n) A1
  cases h2 : numberT q1 with
  | err m e =>
   simp only [h2, rdRt, errH, pfail] at e2
   simp [List.replicate, go_sem, e1, e2, rdRt, errH, pfail]
  | ok v q2 =>
   have A2 := A1.number h2
   simp only [h2, rdRt] at e2
   simp only [bindP_ok]
   have e3 := r_needWord (x0 := x0) (x1 := x1) (x2 := x2) (n := n) kPer A2
   cases h3 : needW kPer q2 with
   | err m e =>
    simp only [h3, rdRt, errH, pfail] at e3
    simp only [kPer] at e3
    simp [List.replicate, go_sem, e1, e2, e3, rdRt, errH, pfail]
   | ok u q3 =>
    have A3 := A2.xW h3
    simp only [h3, rdRt, noneV] at e3
    simp only [kPer] at e3
    simp only [bindP_ok]
    have e4 := r_number (x0 := x0) (x1 := x1) (x2 := x2) (n := n) A3
    cases h4 : numberT q3 with
    | err m e =>
     simp only [h4, rdRt, errH, pfail] at e4
     simp [List.replicate, go_sem, e1, e2, e3, e4, rdRt, errH, pfail]
    | ok v2 q4 =>
     have A4 := A3.number h4
     simp only [h4, rdRt] at e4
     simp only [bindP_ok]
     have e5 := r_needWord (x0 := x0) (x1 := x1) (x2 := x2) (n := n) kAt A4
     cases h5 : needW kAt q4 with
     | err m e =>
      simp only [h5, rdRt, errH, pfail] at e5
      simp only [kAt] at e5
      simp [List.replicate, go_sem, e1, e2, e3, e4, e5, rdRt, errH, pfail]
     | ok u q5 =>
      have A5 := A4.xW h5
      simp only [h5, rdRt, noneV] at e5
      simp only [kAt] at e5
      simp only [bindP_ok]
      have e6 := r_number (x0 := x0) (x1 := x1) (x2 := x2) (n := n) A5
      cases h6 : numberT q5 with
      | err m e =>
       simp only [h6, rdRt, errH, pfail] at e6
       simp [List.replicate, go_sem, e1, e2, e3, e4, e5, e6, rdRt, errH, pfail]
      | ok v3 q6 =>
       have A6 := A5.number h6
       simp only [h6, rdRt] at e6
       simp only [bindP_ok]
       simp [List.replicate, go_sem, e1, e2, e3, e4, e5, e6, rdRt, stepV]
 ·have w1 : isWord kUpto ts = false := by simpa using w1
  simp only [w1] at e1 ⊢
  simp [kUpto] at e1
  simp only [Bool.false_eq_true, if_false, bindP_ok]
  have e2 := r_needWord (x0 := x0) (x1 := x1) (x2 := x2) (n := n) kPer hA
  cases h2 : needW kPer ts with
  | err m e =>
   simp only [h2, rdRt, errH, pfail] at e2
   simp only [kPer] at e2
   simp [List.replicate, go_sem, e1, e2, rdRt, errH, pfail]
  | ok u q2 =>
   have A2 := hA.xW h2
   simp only [h2, rdRt, noneV] at e2
   simp only [kPer] at e2
   simp only [bindP_ok]
   have e3 := r_number (x0 := x0) (x1 := x1) (x2 := x2) (n := n) A2
   cases h3 : numberT q2 with
   | err m e =>
    simp only [h3, rdRt, errH, pfail] at e3
    simp [List.replicate, go_sem, e1, e2, e3, rdRt, errH, pfail]
   | ok v2 q3 =>
    have A3 := A2.number h3
    simp only [h3, rdRt] at e3
    simp only [bindP_ok]
    have e4 := r_needWord (x0 := x0) (x1 := x1) (x2 := x2) (n := n) kAt A3
    cases h4 : needW kAt q3 with
    | err m e =>
     simp only [h4, rdRt, errH, pfail] at e4
     simp only [kAt] at e4
     simp [List.replicate, go_sem, e1, e2, e3, e4, rdRt, errH, pfail]
    | ok u q4 =>
     have A4 := A3.xW h4
     simp only [h4, rdRt, noneV] at e4
     simp only [kAt] at e4
     simp only [bindP_ok]
     have e5 := r_number (x0 := x0) (x1 := x1) (x2 := x2) (n := n) A4
     cases h5 : numberT q4 with
     | err m e =>
      simp only [h5, rdRt, errH, pfail] at e5
      simp [List.replicate, go_sem, e1, e2, e3, e4, e5, rdRt, errH, pfail]
     | ok v3 q5 =>
      have A5 := A4.number h5
      simp only [h5, rdRt] at e5
      simp only [bindP_ok]
      simp [List.replicate, go_sem, e1, e2, e3, e4, e5, rdRt, stepV]
theorem At.stepR {a : StepP} {r : List Tk} (hA : At L ts) (h : tierT ts = .ok a r) : At L r ∧ r.length ≤ ts.length := by
 unfold tierT at h
 cases h0 : optN kUpto ts with
 | err m e => rw [h0] at h; cases h
 | ok v q0 =>
  rw [h0, bindP_ok] at h
  have A0 := hA.opt h0
  have l0 := A0.2
  replace A0 := A0.1
  cases h1 : needW kPer q0 with
  | err m e => rw [h1] at h; cases h
  | ok u q1 =>
   rw [h1, bindP_ok] at h
   have A1 := A0.xW h1
   have l1 := needW_le h1
   cases h2 : numberT q1 with
   | err m e => rw [h2] at h; cases h
   | ok v q2 =>
    rw [h2, bindP_ok] at h
    have A2 := A1.number h2
    have l2 := numberT_le h2
    cases h3 : needW kAt q2 with
    | err m e => rw [h3] at h; cases h
    | ok u q3 =>
     rw [h3, bindP_ok] at h
     have A3 := A2.xW h3
     have l3 := needW_le h3
     cases h4 : numberT q3 with
     | err m e => rw [h4] at h; cases h
     | ok v q4 =>
      rw [h4, bindP_ok] at h
      have A4 := A3.number h4
      have l4 := numberT_le h4
      cases h; exact ⟨A4, by omega⟩
theorem zone_l (name : Bs) : ∀ (m : Nat) (acc : List Bs) (ts : List Tk), ts.length ≤ m → acc.length + m ≤ 70000 → At L ts →
  Run mach0 (.c parser_reader_zone_l1b :: .lp parser_reader_zone_l1 :: .endB 0 :: .c parser_reader_zone_k1 :: []) .norm ⟨(.ptr 3 0 :: .undef :: .box [.str [], .sl false 1 []] :: .box [.str name, .sl true 1 (acc.map V.str)] :: .undef :: .undef :: .undef :: .undef :: .undef :: .undef :: .undef :: .undef :: .undef :: .undef :: .undef :: .undef :: .undef :: .undef :: .undef :: .undef :: .undef :: .undef :: .undef :: .undef :: .undef :: .undef :: []), hr x0 x1 x2 n L ts.length⟩
   (FinQ [.cell 2 (some 2)] 4 (rdRt x0 x1 x2 n L zoneV (bindP (manyT (isSymT [44]) digitsT m acc ts) fun l r => bindP (needS [59] r) fun _ r => .ok ⟨name, l⟩ r))) := by
 intro m
 induction m with
 | zero =>
  intro acc ts hl _ hA
  obtain ⟨t, r, rfl⟩ := ends_ne hA.2.1
  simp at hl
 | succ m ih =>
  intro acc ts hl hacc hA
  have et := r_takeSymbol (x0 := x0) (x1 := x1) (x2 := x2) (n := n) [44] hA
  have mn : manyT (isSymT [44]) digitsT (m + 1) acc ts = if isSymT [44] ts then bindP (digitsT ts.tail) fun a r => manyT (isSymT [44]) digitsT m (acc ++ [a]) r else .ok acc ts := rfl
  rw [mn]
  by_cases hw : isSymT [44] ts = true
  ·have A1 := hA.sym hw
   obtain ⟨ts, rfl⟩ := sym_shape hw
   simp only [hw, if_true, List.tail_cons] at et A1 ⊢
   simp only [List.length_cons] at et hl ⊢
   have e1 := r_digits (x0 := x0) (x1 := x1) (x2 := x2) (n := n) A1
   have qb : (acc.length + 1) * 16 ≤ 140737488355328 := by omega
   cases h1 : digitsT ts with
   | err m e =>
    simp only [h1, rdRt, errH, pfail] at e1
    unfold parser_reader_zone_l1b
    simp [go_sem, et, e1, rdRt, errH, pfail]
   | ok k q =>
    have hq := A1.digitsR h1
    simp only [h1, rdRt] at e1
    have ih := ih (acc ++ [k]) q (by omega) (by simp; omega) hq.1
    simp only [List.map_append, List.map_cons, List.map_nil] at ih
    simp only [bindP_ok]
    unfold parser_reader_zone_l1b
    simp [go_sem, et, e1, qb]
    simpa using ih
  ·have hw : isSymT [44] ts = false := by simpa using hw
   simp only [hw] at et ⊢
   simp at et
   simp only [Bool.false_eq_true, if_false, bindP_ok]
   have e1 := r_needSymbol (x0 := x0) (x1 := x1) (x2 := x2) (n := n) [59] hA
   cases h1 : needS [59] ts with
   | err m e =>
    simp only [h1, rdRt, errH, pfail] at e1
    unfold parser_reader_zone_l1b
    simp [go_sem, et, parser_reader_zone_k1]
    simp [go_sem, parser_reader_zone_k1b, e1, rdRt, errH, pfail]
   | ok u q =>
    simp only [h1, rdRt, noneV] at e1
    unfold parser_reader_zone_l1b
    simp [go_sem, et, parser_reader_zone_k1]
    simp [go_sem, parser_reader_zone_k1b, e1, rdRt, zoneV]
theorem r_zone (hA : At L ts) : acall mach0 n_parser_reader_zone [.ptr 3 0] (hr x0 x1 x2 n L ts.length) = some (rdRt x0 x1 x2 n L zoneV (zoneT ts)) := by
 refine acall_fn rfl (af := a_parser_reader_zone) rfl rfl ?_
 unfold zoneT
 unfold sepT
 have e1 := r_name (x0 := x0) (x1 := x1) (x2 := x2) (n := n) hA
 cases h1 : nameT ts with
 | err m e =>
  simp only [h1, rdRt, errH, pfail] at e1
  simp [List.replicate, go_sem, e1, rdRt, errH, pfail]
 | ok name q1 =>
  have A1 := hA.name h1
  simp only [h1, rdRt] at e1
  simp only [bindP_ok]
  have e2 := r_digits (x0 := x0) (x1 := x1) (x2 := x2) (n := n) A1
  cases h2 : digitsT q1 with
  | err m e =>
   simp only [h2, rdRt, errH, pfail] at e2
   simp [List.replicate, go_sem, e1, e2, rdRt, errH, pfail]
  | ok d q2 =>
   have A2 := A1.digits h2
   simp only [h2, rdRt] at e2
   simp only [bindP_ok]
   have zl := zone_l (x0 := x0) (x1 := x1) (x2 := x2) (n := n) name q2.length [d] q2 (Nat.le_refl _) (by have := A2.len; have := A2.2.2; have := hA.len; have := digitsT_ok h2; have := congrArg List.length this; have := nameT_ok h1; have := congrArg List.length this.1; simp at *; omega) A2
   simp only [List.map_cons, List.map_nil] at zl
   simp [List.replicate, go_sem, e1, e2]
   exact zl
theorem At.zoneR {a : ZoneP} {r : List Tk} (hA : At L ts) (h : zoneT ts = .ok a r) : At L r ∧ r.length ≤ ts.length := by
 unfold zoneT at h
 cases h0 : nameT ts with
 | err m e => rw [h0] at h; cases h
 | ok v q0 =>
  rw [h0, bindP_ok] at h
  have A0 := hA.name h0
  have l0 := nameT_le h0
  cases h1 : sepT digitsT q0 with
  | err m e => rw [h1] at h; cases h
  | ok v q1 =>
   rw [h1, bindP_ok] at h
   have A1 := A0.sep (fun hA h => hA.digitsR h) h1
   have l1 := A1.2
   replace A1 := A1.1
   cases h2 : needS [59] q1 with
   | err m e => rw [h2] at h; cases h
   | ok u q2 =>
    rw [h2, bindP_ok] at h
    have A2 := A1.xS h2
    have l2 := needS_le h2
    cases h; exact ⟨A2, by omega⟩
theorem band_l (name : Bs) : ∀ (m : Nat) (acc : List SlotP) (ts : List Tk), acc ≠ [] → ts.length ≤ m → acc.length + m ≤ 70000 → At L ts →
  Run mach0 (.c parser_reader_band_l1b :: .lp parser_reader_band_l1 :: .endB 0 :: .c parser_reader_band_k1 :: []) .norm ⟨(.ptr 3 0 :: .undef :: .box [.str [], .sl false 3 []] :: .box [.str name, .sl true 3 (acc.map slotV)] :: .undef :: .undef :: .undef :: .undef :: .undef :: .undef :: .undef :: .undef :: .undef :: .undef :: .undef :: .undef :: .undef :: .undef :: .undef :: .undef :: .undef :: .undef :: .undef :: .undef :: .undef :: .undef :: .undef :: .undef :: .undef :: []), hr x0 x1 x2 n L ts.length⟩
   (FinQ [.cell 2 (some 2)] 4 (rdRt x0 x1 x2 n L bandV (bindP (manyT (isSymT [44]) slotT m acc ts) fun l r => bindP (needS [59] r) fun _ r => .ok ⟨name, l⟩ r))) := by
 intro m
 induction m with
 | zero =>
  intro acc ts _ hl _ hA
  obtain ⟨t, r, rfl⟩ := ends_ne hA.2.1
  simp at hl
 | succ m ih =>
  intro acc ts hne hl hacc hA
  have et := r_takeSymbol (x0 := x0) (x1 := x1) (x2 := x2) (n := n) [44] hA
  have mn : manyT (isSymT [44]) slotT (m + 1) acc ts = if isSymT [44] ts then bindP (slotT ts.tail) fun a r => manyT (isSymT [44]) slotT m (acc ++ [a]) r else .ok acc ts := rfl
  rw [mn]
  by_cases hw : isSymT [44] ts = true
  ·have A1 := hA.sym hw
   obtain ⟨ts, rfl⟩ := sym_shape hw
   simp only [hw, if_true, List.tail_cons] at et A1 ⊢
   simp only [List.length_cons] at et hl ⊢
   have e1 := r_slot (x0 := x0) (x1 := x1) (x2 := x2) (n := n) A1
   have qb : (acc.length + 1) * 24 ≤ 140737488355328 := by omega
   cases h1 : slotT ts with
   | err m e =>
    simp only [h1, rdRt, errH, pfail] at e1
    unfold parser_reader_band_l1b
    simp [go_sem, et, e1, rdRt, errH, pfail]
   | ok k q =>
    have hq := A1.slotR h1
    simp only [h1, rdRt, slotV] at e1
    have ih := ih (acc ++ [k]) q (by simp) (by omega) (by simp; omega) hq.1
    simp only [List.map_append, List.map_cons, List.map_nil, slotV] at ih
    simp only [bindP_ok]
    unfold parser_reader_band_l1b
    simp [go_sem, et, e1, qb]
    simpa using ih
  ·have hw : isSymT [44] ts = false := by simpa using hw
   simp only [hw] at et ⊢
   simp at et
   simp only [Bool.false_eq_true, if_false, bindP_ok]
   have e1 := r_needSymbol (x0 := x0) (x1 := x1) (x2 := x2) (n := n) [59] hA
   cases h1 : needS [59] ts with
   | err m e =>
    simp only [h1, rdRt, errH, pfail] at e1
    unfold parser_reader_band_l1b
    simp [go_sem, et, parser_reader_band_k1]
    simp [go_sem, parser_reader_band_k1b, e1, rdRt, errH, pfail]
   | ok u q =>
    simp only [h1, rdRt, noneV] at e1
    unfold parser_reader_band_l1b
    simp [go_sem, et, parser_reader_band_k1]
    simp [go_sem, parser_reader_band_k1b, e1, rdRt, bandV, slotsV_ne hne]
theorem r_band (hA : At L ts) : acall mach0 n_parser_reader_band [.ptr 3 0] (hr x0 x1 x2 n L ts.length) = some (rdRt x0 x1 x2 n L bandV (bandT ts)) := by
 refine acall_fn rfl (af := a_parser_reader_band) rfl rfl ?_
 unfold bandT
 have e1 := r_name (x0 := x0) (x1 := x1) (x2 := x2) (n := n) hA
 cases h1 : nameT ts with
 | err m e =>
  simp only [h1, rdRt, errH, pfail] at e1
  simp [List.replicate, go_sem, e1, rdRt, errH, pfail]
 | ok name q1 =>
  simp only [h1, rdRt] at e1
  have A1 := hA.name h1
  have lt1 : q1.length + 1 ≤ ts.length := by rw [(nameT_ok h1).1]; simp
  simp only [bindP_ok]
  unfold slotsT
  have e2 := r_takeWord (x0 := x0) (x1 := x1) (x2 := x2) (n := n) kOther A1
  by_cases w2 : isWord kOther q1 = true
  ·have A2 := A1.word w2
   obtain ⟨q2, rfl⟩ := word_shape w2
   simp only [w2, if_true, List.tail_cons] at e2 A2 ⊢
   simp only [kOther] at e2
   simp only [List.length_cons] at *
   simp only [bindP_ok]
   have e3 := r_needSymbol (x0 := x0) (x1 := x1) (x2 := x2) (n := n) [59] A2
   cases h3 : needS [59] q2 with
   | err m e =>
    simp only [h3, rdRt, errH, pfail] at e3
    simp [List.replicate, go_sem, e1, e2, parser_reader_band_k1]
    simp [go_sem, parser_reader_band_k1b, e3, rdRt, errH, pfail]
   | ok u q3 =>
    simp only [h3, rdRt, noneV] at e3
    simp [List.replicate, go_sem, e1, e2, parser_reader_band_k1]
    simp [go_sem, parser_reader_band_k1b, e3, rdRt, bandV, slotsV]
  ·have w2 : isWord kOther q1 = false := by simpa using w2
   simp only [w2] at e2 ⊢
   simp [kOther] at e2
   simp only [Bool.false_eq_true, if_false]
   unfold sepT
   have e3 := r_slot (x0 := x0) (x1 := x1) (x2 := x2) (n := n) A1
   cases h3 : slotT q1 with
   | err m e =>
    simp only [h3, rdRt, errH, pfail] at e3
    simp [List.replicate, go_sem, e1, e2, e3, rdRt, errH, pfail]
   | ok d q2 =>
    simp only [h3, rdRt, slotV] at e3
    have A3 := A1.slotR h3
    simp only [bindP_ok]
    have zl := band_l (x0 := x0) (x1 := x1) (x2 := x2) (n := n) name q2.length [d] q2 (by simp) (Nat.le_refl _) (by have := hA.len; have := hA.2.2; simp only [List.length_singleton]; omega) A3.1
    simp only [List.map_cons, List.map_nil, slotV] at zl
    simp [List.replicate, go_sem, e1, e2, e3]
    exact zl
theorem At.slotsR {a : List SlotP} {r : List Tk} (hA : At L ts) (h : slotsT ts = .ok a r) : At L r ∧ r.length ≤ ts.length := by
 unfold slotsT at h
 split at h
 ·rename_i hw
  have A1 := hA.word hw
  obtain ⟨ts, rfl⟩ := word_shape hw
  cases h
  exact ⟨A1, by simp⟩
 ·exact hA.sep (fun hA h => hA.slotR h) h
theorem At.bandR {a : BandP} {r : List Tk} (hA : At L ts) (h : bandT ts = .ok a r) : At L r ∧ r.length ≤ ts.length := by
 unfold bandT at h
 cases h0 : nameT ts with
 | err m e => rw [h0] at h; cases h
 | ok v q0 =>
  rw [h0, bindP_ok] at h
  have A0 := hA.name h0
  have l0 := nameT_le h0
  cases h1 : slotsT q0 with
  | err m e => rw [h1] at h; cases h
  | ok v q1 =>
   rw [h1, bindP_ok] at h
   have A1 := A0.slotsR h1
   have l1 := A1.2
   replace A1 := A1.1
   cases h2 : needS [59] q1 with
   | err m e => rw [h2] at h; cases h
   | ok u q2 =>
    rw [h2, bindP_ok] at h
    have A2 := A1.xS h2
    have l2 := needS_le h2
    cases h; exact ⟨A2, by omega⟩
theorem wplaceF_lo (s : Bs) : ∀ (l : List Bs) (i : Nat), wplaceF s l i = -1 ∨ (i : Int) ≤ wplaceF s l i
 | [], _ => .inl rfl
 | w :: l, i => by
  simp only [wplaceF]
  split
  ·exact .inr (Int.le_refl _)
  ·rcases wplaceF_lo s l (i + 1) with h | h
   ·exact .inl h
   ·right; omega
theorem wplace_lo (s : Bs) (l : List Bs) : wplace l s = -1 ∨ 0 ≤ wplace l s := by
 rcases wplaceF_lo s l 0 with h | h
 ·exact .inl h
 ·right; unfold wplace; omega
theorem rate_l (kind : Int) (zone band : Bs) (setup : Int) : ∀ (m : Nat) (acc : List StepP) (ts : List Tk), ts.length ≤ m → acc.length + m ≤ 70000 → At L ts →
  Run mach0 (.c parser_reader_rate_l1b :: .lp parser_reader_rate_l1 :: .endB 0 :: .c parser_reader_rate_k1 :: []) .norm ⟨(.ptr 3 0 :: .undef :: .box [.int .i64 0, .str [], .str [], .int .i64 0, .sl false 3 []] :: .box [.int .i64 kind, .str zone, .str band, .int .i64 setup, .sl true 3 (acc.map stepV)] :: .undef :: .undef :: .undef :: .undef :: .undef :: .undef :: .undef :: .undef :: .undef :: .undef :: .undef :: .undef :: .undef :: .undef :: .undef :: .undef :: .undef :: .undef :: .undef :: .undef :: .undef :: .undef :: .undef :: .undef :: .undef :: .undef :: .undef :: .undef :: .undef :: .undef :: .undef :: .undef :: .undef :: .undef :: .undef :: .undef :: .undef :: .undef :: .undef :: .undef :: .undef :: .undef :: .undef :: .undef :: .undef :: .undef :: .undef :: .undef :: .undef :: .undef :: .undef :: .undef :: .undef :: []), hr x0 x1 x2 n L ts.length⟩
   (FinQ [.cell 2 (some 5)] 4 (rdRt x0 x1 x2 n L rateV (bindP (manyT (isSymT [44]) tierT m acc ts) fun l r => bindP (needS [59] r) fun _ r => .ok ⟨kind, zone, band, setup, l⟩ r))) := by
 intro m
 induction m with
 | zero =>
  intro acc ts hl _ hA
  obtain ⟨t, r, rfl⟩ := ends_ne hA.2.1
  simp at hl
 | succ m ih =>
  intro acc ts hl hacc hA
  have et := r_takeSymbol (x0 := x0) (x1 := x1) (x2 := x2) (n := n) [44] hA
  have mn : manyT (isSymT [44]) tierT (m + 1) acc ts = if isSymT [44] ts then bindP (tierT ts.tail) fun a r => manyT (isSymT [44]) tierT m (acc ++ [a]) r else .ok acc ts := rfl
  rw [mn]
  by_cases hw : isSymT [44] ts = true
  ·have A1 := hA.sym hw
   obtain ⟨ts, rfl⟩ := sym_shape hw
   simp only [hw, if_true, List.tail_cons] at et A1 ⊢
   simp only [List.length_cons] at et hl ⊢
   have e1 := r_step (x0 := x0) (x1 := x1) (x2 := x2) (n := n) A1
   have qb : (acc.length + 1) * 24 ≤ 140737488355328 := by omega
   cases h1 : tierT ts with
   | err m e =>
    simp only [h1, rdRt, errH, pfail] at e1
    unfold parser_reader_rate_l1b
    simp [go_sem, et, e1, rdRt, errH, pfail]
   | ok k q =>
    have hq := A1.stepR h1
    simp only [h1, rdRt, stepV] at e1
    have ih := ih (acc ++ [k]) q (by omega) (by simp; omega) hq.1
    simp only [List.map_append, List.map_cons, List.map_nil, stepV] at ih
    simp only [bindP_ok]
    unfold parser_reader_rate_l1b
    simp [go_sem, et, e1, qb]
    simpa using ih
  ·have hw : isSymT [44] ts = false := by simpa using hw
   simp only [hw] at et ⊢
   simp at et
   simp only [Bool.false_eq_true, if_false, bindP_ok]
   have e1 := r_needSymbol (x0 := x0) (x1 := x1) (x2 := x2) (n := n) [59] hA
   cases h1 : needS [59] ts with
   | err m e =>
    simp only [h1, rdRt, errH, pfail] at e1
    unfold parser_reader_rate_l1b
    simp [go_sem, et, parser_reader_rate_k1]
    simp [go_sem, parser_reader_rate_k1b, e1, rdRt, errH, pfail]
   | ok u q =>
    simp only [h1, rdRt, noneV] at e1
    unfold parser_reader_rate_l1b
    simp [go_sem, et, parser_reader_rate_k1]
    simp [go_sem, parser_reader_rate_k1b, e1, rdRt, rateV]
theorem r_rate (hA : At L ts) : acall mach0 n_parser_reader_rate [.ptr 3 0] (hr x0 x1 x2 n L ts.length) = some (rdRt x0 x1 x2 n L rateV (rateT ts)) := by
 refine acall_fn rfl (af := a_parser_reader_rate) rfl rfl ?_
 unfold rateT
 have h70 := hA.2.2
 have hlen := hA.len
 obtain ⟨t, ts, rfl⟩ := ends_ne hA.2.1
 have ep := e_peek (x0 := x0) (x1 := x1) (x2 := x2) (n := n) hA
 have es := e_skip (x0 := x0) (x1 := x1) (x2 := x2) (n := n) hA
 have ek := e_kind t.str
 have ef := fun h => e_pfail t.kind t.val (posV n L (ts.length + 1)) t.str 1 h
 simp only [hr, tokV] at ep es ef
 by_cases hk : t.kind = 1
 ·obtain ⟨w, rfl⟩ := word_of_kind hk
  have ef := fun h => e_pfail 1 0 (posV n L (ts.length + 1)) w 1 h
  simp only [tokV] at ef
  simp only [Tk.kind, Tk.val, Tk.str] at ep es ek
  have e4 : Go.Pu.wordT kindWs 0 (.word w :: ts) = if wplace kindWs w < 0 ∨ wplace kindWs w < 0 then failT (.word w :: ts) 1 else .ok (wplace kindWs w) ts := rfl
  rw [e4]
  obtain ⟨v, hv⟩ : ∃ v, wplace kindWs w + 1 = v := ⟨_, rfl⟩
  rw [hv] at ek
  by_cases hp : wplace kindWs w < 0
  ·have hz : (v == 0) = true := by
    rcases wplace_lo w kindWs with h | h
    ·exact bt' (by omega)
    ·omega
   rw [if_pos (by omega)]
   simp [List.replicate, go_sem, ep, ek, hz, ef, rdRt, failT, errH]
   simp [pfail, go_sem]
  ·have hz : (v == 0) = false := bf' (by omega)
   rw [if_neg (by omega)]
   have A0 := hA.tl (by simp)
   simp only [bindP_ok]
   have e1 := r_needWord (x0 := x0) (x1 := x1) (x2 := x2) (n := n) kTo A0
   cases h1 : needW kTo ts with
   | err m e =>
    simp only [h1, rdRt, errH, pfail] at e1
    simp only [kTo] at e1
    simp [List.replicate, go_sem, ep, es, ek, hz, e1, rdRt, errH, pfail]
   | ok u q1 =>
    have A1 := A0.xW h1
    simp only [h1, rdRt, noneV] at e1
    simp only [kTo] at e1
    simp only [bindP_ok]
    have e2 := r_nameOrAny (x0 := x0) (x1 := x1) (x2 := x2) (n := n) A1
    cases h2 : nameOrAny q1 with
    | err m e =>
     simp only [h2, rdRt, errH, pfail] at e2
     simp [List.replicate, go_sem, ep, es, ek, hz, e1, e2, rdRt, errH, pfail]
    | ok zone q2 =>
     have A2 := A1.xAny h2
     simp only [h2, rdRt] at e2
     simp only [bindP_ok]
     have e3 := r_needWord (x0 := x0) (x1 := x1) (x2 := x2) (n := n) kIn A2
     cases h3 : needW kIn q2 with
     | err m e =>
      simp only [h3, rdRt, errH, pfail] at e3
      simp only [kIn] at e3
      simp [List.replicate, go_sem, ep, es, ek, hz, e1, e2, e3, rdRt, errH, pfail]
     | ok u q3 =>
      have A3 := A2.xW h3
      simp only [h3, rdRt, noneV] at e3
      simp only [kIn] at e3
      simp only [bindP_ok]
      have e4 := r_nameOrAny (x0 := x0) (x1 := x1) (x2 := x2) (n := n) A3
      cases h4 : nameOrAny q3 with
      | err m e =>
       simp only [h4, rdRt, errH, pfail] at e4
       simp [List.replicate, go_sem, ep, es, ek, hz, e1, e2, e3, e4, rdRt, errH, pfail]
      | ok band q4 =>
       have A4 := A3.xAny h4
       simp only [h4, rdRt] at e4
       simp only [bindP_ok]
       have e5 := r_takeWord (x0 := x0) (x1 := x1) (x2 := x2) (n := n) kSetup A4
       unfold optN sepT
       by_cases w5 : isWord kSetup q4 = true
       ·have A5 := A4.word w5
        obtain ⟨q5, rfl⟩ := word_shape w5
        simp only [w5, if_true, List.tail_cons] at e5 A5 ⊢
        simp only [kSetup] at e5
        simp only [List.length_cons] at *
        have e6 := r_number (x0 := x0) (x1 := x1) (x2 := x2) (n := n) A5
        cases h6 : numberT q5 with
        | err m e =>
         simp only [h6, rdRt, errH, pfail] at e6
         simp [List.replicate, go_sem, ep, es, ek, hz, e1, e2, e3, e4, e5, e6, rdRt, errH, pfail]
        | ok setup q6 =>
         have A6 := A5.number h6
         simp only [h6, rdRt] at e6
         simp only [bindP_ok]
         have e7 := r_step (x0 := x0) (x1 := x1) (x2 := x2) (n := n) A6
         cases h7 : tierT q6 with
         | err m e =>
          simp only [h7, rdRt, errH, pfail] at e7
          simp [List.replicate, go_sem, ep, es, ek, hz, e1, e2, e3, e4, e5, e6, e7, rdRt, errH, pfail]
         | ok d q7 =>
          have A7 := A6.stepR h7
          simp only [h7, rdRt, stepV] at e7
          simp only [bindP_ok]
          have zl := rate_l (x0 := x0) (x1 := x1) (x2 := x2) (n := n) v zone band setup q7.length [d] q7 (Nat.le_refl _) (by have := A7.1.len; have := A7.2; have := h70; have := hlen; have := needW_le h1; have := nameOrAny_le h2; have := needW_le h3; have := nameOrAny_le h4; have := numberT_le h6; simp only [List.length_singleton, List.length_cons, List.length_nil] at *; omega) A7.1
          simp only [List.map_cons, List.map_nil, stepV] at zl
          simp [List.replicate, go_sem, ep, es, ek, hz, e1, e2, e3, e4, e5, e6, e7, hv]
          exact zl
       ·have w5 : isWord kSetup q4 = false := by simpa using w5
        simp only [w5] at e5 ⊢
        simp [kSetup] at e5
        simp only [Bool.false_eq_true, if_false, bindP_ok]
        have e6 := r_step (x0 := x0) (x1 := x1) (x2 := x2) (n := n) A4
        cases h6 : tierT q4 with
        | err m e =>
         simp only [h6, rdRt, errH, pfail] at e6
         simp [List.replicate, go_sem, ep, es, ek, hz, e1, e2, e3, e4, e5, e6, rdRt, errH, pfail]
        | ok d q6 =>
         have A6 := A4.stepR h6
         simp only [h6, rdRt, stepV] at e6
         simp only [bindP_ok]
         have zl := rate_l (x0 := x0) (x1 := x1) (x2 := x2) (n := n) v zone band 0 q6.length [d] q6 (Nat.le_refl _) (by have := A6.1.len; have := A6.2; have := h70; have := hlen; have := needW_le h1; have := nameOrAny_le h2; have := needW_le h3; have := nameOrAny_le h4; simp only [List.length_singleton, List.length_cons, List.length_nil] at *; omega) A6.1
         simp only [List.map_cons, List.map_nil, stepV] at zl
         simp [List.replicate, go_sem, ep, es, ek, hz, e1, e2, e3, e4, e5, e6, hv]
         exact zl
 ·have hk' : ¬ (t.kind : Int) = 1 := by omega
  have e3 : Go.Pu.wordT kindWs 0 (t :: ts) = failT (t :: ts) 1 := by cases t <;> simp [Go.Pu.wordT, Tk.kind] at hk ⊢
  rw [e3]
  simp [List.replicate, go_sem, ep, ek, ef, nt' hk', rdRt, failT, errH]
  simp [pfail, go_sem]
theorem At.rateR {a : RateP} {r : List Tk} (hA : At L ts) (h : rateT ts = .ok a r) : At L r ∧ r.length ≤ ts.length := by
 unfold rateT at h
 cases h0 : wordT kindWs 0 ts with
 | err m e => rw [h0] at h; cases h
 | ok v q0 =>
  rw [h0, bindP_ok] at h
  have A0 := hA.xWord h0
  have l0 := wordT_le h0
  cases h1 : needW kTo q0 with
  | err m e => rw [h1] at h; cases h
  | ok u q1 =>
   rw [h1, bindP_ok] at h
   have A1 := A0.xW h1
   have l1 := needW_le h1
   cases h2 : nameOrAny q1 with
   | err m e => rw [h2] at h; cases h
   | ok v q2 =>
    rw [h2, bindP_ok] at h
    have A2 := A1.xAny h2
    have l2 := nameOrAny_le h2
    cases h3 : needW kIn q2 with
    | err m e => rw [h3] at h; cases h
    | ok u q3 =>
     rw [h3, bindP_ok] at h
     have A3 := A2.xW h3
     have l3 := needW_le h3
     cases h4 : nameOrAny q3 with
     | err m e => rw [h4] at h; cases h
     | ok v q4 =>
      rw [h4, bindP_ok] at h
      have A4 := A3.xAny h4
      have l4 := nameOrAny_le h4
      cases h5 : optN kSetup q4 with
      | err m e => rw [h5] at h; cases h
      | ok v q5 =>
       rw [h5, bindP_ok] at h
       have A5 := A4.opt h5
       have l5 := A5.2
       replace A5 := A5.1
       cases h6 : sepT tierT q5 with
       | err m e => rw [h6] at h; cases h
       | ok v q6 =>
        rw [h6, bindP_ok] at h
        have A6 := A5.sep (fun hA h => hA.stepR h) h6
        have l6 := A6.2
        replace A6 := A6.1
        cases h7 : needS [59] q6 with
        | err m e => rw [h7] at h; cases h
        | ok u q7 =>
         rw [h7, bindP_ok] at h
         have A7 := A6.xS h7
         have l7 := needS_le h7
         cases h; exact ⟨A7, by omega⟩
theorem r_discount (hA : At L ts) : acall mach0 n_parser_reader_discount [.ptr 3 0] (hr x0 x1 x2 n L ts.length) = some (rdRt x0 x1 x2 n L discV (discT ts)) := by
 refine acall_fn rfl (af := a_parser_reader_discount) rfl rfl ?_
 unfold discT
 have e1 := r_name (x0 := x0) (x1 := x1) (x2 := x2) (n := n) hA
 cases h1 : nameT ts with
 | err m e =>
  simp only [h1, rdRt, errH, pfail] at e1
  simp [List.replicate, go_sem, e1, rdRt, errH, pfail]
 | ok name q1 =>
  have A1 := hA.name h1
  simp only [h1, rdRt] at e1
  simp only [bindP_ok]
  have e2 := r_number (x0 := x0) (x1 := x1) (x2 := x2) (n := n) A1
  cases h2 : numberT q1 with
  | err m e =>
   simp only [h2, rdRt, errH, pfail] at e2
   simp [List.replicate, go_sem, e1, e2, rdRt, errH, pfail]
  | ok p q2 =>
   have A2 := A1.number h2
   simp only [h2, rdRt] at e2
   simp only [bindP_ok]
   have e3 := r_needWord (x0 := x0) (x1 := x1) (x2 := x2) (n := n) kPoints A2
   cases h3 : needW kPoints q2 with
   | err m e =>
    simp only [h3, rdRt, errH, pfail] at e3
    simp only [kPoints] at e3
    simp [List.replicate, go_sem, e1, e2, e3, rdRt, errH, pfail]
   | ok u q3 =>
    have A3 := A2.xW h3
    simp only [h3, rdRt, noneV] at e3
    simp only [kPoints] at e3
    simp only [bindP_ok]
    have e4 := r_needWord (x0 := x0) (x1 := x1) (x2 := x2) (n := n) kWhen A3
    cases h4 : needW kWhen q3 with
    | err m e =>
     simp only [h4, rdRt, errH, pfail] at e4
     simp only [kWhen] at e4
     simp [List.replicate, go_sem, e1, e2, e3, e4, rdRt, errH, pfail]
    | ok u q4 =>
     have A4 := A3.xW h4
     simp only [h4, rdRt, noneV] at e4
     simp only [kWhen] at e4
     simp only [bindP_ok]
     have e5 := e_either (x0 := x0) (x1 := x1) (x2 := x2) (n := n) A4
     cases h5 : exprT q4 with
     | err m e =>
      simp only [h5, rdRt, errH, pfail] at e5
      simp [List.replicate, go_sem, e1, e2, e3, e4, e5, rdRt, errH, pfail]
     | ok x q5 =>
      have A5 := A4.expr h5
      obtain ⟨op, num, text, args⟩ := x
      simp only [h5, rdRt, exprV] at e5
      simp only [bindP_ok]
      have e6 := r_needSymbol (x0 := x0) (x1 := x1) (x2 := x2) (n := n) [59] A5
      cases h6 : needS [59] q5 with
      | err m e =>
       simp only [h6, rdRt, errH, pfail] at e6
       simp [List.replicate, go_sem, e1, e2, e3, e4, e5, e6, rdRt, errH, pfail]
      | ok u q6 =>
       have A6 := A5.xS h6
       simp only [h6, rdRt, noneV] at e6
       simp only [bindP_ok]
       simp [List.replicate, go_sem, e1, e2, e3, e4, e5, e6, rdRt, discV, exprC]
theorem At.discR {a : DiscP} {r : List Tk} (hA : At L ts) (h : discT ts = .ok a r) : At L r ∧ r.length ≤ ts.length := by
 unfold discT at h
 cases h0 : nameT ts with
 | err m e => rw [h0] at h; cases h
 | ok v q0 =>
  rw [h0, bindP_ok] at h
  have A0 := hA.name h0
  have l0 := nameT_le h0
  cases h1 : numberT q0 with
  | err m e => rw [h1] at h; cases h
  | ok v q1 =>
   rw [h1, bindP_ok] at h
   have A1 := A0.number h1
   have l1 := numberT_le h1
   cases h2 : needW kPoints q1 with
   | err m e => rw [h2] at h; cases h
   | ok u q2 =>
    rw [h2, bindP_ok] at h
    have A2 := A1.xW h2
    have l2 := needW_le h2
    cases h3 : needW kWhen q2 with
    | err m e => rw [h3] at h; cases h
    | ok u q3 =>
     rw [h3, bindP_ok] at h
     have A3 := A2.xW h3
     have l3 := needW_le h3
     cases h4 : exprT q3 with
     | err m e => rw [h4] at h; cases h
     | ok v q4 =>
      rw [h4, bindP_ok] at h
      have A4 := A3.expr h4
      have l4 := exprT_le h4
      cases h5 : needS [59] q4 with
      | err m e => rw [h5] at h; cases h
      | ok u q5 =>
       rw [h5, bindP_ok] at h
       have A5 := A4.xS h5
       have l5 := needS_le h5
       cases h; exact ⟨A5, by omega⟩
end
end Go.Am
namespace Go.Am
open Go Go.Pu
theorem slotsV_sl (l : List SlotP) : ∃ sz xs, slotsV l = .sl false sz xs := by
 cases l with
 | nil => exact ⟨_, _, rfl⟩
 | cons a l => exact ⟨_, _, rfl⟩
section
variable {x0 x1 x2 : List V} {n : Nat} {L : List (Tk × Nat)} {ts : List Tk}
theorem td_l (name : Bs) (start : Int) (split : Bool) (zs : List ZoneP) (bs : List BandP) (rs : List RateP) : ∀ (m : Nat) (acc : List DiscP) (ts : List Tk), ts.length ≤ m → acc.length + m ≤ 70000 → At L ts →
  Run mach0 (.c parser_reader_tariff_l4b :: .lp parser_reader_tariff_l4 :: .endB 6 :: .c parser_reader_tariff_k1 :: []) .norm ⟨(.ptr 3 0 :: .undef :: .box [.str [], .int .i64 0, .bool false, .sl false 2 [], .sl false 2 [], .sl false 5 [], .sl false 6 []] :: .box [.str name, .int .i64 start, .bool split, .sl true 2 (zs.map zoneV), .sl true 2 (bs.map bandV), .sl true 5 (rs.map rateV), .sl true 6 (acc.map discV)] :: .undef :: .undef :: .undef :: .undef :: .undef :: .undef :: .undef :: .undef :: .undef :: .undef :: .undef :: .undef :: .undef :: .undef :: .undef :: .undef :: .undef :: .undef :: .undef :: .undef :: .undef :: .undef :: .undef :: .undef :: .undef :: .undef :: .undef :: .undef :: .undef :: .undef :: .undef :: .undef :: .undef :: .undef :: .undef :: .undef :: .undef :: .undef :: .undef :: .undef :: .undef :: .undef :: .undef :: .undef :: .undef :: .undef :: .undef :: .undef :: .undef :: .undef :: .undef :: .undef :: .undef :: .undef :: .undef :: .undef :: .undef :: .undef :: .undef :: .undef :: .undef :: .undef :: .undef :: .undef :: .undef :: .undef :: .undef :: .undef :: .undef :: .undef :: .undef :: .undef :: .undef :: .undef :: .undef :: .undef :: .undef :: .undef :: []), hr x0 x1 x2 n L ts.length⟩
   (FinQ [.cell 2 (some 7)] 4 (rdRt x0 x1 x2 n L tariffV (bindP (manyT (isWord kDisc) discT m acc ts) fun l r => .ok ⟨name, start, split, zs, bs, rs, l⟩ r))) := by
 intro m
 induction m with
 | zero =>
  intro acc ts hl _ hA
  obtain ⟨t, r, rfl⟩ := ends_ne hA.2.1
  simp at hl
 | succ m ih =>
  intro acc ts hl hacc hA
  have et := r_takeWord (x0 := x0) (x1 := x1) (x2 := x2) (n := n) kDisc hA
  have mn : manyT (isWord kDisc) discT (m + 1) acc ts = if isWord kDisc ts then bindP (discT ts.tail) fun a r => manyT (isWord kDisc) discT m (acc ++ [a]) r else .ok acc ts := rfl
  rw [mn]
  by_cases hw : isWord kDisc ts = true
  ·have A1 := hA.word hw
   obtain ⟨ts, rfl⟩ := word_shape hw
   simp only [hw, if_true, List.tail_cons] at et A1 ⊢
   simp only [List.length_cons] at et hl ⊢
   simp only [kDisc] at et
   have e1 := r_discount (x0 := x0) (x1 := x1) (x2 := x2) (n := n) A1
   have qb : (acc.length + 1) * 80 ≤ 140737488355328 := by omega
   cases h1 : discT ts with
   | err m e =>
    simp only [h1, rdRt, errH, pfail] at e1
    unfold parser_reader_tariff_l4b
    simp [go_sem, et, e1, rdRt, errH, pfail]
   | ok k q =>
    have hq := A1.discR h1
    obtain ⟨nm, po, op, num, text, args⟩ := k
    simp only [h1, rdRt, discV, exprC] at e1
    have ih := ih (acc ++ [⟨nm, po, op, num, text, args⟩]) q (by omega) (by simp; omega) hq.1
    simp only [List.map_append, List.map_cons, List.map_nil, discV, exprC] at ih
    simp only [bindP_ok]
    unfold parser_reader_tariff_l4b
    simp [go_sem, et, e1, qb]
    simpa using ih
  ·have hw : isWord kDisc ts = false := by simpa using hw
   simp only [hw] at et ⊢
   simp [kDisc] at et
   simp only [Bool.false_eq_true, if_false, bindP_ok]
   unfold parser_reader_tariff_l4b
   simp [go_sem, et, parser_reader_tariff_k1]
   simp [go_sem, parser_reader_tariff_k1b, rdRt, tariffV]
theorem tr_l (name : Bs) (start : Int) (split : Bool) (zs : List ZoneP) (bs : List BandP) : ∀ (m : Nat) (acc : List RateP) (ts : List Tk), ts.length ≤ m → acc.length + m ≤ 70000 → At L ts →
  Run mach0 (.c parser_reader_tariff_l3b :: .lp parser_reader_tariff_l3 :: .endB 4 :: .c parser_reader_tariff_k2 :: []) .norm ⟨(.ptr 3 0 :: .undef :: .box [.str [], .int .i64 0, .bool false, .sl false 2 [], .sl false 2 [], .sl false 5 [], .sl false 6 []] :: .box [.str name, .int .i64 start, .bool split, .sl true 2 (zs.map zoneV), .sl true 2 (bs.map bandV), .sl true 5 (acc.map rateV), .sl true 6 []] :: .undef :: .undef :: .undef :: .undef :: .undef :: .undef :: .undef :: .undef :: .undef :: .undef :: .undef :: .undef :: .undef :: .undef :: .undef :: .undef :: .undef :: .undef :: .undef :: .undef :: .undef :: .undef :: .undef :: .undef :: .undef :: .undef :: .undef :: .undef :: .undef :: .undef :: .undef :: .undef :: .undef :: .undef :: .undef :: .undef :: .undef :: .undef :: .undef :: .undef :: .undef :: .undef :: .undef :: .undef :: .undef :: .undef :: .undef :: .undef :: .undef :: .undef :: .undef :: .undef :: .undef :: .undef :: .undef :: .undef :: .undef :: .undef :: .undef :: .undef :: .undef :: .undef :: .undef :: .undef :: .undef :: .undef :: .undef :: .undef :: .undef :: .undef :: .undef :: .undef :: .undef :: .undef :: .undef :: .undef :: .undef :: .undef :: []), hr x0 x1 x2 n L ts.length⟩
   (FinQ [.cell 2 (some 7)] 4 (rdRt x0 x1 x2 n L tariffV (bindP (manyT (isWord kRate) rateT m acc ts) fun l r => bindP (manyT (isWord kDisc) discT r.length [] r) fun ds r => .ok ⟨name, start, split, zs, bs, l, ds⟩ r))) := by
 intro m
 induction m with
 | zero =>
  intro acc ts hl _ hA
  obtain ⟨t, r, rfl⟩ := ends_ne hA.2.1
  simp at hl
 | succ m ih =>
  intro acc ts hl hacc hA
  have et := r_takeWord (x0 := x0) (x1 := x1) (x2 := x2) (n := n) kRate hA
  have mn : manyT (isWord kRate) rateT (m + 1) acc ts = if isWord kRate ts then bindP (rateT ts.tail) fun a r => manyT (isWord kRate) rateT m (acc ++ [a]) r else .ok acc ts := rfl
  rw [mn]
  by_cases hw : isWord kRate ts = true
  ·have A1 := hA.word hw
   obtain ⟨ts, rfl⟩ := word_shape hw
   simp only [hw, if_true, List.tail_cons] at et A1 ⊢
   simp only [List.length_cons] at et hl ⊢
   simp only [kRate] at et
   have e1 := r_rate (x0 := x0) (x1 := x1) (x2 := x2) (n := n) A1
   have qb : (acc.length + 1) * 72 ≤ 140737488355328 := by omega
   cases h1 : rateT ts with
   | err m e =>
    simp only [h1, rdRt, errH, pfail] at e1
    unfold parser_reader_tariff_l3b
    simp [go_sem, et, e1, rdRt, errH, pfail]
   | ok k q =>
    have hq := A1.rateR h1
    simp only [h1, rdRt, rateV] at e1
    have ih := ih (acc ++ [k]) q (by omega) (by simp; omega) hq.1
    simp only [List.map_append, List.map_cons, List.map_nil, rateV] at ih
    simp only [bindP_ok]
    unfold parser_reader_tariff_l3b
    simp [go_sem, et, e1, qb]
    simpa using ih
  ·have hw : isWord kRate ts = false := by simpa using hw
   simp only [hw] at et ⊢
   simp [kRate] at et
   simp only [Bool.false_eq_true, if_false, bindP_ok]
   have nx := td_l (x0 := x0) (x1 := x1) (x2 := x2) (n := n) name start split zs bs acc ts.length [] ts (Nat.le_refl _) (by have := hA.len; have := hA.2.2; simp only [List.length_nil]; omega) hA
   simp only [List.map_nil] at nx
   unfold parser_reader_tariff_l3b
   simp [go_sem, et, parser_reader_tariff_k2]
   simp [go_sem, parser_reader_tariff_k2b]
   exact nx
theorem tb_l (name : Bs) (start : Int) (split : Bool) (zs : List ZoneP) : ∀ (m : Nat) (acc : List BandP) (ts : List Tk), ts.length ≤ m → acc.length + m ≤ 70000 → At L ts →
  Run mach0 (.c parser_reader_tariff_l2b :: .lp parser_reader_tariff_l2 :: .endB 2 :: .c parser_reader_tariff_k3 :: []) .norm ⟨(.ptr 3 0 :: .undef :: .box [.str [], .int .i64 0, .bool false, .sl false 2 [], .sl false 2 [], .sl false 5 [], .sl false 6 []] :: .box [.str name, .int .i64 start, .bool split, .sl true 2 (zs.map zoneV), .sl true 2 (acc.map bandV), .sl true 5 [], .sl true 6 []] :: .undef :: .undef :: .undef :: .undef :: .undef :: .undef :: .undef :: .undef :: .undef :: .undef :: .undef :: .undef :: .undef :: .undef :: .undef :: .undef :: .undef :: .undef :: .undef :: .undef :: .undef :: .undef :: .undef :: .undef :: .undef :: .undef :: .undef :: .undef :: .undef :: .undef :: .undef :: .undef :: .undef :: .undef :: .undef :: .undef :: .undef :: .undef :: .undef :: .undef :: .undef :: .undef :: .undef :: .undef :: .undef :: .undef :: .undef :: .undef :: .undef :: .undef :: .undef :: .undef :: .undef :: .undef :: .undef :: .undef :: .undef :: .undef :: .undef :: .undef :: .undef :: .undef :: .undef :: .undef :: .undef :: .undef :: .undef :: .undef :: .undef :: .undef :: .undef :: .undef :: .undef :: .undef :: .undef :: .undef :: .undef :: .undef :: []), hr x0 x1 x2 n L ts.length⟩
   (FinQ [.cell 2 (some 7)] 4 (rdRt x0 x1 x2 n L tariffV (bindP (manyT (isWord kBand) bandT m acc ts) fun l r => bindP (manyT (isWord kRate) rateT r.length [] r) fun rs r => bindP (manyT (isWord kDisc) discT r.length [] r) fun ds r => .ok ⟨name, start, split, zs, l, rs, ds⟩ r))) := by
 intro m
 induction m with
 | zero =>
  intro acc ts hl _ hA
  obtain ⟨t, r, rfl⟩ := ends_ne hA.2.1
  simp at hl
 | succ m ih =>
  intro acc ts hl hacc hA
  have et := r_takeWord (x0 := x0) (x1 := x1) (x2 := x2) (n := n) kBand hA
  have mn : manyT (isWord kBand) bandT (m + 1) acc ts = if isWord kBand ts then bindP (bandT ts.tail) fun a r => manyT (isWord kBand) bandT m (acc ++ [a]) r else .ok acc ts := rfl
  rw [mn]
  by_cases hw : isWord kBand ts = true
  ·have A1 := hA.word hw
   obtain ⟨ts, rfl⟩ := word_shape hw
   simp only [hw, if_true, List.tail_cons] at et A1 ⊢
   simp only [List.length_cons] at et hl ⊢
   simp only [kBand] at et
   have e1 := r_band (x0 := x0) (x1 := x1) (x2 := x2) (n := n) A1
   have qb : (acc.length + 1) * 40 ≤ 140737488355328 := by omega
   cases h1 : bandT ts with
   | err m e =>
    simp only [h1, rdRt, errH, pfail] at e1
    unfold parser_reader_tariff_l2b
    simp [go_sem, et, e1, rdRt, errH, pfail]
   | ok k q =>
    have hq := A1.bandR h1
    simp only [h1, rdRt, bandV] at e1
    obtain ⟨ssz, sxs, hsl⟩ := slotsV_sl k.slots
    rw [hsl] at e1
    have ih := ih (acc ++ [k]) q (by omega) (by simp; omega) hq.1
    simp only [List.map_append, List.map_cons, List.map_nil, bandV, hsl] at ih
    simp only [bindP_ok]
    unfold parser_reader_tariff_l2b
    simp [go_sem, et, e1, qb]
    simpa using ih
  ·have hw : isWord kBand ts = false := by simpa using hw
   simp only [hw] at et ⊢
   simp [kBand] at et
   simp only [Bool.false_eq_true, if_false, bindP_ok]
   have nx := tr_l (x0 := x0) (x1 := x1) (x2 := x2) (n := n) name start split zs acc ts.length [] ts (Nat.le_refl _) (by have := hA.len; have := hA.2.2; simp only [List.length_nil]; omega) hA
   simp only [List.map_nil] at nx
   unfold parser_reader_tariff_l2b
   simp [go_sem, et, parser_reader_tariff_k3]
   simp [go_sem, parser_reader_tariff_k3b]
   exact nx
theorem tz_l (name : Bs) (start : Int) (split : Bool) : ∀ (m : Nat) (acc : List ZoneP) (ts : List Tk), ts.length ≤ m → acc.length + m ≤ 70000 → At L ts →
  Run mach0 (.c parser_reader_tariff_l1b :: .lp parser_reader_tariff_l1 :: .endB 0 :: .c parser_reader_tariff_k4 :: []) .norm ⟨(.ptr 3 0 :: .undef :: .box [.str [], .int .i64 0, .bool false, .sl false 2 [], .sl false 2 [], .sl false 5 [], .sl false 6 []] :: .box [.str name, .int .i64 start, .bool split, .sl true 2 (acc.map zoneV), .sl true 2 [], .sl true 5 [], .sl true 6 []] :: .undef :: .undef :: .undef :: .undef :: .undef :: .undef :: .undef :: .undef :: .undef :: .undef :: .undef :: .undef :: .undef :: .undef :: .undef :: .undef :: .undef :: .undef :: .undef :: .undef :: .undef :: .undef :: .undef :: .undef :: .undef :: .undef :: .undef :: .undef :: .undef :: .undef :: .undef :: .undef :: .undef :: .undef :: .undef :: .undef :: .undef :: .undef :: .undef :: .undef :: .undef :: .undef :: .undef :: .undef :: .undef :: .undef :: .undef :: .undef :: .undef :: .undef :: .undef :: .undef :: .undef :: .undef :: .undef :: .undef :: .undef :: .undef :: .undef :: .undef :: .undef :: .undef :: .undef :: .undef :: .undef :: .undef :: .undef :: .undef :: .undef :: .undef :: .undef :: .undef :: .undef :: .undef :: .undef :: .undef :: .undef :: .undef :: []), hr x0 x1 x2 n L ts.length⟩
   (FinQ [.cell 2 (some 7)] 4 (rdRt x0 x1 x2 n L tariffV (bindP (manyT (isWord kZone) zoneT m acc ts) fun l r => bindP (manyT (isWord kBand) bandT r.length [] r) fun bs r => bindP (manyT (isWord kRate) rateT r.length [] r) fun rs r => bindP (manyT (isWord kDisc) discT r.length [] r) fun ds r => .ok ⟨name, start, split, l, bs, rs, ds⟩ r))) := by
 intro m
 induction m with
 | zero =>
  intro acc ts hl _ hA
  obtain ⟨t, r, rfl⟩ := ends_ne hA.2.1
  simp at hl
 | succ m ih =>
  intro acc ts hl hacc hA
  have et := r_takeWord (x0 := x0) (x1 := x1) (x2 := x2) (n := n) kZone hA
  have mn : manyT (isWord kZone) zoneT (m + 1) acc ts = if isWord kZone ts then bindP (zoneT ts.tail) fun a r => manyT (isWord kZone) zoneT m (acc ++ [a]) r else .ok acc ts := rfl
  rw [mn]
  by_cases hw : isWord kZone ts = true
  ·have A1 := hA.word hw
   obtain ⟨ts, rfl⟩ := word_shape hw
   simp only [hw, if_true, List.tail_cons] at et A1 ⊢
   simp only [List.length_cons] at et hl ⊢
   simp only [kZone] at et
   have e1 := r_zone (x0 := x0) (x1 := x1) (x2 := x2) (n := n) A1
   have qb : (acc.length + 1) * 40 ≤ 140737488355328 := by omega
   cases h1 : zoneT ts with
   | err m e =>
    simp only [h1, rdRt, errH, pfail] at e1
    unfold parser_reader_tariff_l1b
    simp [go_sem, et, e1, rdRt, errH, pfail]
   | ok k q =>
    have hq := A1.zoneR h1
    simp only [h1, rdRt, zoneV] at e1
    have ih := ih (acc ++ [k]) q (by omega) (by simp; omega) hq.1
    simp only [List.map_append, List.map_cons, List.map_nil, zoneV] at ih
    simp only [bindP_ok]
    unfold parser_reader_tariff_l1b
    simp [go_sem, et, e1, qb]
    simpa using ih
  ·have hw : isWord kZone ts = false := by simpa using hw
   simp only [hw] at et ⊢
   simp [kZone] at et
   simp only [Bool.false_eq_true, if_false, bindP_ok]
   have nx := tb_l (x0 := x0) (x1 := x1) (x2 := x2) (n := n) name start split acc ts.length [] ts (Nat.le_refl _) (by have := hA.len; have := hA.2.2; simp only [List.length_nil]; omega) hA
   simp only [List.map_nil] at nx
   unfold parser_reader_tariff_l1b
   simp [go_sem, et, parser_reader_tariff_k4]
   simp [go_sem, parser_reader_tariff_k4b]
   exact nx
theorem dateT_ok {v : Int} {r : List Tk} (h : dateT ts = .ok v r) : 0 ≤ v ∧ v ≤ 12622780800 ∧ ts.length = r.length + 5 := by
 unfold dateT at h
 cases h1 : fixedT 4 9999 ts with
 | err m e => rw [h1] at h; cases h
 | ok y q1 =>
  rw [h1, bindP_ok] at h
  cases h2 : needS [45] q1 with
  | err m e => rw [h2] at h; cases h
  | ok u q2 =>
   rw [h2, bindP_ok] at h
   cases h3 : fixedT 2 99 q2 with
   | err m e => rw [h3] at h; cases h
   | ok mo q3 =>
    rw [h3, bindP_ok] at h
    cases h4 : needS [45] q3 with
    | err m e => rw [h4] at h; cases h
    | ok u q4 =>
     rw [h4, bindP_ok] at h
     cases h5 : fixedT 2 99 q4 with
     | err m e => rw [h5] at h; cases h
     | ok da q5 =>
      rw [h5, bindP_ok] at h
      have l1 := fixedT_ok h1
      have l3 := fixedT_ok h3
      have l5 := fixedT_ok h5
      obtain ⟨d1, l1, _⟩ := l1
      obtain ⟨d3, l3, _⟩ := l3
      obtain ⟨d5, l5, _⟩ := l5
      have l2 := needS_ok h2
      have l4 := needS_ok h4
      have len : ts.length = q5.length + 5 := by rw [l1, l2, l3, l4, l5]; simp
      split at h
      ·rename_i v' hd
       cases h
       unfold dayQ at hd
       split at hd
       ·cases hd
       ·simp only [Option.some.injEq] at hd
        subst hd
        rename_i hn
        obtain ⟨a1, a2, a3, a4, a5, a6, a7⟩ := lenP_pos (y := y) (m := mo) (d := da) (by omega) (by rw [lenP_lenQ]; omega)
        have hi := IsDate.hi (day := bef y + mcum y (mo - 1).toNat + da - 1) (y := y) (m := mo) (d := da) ⟨a1, a2, a3, a4, a6, a7, rfl⟩
        have lo := IsDate.lo (day := bef y + mcum y (mo - 1).toNat + da - 1) (y := y) (m := mo) (d := da) ⟨a1, a2, a3, a4, a6, a7, rfl⟩
        exact ⟨by omega, by omega, len⟩
      ·cases h
theorem At.date {v : Int} {r : List Tk} (hA : At L ts) (h : dateT ts = .ok v r) : At L r := by
 unfold dateT at h
 cases h1 : fixedT 4 9999 ts with
 | err m e => rw [h1] at h; cases h
 | ok y q1 =>
  rw [h1, bindP_ok] at h
  cases h2 : needS [45] q1 with
  | err m e => rw [h2] at h; cases h
  | ok u q2 =>
   rw [h2, bindP_ok] at h
   cases h3 : fixedT 2 99 q2 with
   | err m e => rw [h3] at h; cases h
   | ok mo q3 =>
    rw [h3, bindP_ok] at h
    cases h4 : needS [45] q3 with
    | err m e => rw [h4] at h; cases h
    | ok u q4 =>
     rw [h4, bindP_ok] at h
     cases h5 : fixedT 2 99 q4 with
     | err m e => rw [h5] at h; cases h
     | ok da q5 =>
      rw [h5, bindP_ok] at h
      have A := ((((hA.fixed h1).xS h2).fixed h3).xS h4).fixed h5
      split at h
      ·cases h; exact A
      ·cases h
theorem fixedT_lo {s : Nat} {m w : Int} {r : List Tk} (h : fixedT s m ts = .ok w r) : 0 ≤ w ∧ w ≤ m := by
 obtain ⟨v, e, h1, _, h2⟩ := fixedT_ok h
 omega
theorem r_tariff (hA : At L ts) : acall mach0 n_parser_reader_tariff [.ptr 3 0] (hr x0 x1 x2 n L ts.length) = some (rdRt x0 x1 x2 n L tariffV (tariffT ts)) := by
 refine acall_fn rfl (af := a_parser_reader_tariff) rfl rfl ?_
 unfold tariffT
 have e1 := r_needWord (x0 := x0) (x1 := x1) (x2 := x2) (n := n) kTariff hA
 cases h1 : needW kTariff ts with
 | err m e =>
  simp only [h1, rdRt, errH, pfail] at e1
  simp only [kTariff] at e1
  simp [List.replicate, go_sem, e1, rdRt, errH, pfail]
 | ok u q1 =>
  have A1 := hA.xW h1
  simp only [h1, rdRt, noneV] at e1
  simp only [kTariff] at e1
  simp only [bindP_ok]
  have e2 := r_name (x0 := x0) (x1 := x1) (x2 := x2) (n := n) A1
  cases h2 : nameT q1 with
  | err m e =>
   simp only [h2, rdRt, errH, pfail] at e2
   simp [List.replicate, go_sem, e1, e2, rdRt, errH, pfail]
  | ok name q2 =>
   have A2 := A1.name h2
   simp only [h2, rdRt] at e2
   simp only [bindP_ok]
   have e3 := r_needWord (x0 := x0) (x1 := x1) (x2 := x2) (n := n) kFrom A2
   cases h3 : needW kFrom q2 with
   | err m e =>
    simp only [h3, rdRt, errH, pfail] at e3
    simp only [kFrom] at e3
    simp [List.replicate, go_sem, e1, e2, e3, rdRt, errH, pfail]
   | ok u q3 =>
    have A3 := A2.xW h3
    simp only [h3, rdRt, noneV] at e3
    simp only [kFrom] at e3
    simp only [bindP_ok]
    have e4 := r_date (x0 := x0) (x1 := x1) (x2 := x2) (n := n) A3
    cases h4 : dateT q3 with
    | err m e =>
     simp only [h4, rdRt, errH, pfail] at e4
     simp [List.replicate, go_sem, e1, e2, e3, e4, rdRt, errH, pfail]
    | ok d q4 =>
     have A4 := A3.date h4
     have bd := dateT_ok h4
     simp only [h4, rdRt] at e4
     simp only [bindP_ok]
     unfold clockT clockN
     obtain ⟨tt, tr, htt, ep⟩ := r_peek (x0 := x0) (x1 := x1) (x2 := x2) (n := n) A4
     simp only [tokV] at ep
     by_cases hn : isNum q4 = true
     ·have hkk : ((tt.kind : Int) == 2) = true := by
       rw [htt] at hn
       cases tt <;> simp [isNum, Tk.kind] at hn ⊢
      rw [if_pos hn]
      have e5 := r_fixed (x0 := x0) (x1 := x1) (x2 := x2) (n := n) 2 23 A4
      cases h5 : fixedT 2 23 q4 with
      | err m e =>
       simp only [h5, rdRt, errH, pfail] at e5
       simp at e5
       simp [List.replicate, go_sem, e1, e2, e3, e4, ep, hkk, e5, rdRt, errH, pfail]
      | ok ch q5 =>
       have A5 := A4.fixed h5
       simp only [h5, rdRt] at e5
       simp at e5
       simp only [bindP_ok]
       have e6 := r_needSymbol (x0 := x0) (x1 := x1) (x2 := x2) (n := n) [58] A5
       cases h6 : needS [58] q5 with
       | err m e =>
        simp only [h6, rdRt, errH, pfail] at e6
        simp [List.replicate, go_sem, e1, e2, e3, e4, ep, hkk, e5, e6, rdRt, errH, pfail]
       | ok u q6 =>
        have A6 := A5.xS h6
        simp only [h6, rdRt, noneV] at e6
        simp only [bindP_ok]
        have e7 := r_fixed (x0 := x0) (x1 := x1) (x2 := x2) (n := n) 2 59 A6
        cases h7 : fixedT 2 59 q6 with
        | err m e =>
         simp only [h7, rdRt, errH, pfail] at e7
         simp at e7
         simp [List.replicate, go_sem, e1, e2, e3, e4, ep, hkk, e5, e6, e7, rdRt, errH, pfail]
        | ok cm q7 =>
         have A7 := A6.fixed h7
         simp only [h7, rdRt] at e7
         simp at e7
         simp only [bindP_ok]
         have e8 := r_needSymbol (x0 := x0) (x1 := x1) (x2 := x2) (n := n) [58] A7
         cases h8 : needS [58] q7 with
         | err m e =>
          simp only [h8, rdRt, errH, pfail] at e8
          simp [List.replicate, go_sem, e1, e2, e3, e4, ep, hkk, e5, e6, e7, e8, rdRt, errH, pfail]
         | ok u q8 =>
          have A8 := A7.xS h8
          simp only [h8, rdRt, noneV] at e8
          simp only [bindP_ok]
          have e9 := r_fixed (x0 := x0) (x1 := x1) (x2 := x2) (n := n) 2 59 A8
          cases h9 : fixedT 2 59 q8 with
          | err m e =>
           simp only [h9, rdRt, errH, pfail] at e9
           simp at e9
           simp [List.replicate, go_sem, e1, e2, e3, e4, ep, hkk, e5, e6, e7, e8, e9, rdRt, errH, pfail]
          | ok cs q9 =>
           have A9 := A8.fixed h9
           simp only [h9, rdRt] at e9
           simp at e9
           simp only [bindP_ok]
           have b1 := fixedT_lo h5
           have b2 := fixedT_lo h7
           have b3 := fixedT_lo h9
           have w1 : IntKind.wrap .i64 (3600 * ch) = 3600 * ch := wrap_i64 (by omega)
           have w2 : IntKind.wrap .i64 (60 * cm) = 60 * cm := wrap_i64 (by omega)
           have w3 : IntKind.wrap .i64 (3600 * ch + 60 * cm) = 3600 * ch + 60 * cm := wrap_i64 (by omega)
           have w4 : IntKind.wrap .i64 (3600 * ch + 60 * cm + cs) = 3600 * ch + 60 * cm + cs := wrap_i64 (by omega)
           have w5 : IntKind.wrap .i64 (d + (3600 * ch + 60 * cm + cs)) = d + (3600 * ch + 60 * cm + cs) := wrap_i64 (by omega)
           have e10 := r_takeWord (x0 := x0) (x1 := x1) (x2 := x2) (n := n) kSplit A9
           unfold splitT
           by_cases hs : isWord kSplit q9 = true
           ·have A10 := A9.word hs
            rw [if_pos hs]
            rw [if_pos hs, hs] at e10
            simp only [kSplit] at e10
            generalize q9.tail = q10 at *
            simp only [bindP_ok]
            have e11 := r_needSymbol (x0 := x0) (x1 := x1) (x2 := x2) (n := n) [59] A10
            cases h11 : needS [59] q10 with
            | err m e =>
             simp only [h11, rdRt, errH, pfail] at e11
             simp [List.replicate, go_sem, e1, e2, e3, e4, ep, hkk, e5, e6, e7, e8, e9, w1, w2, w3, w4, w5, e10, e11, rdRt, errH, pfail]
            | ok u q11 =>
             have A11 := A10.xS h11
             simp only [h11, rdRt, noneV] at e11
             simp only [bindP_ok]
             have nx := tz_l (x0 := x0) (x1 := x1) (x2 := x2) (n := n) name (d + (3600 * ch + 60 * cm + cs)) true q11.length [] q11 (Nat.le_refl _) (by have := A11.len; have := A11.2.2; simp only [List.length_nil]; omega) A11
             simp only [List.map_nil] at nx
             simp [List.replicate, go_sem, e1, e2, e3, e4, ep, hkk, e5, e6, e7, e8, e9, w1, w2, w3, w4, w5, e10, e11]
             exact nx
           ·rw [if_neg hs]
            have hs : isWord kSplit q9 = false := by simpa using hs
            simp only [hs] at e10
            simp [kSplit] at e10
            simp only [bindP_ok]
            have e11 := r_needSymbol (x0 := x0) (x1 := x1) (x2 := x2) (n := n) [59] A9
            cases h11 : needS [59] q9 with
            | err m e =>
             simp only [h11, rdRt, errH, pfail] at e11
             simp [List.replicate, go_sem, e1, e2, e3, e4, ep, hkk, e5, e6, e7, e8, e9, w1, w2, w3, w4, w5, e10, e11, rdRt, errH, pfail]
            | ok u q11 =>
             have A11 := A9.xS h11
             simp only [h11, rdRt, noneV] at e11
             simp only [bindP_ok]
             have nx := tz_l (x0 := x0) (x1 := x1) (x2 := x2) (n := n) name (d + (3600 * ch + 60 * cm + cs)) false q11.length [] q11 (Nat.le_refl _) (by have := A11.len; have := A11.2.2; simp only [List.length_nil]; omega) A11
             simp only [List.map_nil] at nx
             simp [List.replicate, go_sem, e1, e2, e3, e4, ep, hkk, e5, e6, e7, e8, e9, w1, w2, w3, w4, w5, e10, e11]
             exact nx
     ·have hkk : ((tt.kind : Int) == 2) = false := by
       rw [htt] at hn
       cases tt <;> simp [isNum, Tk.kind] at hn ⊢
      rw [if_neg hn]
      simp only [bindP_ok]
      have e5 := r_takeWord (x0 := x0) (x1 := x1) (x2 := x2) (n := n) kSplit A4
      unfold splitT
      by_cases hs : isWord kSplit q4 = true
      ·have A5 := A4.word hs
       rw [if_pos hs]
       rw [if_pos hs, hs] at e5
       simp only [kSplit] at e5
       generalize q4.tail = q5 at *
       simp only [bindP_ok]
       have e6 := r_needSymbol (x0 := x0) (x1 := x1) (x2 := x2) (n := n) [59] A5
       cases h6 : needS [59] q5 with
       | err m e =>
        simp only [h6, rdRt, errH, pfail] at e6
        simp [List.replicate, go_sem, e1, e2, e3, e4, ep, hkk, e5, e6, rdRt, errH, pfail]
       | ok u q6 =>
        have A6 := A5.xS h6
        simp only [h6, rdRt, noneV] at e6
        simp only [bindP_ok]
        have nx := tz_l (x0 := x0) (x1 := x1) (x2 := x2) (n := n) name (d) true q6.length [] q6 (Nat.le_refl _) (by have := A6.len; have := A6.2.2; simp only [List.length_nil]; omega) A6
        simp only [List.map_nil] at nx
        simp [List.replicate, go_sem, e1, e2, e3, e4, ep, hkk, e5, e6]
        exact nx
      ·rw [if_neg hs]
       have hs : isWord kSplit q4 = false := by simpa using hs
       simp only [hs] at e5
       simp [kSplit] at e5
       simp only [bindP_ok]
       have e6 := r_needSymbol (x0 := x0) (x1 := x1) (x2 := x2) (n := n) [59] A4
       cases h6 : needS [59] q4 with
       | err m e =>
        simp only [h6, rdRt, errH, pfail] at e6
        simp [List.replicate, go_sem, e1, e2, e3, e4, ep, hkk, e5, e6, rdRt, errH, pfail]
       | ok u q6 =>
        have A6 := A4.xS h6
        simp only [h6, rdRt, noneV] at e6
        simp only [bindP_ok]
        have nx := tz_l (x0 := x0) (x1 := x1) (x2 := x2) (n := n) name (d) false q6.length [] q6 (Nat.le_refl _) (by have := A6.len; have := A6.2.2; simp only [List.length_nil]; omega) A6
        simp only [List.map_nil] at nx
        simp [List.replicate, go_sem, e1, e2, e3, e4, ep, hkk, e5, e6]
        exact nx
theorem dateT_le {v : Int} {r : List Tk} (h : dateT ts = .ok v r) : r.length ≤ ts.length := by
 have := dateT_ok h
 omega
theorem At.splitR {v : Bool} {r : List Tk} (hA : At L ts) (h : splitT ts = .ok v r) : At L r ∧ r.length ≤ ts.length := by
 unfold splitT at h
 split at h
 ·rename_i hw
  have A1 := hA.word hw
  obtain ⟨ts, rfl⟩ := word_shape hw
  cases h
  exact ⟨A1, by simp⟩
 ·cases h; exact ⟨hA, Nat.le_refl _⟩
theorem At.clock1 {a : Int} {r : List Tk} (hA : At L ts) (h : clockN ts = .ok a r) : At L r ∧ r.length ≤ ts.length := by
 unfold clockN at h
 cases h0 : fixedT 2 23 ts with
 | err m e => rw [h0] at h; cases h
 | ok v q0 =>
  rw [h0, bindP_ok] at h
  have A0 := hA.fixed h0
  have l0 := fixedT_le h0
  cases h1 : needS [58] q0 with
  | err m e => rw [h1] at h; cases h
  | ok u q1 =>
   rw [h1, bindP_ok] at h
   have A1 := A0.xS h1
   have l1 := needS_le h1
   cases h2 : fixedT 2 59 q1 with
   | err m e => rw [h2] at h; cases h
   | ok v q2 =>
    rw [h2, bindP_ok] at h
    have A2 := A1.fixed h2
    have l2 := fixedT_le h2
    cases h3 : needS [58] q2 with
    | err m e => rw [h3] at h; cases h
    | ok u q3 =>
     rw [h3, bindP_ok] at h
     have A3 := A2.xS h3
     have l3 := needS_le h3
     cases h4 : fixedT 2 59 q3 with
     | err m e => rw [h4] at h; cases h
     | ok v q4 =>
      rw [h4, bindP_ok] at h
      have A4 := A3.fixed h4
      have l4 := fixedT_le h4
      cases h; exact ⟨A4, by omega⟩
theorem At.clockR {v : Int} {r : List Tk} (hA : At L ts) (h : clockT ts = .ok v r) : At L r ∧ r.length ≤ ts.length := by
 unfold clockT at h
 split at h
 ·exact hA.clock1 h
 ·cases h; exact ⟨hA, Nat.le_refl _⟩
theorem At.tariffR {a : TariffP} {r : List Tk} (hA : At L ts) (h : tariffT ts = .ok a r) : At L r ∧ r.length ≤ ts.length := by
 unfold tariffT at h
 cases h0 : needW kTariff ts with
 | err m e => rw [h0] at h; cases h
 | ok u q0 =>
  rw [h0, bindP_ok] at h
  have A0 := hA.xW h0
  have l0 := needW_le h0
  cases h1 : nameT q0 with
  | err m e => rw [h1] at h; cases h
  | ok v q1 =>
   rw [h1, bindP_ok] at h
   have A1 := A0.name h1
   have l1 := nameT_le h1
   cases h2 : needW kFrom q1 with
   | err m e => rw [h2] at h; cases h
   | ok u q2 =>
    rw [h2, bindP_ok] at h
    have A2 := A1.xW h2
    have l2 := needW_le h2
    cases h3 : dateT q2 with
    | err m e => rw [h3] at h; cases h
    | ok v q3 =>
     rw [h3, bindP_ok] at h
     have A3 := A2.date h3
     have l3 := dateT_le h3
     cases h4 : clockT q3 with
     | err m e => rw [h4] at h; cases h
     | ok v q4 =>
      rw [h4, bindP_ok] at h
      have A4 := A3.clockR h4
      have l4 := A4.2
      replace A4 := A4.1
      cases h5 : splitT q4 with
      | err m e => rw [h5] at h; cases h
      | ok v q5 =>
       rw [h5, bindP_ok] at h
       have A5 := A4.splitR h5
       have l5 := A5.2
       replace A5 := A5.1
       cases h6 : needS [59] q5 with
       | err m e => rw [h6] at h; cases h
       | ok u q6 =>
        rw [h6, bindP_ok] at h
        have A6 := A5.xS h6
        have l6 := needS_le h6
        cases h7 : manyT (isWord kZone) zoneT q6.length [] q6 with
        | err m e => rw [h7] at h; cases h
        | ok v q7 =>
         rw [h7, bindP_ok] at h
         have A7 := At.many (fun ts hA hw => hA.word hw) (fun hA h => hA.zoneR h) _ A6 h7
         have l7 := A7.2
         replace A7 := A7.1
         cases h8 : manyT (isWord kBand) bandT q7.length [] q7 with
         | err m e => rw [h8] at h; cases h
         | ok v q8 =>
          rw [h8, bindP_ok] at h
          have A8 := At.many (fun ts hA hw => hA.word hw) (fun hA h => hA.bandR h) _ A7 h8
          have l8 := A8.2
          replace A8 := A8.1
          cases h9 : manyT (isWord kRate) rateT q8.length [] q8 with
          | err m e => rw [h9] at h; cases h
          | ok v q9 =>
           rw [h9, bindP_ok] at h
           have A9 := At.many (fun ts hA hw => hA.word hw) (fun hA h => hA.rateR h) _ A8 h9
           have l9 := A9.2
           replace A9 := A9.1
           cases h10 : manyT (isWord kDisc) discT q9.length [] q9 with
           | err m e => rw [h10] at h; cases h
           | ok v q10 =>
            rw [h10, bindP_ok] at h
            have A10 := At.many (fun ts hA hw => hA.word hw) (fun hA h => hA.discR h) _ A9 h10
            have l10 := A10.2
            replace A10 := A10.1
            cases h; exact ⟨A10, by omega⟩
end
end Go.Am
namespace Go.Am
open Go Go.Pu
theorem e_caught (p : Int) (e : Nat) : acall mach0 n_parser_caught [pfail p e] [] = some (.ret (.agg [.int .i64 p, .int .i64 e]) []) := by
 refine acall_fn rfl (af := a_parser_caught) rfl rfl ?_
 simp [List.replicate, go_sem, pfail]
def ExprV (s : List UInt8) : V := if s.length > 65536 then .tup [.agg [.int .i64 0, .int .i64 0, .str [], .sl false 4 []], .int .i64 0, .int .i64 5] else match scan s with
 | .err rem e => .tup [.agg [.int .i64 0, .int .i64 0, .str [], .sl false 4 []], .int .i64 (s.length - rem : Nat), .int .i64 e]
 | .ok L => match allT exprT (L.map (·.1)) with
  | .ok t _ => .tup [exprV t, .int .i64 0, .int .i64 0]
  | .err m e => .tup [.agg [.int .i64 0, .int .i64 0, .str [], .sl false 4 []], .int .i64 (posV s.length L m), .int .i64 e]
theorem dsx_pres : d_parser_Expr.pres = [p1_parser_Expr, p2_parser_Expr, p3_parser_Expr] := rfl
theorem dsx_nt : d_parser_Expr.ntmps = 29 := rfl
theorem dsx_d : d_parser_Expr.d = 20 := rfl
theorem dsx_g : d_parser_Expr.g = n_parser_Expr_1 := rfl
theorem dsx_caps : d_parser_Expr.caps = [.t 2, .t 3, .t 4] := rfl
theorem dsx_post : d_parser_Expr.post = b_parser_Expr := rfl
theorem dsx_res : d_parser_Expr.res = [.cell 2 (some 4), .cell 3 none, .cell 4 none] := rfl
theorem runs_Expr (s : List UInt8) : RunsD mach1 d_parser_Expr [.str s] [] (.ret (ExprV s) []) := by
 have es := e_Scan1 s
 unfold RunsD ExprV
 unfold scanV at es
 by_cases h : s.length > 65536
 ·rw [if_pos h] at es ⊢
  simp [dsx_pres, dsx_nt, dsx_res, p1_parser_Expr, p2_parser_Expr, p3_parser_Expr, List.replicate, go_sem, es]
 ·rw [if_neg h] at es ⊢
  cases hs : scan s with
  | err rem e =>
   simp only [hs] at es ⊢
   have he : ¬ (e : Int) = 0 := by have := scan_e hs; omega
   simp [dsx_pres, dsx_nt, dsx_res, p1_parser_Expr, p2_parser_Expr, p3_parser_Expr, List.replicate, go_sem, es, nt' he]
  | ok L =>
   simp only [hs] at es ⊢
   have hA : At L (L.map (·.1)) := ⟨⟨[], L, rfl, rfl⟩, scan_ends hs, by have := Go.Pu.scan_len s.length s L (Nat.le_refl _) hs; omega⟩
   have e1 := up1 _ _ _ _ (e_either (x0 := [.int .i64 0, .int .i64 0, .str [], .sl false 4 []]) (x1 := [.int .i64 0]) (x2 := [.int .i64 0]) (n := s.length) hA)
   simp only [hr, List.length_map, Nat.sub_self] at e1
   unfold allT
   cases h1 : exprT (L.map (·.1)) with
   | err m e =>
    simp only [h1, rdRt, errH, pfail] at e1
    have ec := up1 _ _ _ _ (e_caught (posV s.length L m) e)
    simp only [pfail] at ec
    simp at e1 ec
    simp [dsx_pres, dsx_nt, dsx_res, dsx_d, dsx_g, dsx_caps, dsx_post, p1_parser_Expr, p2_parser_Expr, p3_parser_Expr, b_parser_Expr, List.replicate, go_sem, es, e1]
    simp [d_parser_Expr, gframe, g_parser_Expr_1, List.replicate, go_sem, ec]
   | ok t q =>
    obtain ⟨op, num, text, args⟩ := t
    have A1 := hA.expr h1
    simp only [h1, rdRt, exprV] at e1
    simp at e1
    have e2 := up1 _ _ _ _ (r_end (x0 := [.int .i64 op, .int .i64 num, .str text, .sl false 4 (exprVs args)]) (x1 := [.int .i64 0]) (x2 := [.int .i64 0]) (n := s.length) A1)
    simp only [bindP_ok]
    cases h2 : endT q with
    | err m e =>
     simp only [h2, rdRt, errH, pfail] at e2
     have ec := up1 _ _ _ _ (e_caught (posV s.length L m) e)
     simp only [pfail] at ec
     simp [dsx_pres, dsx_nt, dsx_res, dsx_d, dsx_g, dsx_caps, dsx_post, p1_parser_Expr, p2_parser_Expr, p3_parser_Expr, b_parser_Expr, List.replicate, go_sem, es, e1, e2]
     simp [d_parser_Expr, gframe, g_parser_Expr_1, List.replicate, go_sem, ec]
    | ok u q2 =>
     simp only [h2, rdRt, noneV] at e2
     simp [dsx_pres, dsx_nt, dsx_res, dsx_d, dsx_g, dsx_caps, dsx_post, p1_parser_Expr, p2_parser_Expr, p3_parser_Expr, b_parser_Expr, List.replicate, go_sem, es, e1, e2]
     simp [d_parser_Expr, gframe, g_parser_Expr_1, List.replicate, go_sem, exprV]
theorem T2_Expr : T2 n_parser_Expr = some (d_parser_Expr, mach1) := by unfold T2; rw [if_neg (by decide), if_neg (by decide), if_pos rfl]
theorem e_Expr (s : List UInt8) : acall mach n_parser_Expr [.str s] [] = some (.ret (ExprV s) []) := acall_ext (M := mach) (dcall_eq T2_Expr (runs_Expr s))
def TariffV (s : List UInt8) : V := if s.length > 65536 then .tup [.agg [.str [], .int .i64 0, .bool false, .sl false 2 [], .sl false 2 [], .sl false 5 [], .sl false 6 []], .int .i64 0, .int .i64 5] else match scan s with
 | .err rem e => .tup [.agg [.str [], .int .i64 0, .bool false, .sl false 2 [], .sl false 2 [], .sl false 5 [], .sl false 6 []], .int .i64 (s.length - rem : Nat), .int .i64 e]
 | .ok L => match allT tariffT (L.map (·.1)) with
  | .ok t _ => .tup [tariffV t, .int .i64 0, .int .i64 0]
  | .err m e => .tup [.agg [.str [], .int .i64 0, .bool false, .sl false 2 [], .sl false 2 [], .sl false 5 [], .sl false 6 []], .int .i64 (posV s.length L m), .int .i64 e]
theorem dsy_pres : d_parser_Tariff.pres = [p1_parser_Tariff, p2_parser_Tariff, p3_parser_Tariff] := rfl
theorem dsy_nt : d_parser_Tariff.ntmps = 29 := rfl
theorem dsy_d : d_parser_Tariff.d = 20 := rfl
theorem dsy_g : d_parser_Tariff.g = n_parser_Tariff_1 := rfl
theorem dsy_caps : d_parser_Tariff.caps = [.t 2, .t 3, .t 4] := rfl
theorem dsy_post : d_parser_Tariff.post = b_parser_Tariff := rfl
theorem dsy_res : d_parser_Tariff.res = [.cell 2 (some 7), .cell 3 none, .cell 4 none] := rfl
theorem runs_Tariff (s : List UInt8) : RunsD mach1 d_parser_Tariff [.str s] [] (.ret (TariffV s) []) := by
 have es := e_Scan1 s
 unfold RunsD TariffV
 unfold scanV at es
 by_cases h : s.length > 65536
 ·rw [if_pos h] at es ⊢
  simp [dsy_pres, dsy_nt, dsy_res, p1_parser_Tariff, p2_parser_Tariff, p3_parser_Tariff, List.replicate, go_sem, es]
 ·rw [if_neg h] at es ⊢
  cases hs : scan s with
  | err rem e =>
   simp only [hs] at es ⊢
   have he : ¬ (e : Int) = 0 := by have := scan_e hs; omega
   simp [dsy_pres, dsy_nt, dsy_res, p1_parser_Tariff, p2_parser_Tariff, p3_parser_Tariff, List.replicate, go_sem, es, nt' he]
  | ok L =>
   simp only [hs] at es ⊢
   have hA : At L (L.map (·.1)) := ⟨⟨[], L, rfl, rfl⟩, scan_ends hs, by have := Go.Pu.scan_len s.length s L (Nat.le_refl _) hs; omega⟩
   have e1 := up1 _ _ _ _ (r_tariff (x0 := [.str [], .int .i64 0, .bool false, .sl false 2 [], .sl false 2 [], .sl false 5 [], .sl false 6 []]) (x1 := [.int .i64 0]) (x2 := [.int .i64 0]) (n := s.length) hA)
   simp only [hr, List.length_map, Nat.sub_self] at e1
   unfold allT
   cases h1 : tariffT (L.map (·.1)) with
   | err m e =>
    simp only [h1, rdRt, errH, pfail] at e1
    have ec := up1 _ _ _ _ (e_caught (posV s.length L m) e)
    simp only [pfail] at ec
    simp at e1 ec
    simp [dsy_pres, dsy_nt, dsy_res, dsy_d, dsy_g, dsy_caps, dsy_post, p1_parser_Tariff, p2_parser_Tariff, p3_parser_Tariff, b_parser_Tariff, List.replicate, go_sem, es, e1]
    simp [d_parser_Tariff, gframe, g_parser_Tariff_1, List.replicate, go_sem, ec]
   | ok t q =>
    have A1 := (hA.tariffR h1).1
    simp only [h1, rdRt, tariffV] at e1
    simp at e1
    have e2 := up1 _ _ _ _ (r_end (x0 := [.str t.name, .int .i64 t.start, .bool t.split, .sl false 2 (t.zones.map zoneV), .sl false 2 (t.bands.map bandV), .sl false 5 (t.rates.map rateV), .sl false 6 (t.discs.map discV)]) (x1 := [.int .i64 0]) (x2 := [.int .i64 0]) (n := s.length) A1)
    simp only [bindP_ok]
    cases h2 : endT q with
    | err m e =>
     simp only [h2, rdRt, errH, pfail] at e2
     have ec := up1 _ _ _ _ (e_caught (posV s.length L m) e)
     simp only [pfail] at ec
     simp [dsy_pres, dsy_nt, dsy_res, dsy_d, dsy_g, dsy_caps, dsy_post, p1_parser_Tariff, p2_parser_Tariff, p3_parser_Tariff, b_parser_Tariff, List.replicate, go_sem, es, e1, e2]
     simp [d_parser_Tariff, gframe, g_parser_Tariff_1, List.replicate, go_sem, ec]
    | ok u q2 =>
     simp only [h2, rdRt, noneV] at e2
     simp [dsy_pres, dsy_nt, dsy_res, dsy_d, dsy_g, dsy_caps, dsy_post, p1_parser_Tariff, p2_parser_Tariff, p3_parser_Tariff, b_parser_Tariff, List.replicate, go_sem, es, e1, e2]
     simp [d_parser_Tariff, gframe, g_parser_Tariff_1, List.replicate, go_sem, tariffV]
theorem T2_Tariff : T2 n_parser_Tariff = some (d_parser_Tariff, mach1) := by unfold T2; rw [if_neg (by decide), if_pos rfl]
theorem e_Tariff (s : List UInt8) : acall mach n_parser_Tariff [.str s] [] = some (.ret (TariffV s) []) := acall_ext (M := mach) (dcall_eq T2_Tariff (runs_Tariff s))
end Go.Am
set_option maxRecDepth 100000
namespace Go.Am
open Go Go.Pu
theorem aw1 : TariffV [116, 97, 114, 105, 102, 102, 32, 98, 97, 115, 105, 99, 32, 102, 114, 111, 109, 32, 50, 48, 48, 48, 45, 48, 49, 45, 48, 50, 59] = .tup [.agg [.str [98, 97, 115, 105, 99], .int .i64 86400, .bool false, .sl false 2 [], .sl false 2 [], .sl false 5 [], .sl false 6 []], .int .i64 0, .int .i64 0] := by kernel_rfl
theorem aw2 : ExprV [117, 110, 105, 116, 115, 32, 62, 32, 54, 48] = .tup [.agg [.int .i64 9, .int .i64 0, .str [], .sl false 4 [.agg [.int .i64 1, .int .i64 60, .str [], .sl false 4 []], .agg [.int .i64 3, .int .i64 0, .str [117, 110, 105, 116, 115], .sl false 4 []]]], .int .i64 0, .int .i64 0] := by kernel_rfl
theorem aw3 : ExprV [49, 32, 60, 32, 50, 32, 60, 32, 51] = .tup [.agg [.int .i64 0, .int .i64 0, .str [], .sl false 4 []], .int .i64 6, .int .i64 1] := by kernel_rfl
theorem aw4 : TariffV [116, 97, 114, 105, 102, 102, 32, 97, 32, 102, 114, 111, 109, 32, 50, 48, 50, 54, 45, 48, 50, 45, 51, 48, 59] = .tup [.agg [.str [], .int .i64 0, .bool false, .sl false 2 [], .sl false 2 [], .sl false 5 [], .sl false 6 []], .int .i64 14, .int .i64 15] := by kernel_rfl
theorem e_awake24 : acall mach n_billinglaw24_awake [] [] = some (.ret (.bool true) []) := by
 have e1 := e_Tariff [116, 97, 114, 105, 102, 102, 32, 98, 97, 115, 105, 99, 32, 102, 114, 111, 109, 32, 50, 48, 48, 48, 45, 48, 49, 45, 48, 50, 59]
 have e2 := e_Expr [117, 110, 105, 116, 115, 32, 62, 32, 54, 48]
 have e3 := e_Expr [49, 32, 60, 32, 50, 32, 60, 32, 51]
 have e4 := e_Tariff [116, 97, 114, 105, 102, 102, 32, 97, 32, 102, 114, 111, 109, 32, 50, 48, 50, 54, 45, 48, 50, 45, 51, 48, 59]
 rw [aw1] at e1
 rw [aw2] at e2
 rw [aw3] at e3
 rw [aw4] at e4
 refine acall_fn rfl (af := a_billinglaw24_awake) rfl rfl ?_
 simp [List.replicate, go_sem, e1, e2, e3, e4]
end Go.Am
namespace Go.Am
open Go Go.Pu
abbrev hf (n : Nat) (L : List (Tk × Nat)) (m e : Nat) : Heap := [[.sl false 4 (L.map (tkV n)), .int .i64 ((L.length - m : Nat) : Int), .int .i64 (e : Int)]]
def isA (s : Bs) (ts : List Tk) : Bool := isWord s ts || isSymT s ts
section
variable {n : Nat} {L : List (Tk × Nat)} {t : Tk} {ts : List Tk}
theorem At.more (h : At L (t :: ts)) (ht : t ≠ .fin) : 1 ≤ ts.length := by
 obtain ⟨u, r, e⟩ := ends_ne (h.tl ht).2.1
 rw [e]; simp
theorem f_now (e : Nat) (h : At L (t :: ts)) : acall mach0 n_billingref24_Reader_now [.ptr 0 0] (hf n L (ts.length + 1) e) = some (.ret (tokV t.kind t.val (posV n L (ts.length + 1)) t.str) (hf n L (ts.length + 1) e)) := by
 refine acall_fn rfl (af := a_billingref24_Reader_now) rfl rfl ?_
 have g := h.get n
 have hl := h.len
 simp only [List.length_cons] at hl
 have q : ((L.length - (ts.length + 1) : Nat) : Int) < L.length := by omega
 simp [List.replicate, go_sem, q, g, tokV]
theorem isA_tk (s : Bs) : isA s (t :: ts) = ((decide (t.kind = 1) || decide (t.kind = 4)) && t.str == s) := by
 unfold isA
 rw [isWord_tk, isSymT_tk]
 cases decide (t.kind = 1) <;> cases decide (t.kind = 4) <;> simp
theorem f_is0 (s : Bs) (h : At L (t :: ts)) : acall mach0 n_billingref24_Reader_is [.ptr 0 0, .str s] (hf n L (ts.length + 1) 0) = some (.ret (.bool (isA s (t :: ts))) (hf n L (ts.length + 1) 0)) := by
 refine acall_fn rfl (af := a_billingref24_Reader_is) rfl rfl ?_
 have e := f_now (n := n) 0 h
 rw [isA_tk]
 simp only [hf, tokV] at e ⊢
 simp at e
 by_cases hk : t.kind = 1
 ·simp [List.replicate, go_sem, e, hk]
 ·have hk' : ¬ (t.kind : Int) = 1 := by omega
  by_cases hk4 : t.kind = 4
  ·simp [List.replicate, go_sem, e, hk, hk4, bf' hk']
  ·have hk4' : ¬ (t.kind : Int) = 4 := by omega
   simp [List.replicate, go_sem, e, hk, hk4, bf' hk', bf' hk4']
theorem f_isE (s : Bs) (e : Nat) (he : e ≠ 0) (h : At L (t :: ts)) : acall mach0 n_billingref24_Reader_is [.ptr 0 0, .str s] (hf n L (ts.length + 1) e) = some (.ret (.bool false) (hf n L (ts.length + 1) e)) := by
 refine acall_fn rfl (af := a_billingref24_Reader_is) rfl rfl ?_
 have e1 := f_now (n := n) e h
 have he' : ¬ (e : Int) = 0 := by omega
 simp only [hf, tokV] at e1 ⊢
 simp [List.replicate, go_sem, e1, bf' he']
theorem f_next0 (h : At L (t :: ts)) (ht : t ≠ .fin) : acall mach0 n_billingref24_Reader_next [.ptr 0 0] (hf n L (ts.length + 1) 0) = some (.ret (.tup []) (hf n L ts.length 0)) := by
 refine acall_fn rfl (af := a_billingref24_Reader_next) rfl rfl ?_
 have hl := h.len
 have hm := h.more ht
 have h70 := h.2.2
 have w := h.step
 simp only [List.length_cons] at hl
 have w1 : IntKind.wrap .i64 ((L.length : Int) - 1) = (L.length : Int) - 1 := wrap_i64 (by omega)
 have q : ((L.length - (ts.length + 1) : Nat) : Int) < (L.length : Int) - 1 := by omega
 simp [List.replicate, go_sem, w1, q, w]
theorem f_nextE (m e : Nat) (he : e ≠ 0) : acall mach0 n_billingref24_Reader_next [.ptr 0 0] (hf n L m e) = some (.ret (.tup []) (hf n L m e)) := by
 refine acall_fn rfl (af := a_billingref24_Reader_next) rfl rfl ?_
 have he' : ¬ (e : Int) = 0 := by omega
 simp [List.replicate, go_sem, bf' he']
theorem f_fail0 (m e : Nat) : acall mach0 n_billingref24_Reader_fail [.ptr 0 0, .int .i64 e] (hf n L m 0) = some (.ret (.tup []) (hf n L m e)) := by
 refine acall_fn rfl (af := a_billingref24_Reader_fail) rfl rfl ?_
 simp [List.replicate, go_sem]
theorem f_failE (m e e' : Nat) (he : e ≠ 0) : acall mach0 n_billingref24_Reader_fail [.ptr 0 0, .int .i64 e'] (hf n L m e) = some (.ret (.tup []) (hf n L m e)) := by
 refine acall_fn rfl (af := a_billingref24_Reader_fail) rfl rfl ?_
 have he' : ¬ (e : Int) = 0 := by omega
 simp [List.replicate, go_sem, bf' he']
theorem isA_fin {s : Bs} (h : isA s (t :: ts) = true) : t ≠ .fin := by
 intro e
 subst e
 rw [isA_tk] at h
 simp [Tk.kind] at h
theorem f_accept0 (s : Bs) (h : At L ts) : acall mach0 n_billingref24_Reader_accept [.ptr 0 0, .str s] (hf n L ts.length 0) = some (.ret (.bool (isA s ts)) (hf n L (if isA s ts then ts.tail.length else ts.length) 0)) := by
 obtain ⟨t, ts, rfl⟩ := ends_ne h.2.1
 refine acall_fn rfl (af := a_billingref24_Reader_accept) rfl rfl ?_
 have e := f_is0 (n := n) s h
 cases hw : isA s (t :: ts)
 ·simp only [hw] at e
  simp [List.replicate, go_sem, e]
 ·have e2 := f_next0 (n := n) h (isA_fin hw)
  simp only [hw] at e
  simp [List.replicate, go_sem, e, e2]
theorem f_acceptE (s : Bs) (e : Nat) (he : e ≠ 0) (h : At L ts) : acall mach0 n_billingref24_Reader_accept [.ptr 0 0, .str s] (hf n L ts.length e) = some (.ret (.bool false) (hf n L ts.length e)) := by
 obtain ⟨t, ts, rfl⟩ := ends_ne h.2.1
 refine acall_fn rfl (af := a_billingref24_Reader_accept) rfl rfl ?_
 have e1 := f_isE (n := n) s e he h
 simp [List.replicate, go_sem, e1]
theorem f_expect0 (s : Bs) (h : At L ts) : acall mach0 n_billingref24_Reader_expect [.ptr 0 0, .str s] (hf n L ts.length 0) = some (.ret (.tup []) (if isA s ts then hf n L ts.tail.length 0 else hf n L ts.length 1)) := by
 refine acall_fn rfl (af := a_billingref24_Reader_expect) rfl rfl ?_
 have e := f_accept0 (n := n) s h
 have ef := f_fail0 (n := n) (L := L) ts.length 1
 cases hw : isA s ts
 ·simp [hw] at e
  simp at ef
  simp [List.replicate, go_sem, e, ef]
 ·simp [hw] at e
  simp [List.replicate, go_sem, e]
theorem f_expectE (s : Bs) (e : Nat) (he : e ≠ 0) (h : At L ts) : acall mach0 n_billingref24_Reader_expect [.ptr 0 0, .str s] (hf n L ts.length e) = some (.ret (.tup []) (hf n L ts.length e)) := by
 refine acall_fn rfl (af := a_billingref24_Reader_expect) rfl rfl ?_
 have e1 := f_acceptE (n := n) s e he h
 have ef := f_failE (n := n) (L := L) ts.length e 1 he
 simp at ef
 simp [List.replicate, go_sem, e1, ef]
end
end Go.Am
namespace Go.Am
open Go Go.Pu
theorem valF_below : ∀ (k n : Nat) (w : Bs), w.all digitB = true → valF k n w < (n + 1) * 10 ^ w.length
 | 0, n, w, _ => by
  have : 0 < 10 ^ w.length := Nat.pow_pos (by decide)
  have := Nat.le_mul_of_pos_right (n + 1) this
  simp only [valF]; omega
 | k + 1, n, [], _ => by simp [valF]
 | k + 1, n, b :: l, h => by
  simp only [List.all_cons, Bool.and_eq_true] at h
  have ih := valF_below k (10 * n + (b.toNat - 48)) l h.2
  have hb : b.toNat - 48 ≤ 9 := by
   have := h.1
   simp only [digitB, Bool.and_eq_true, decide_eq_true_eq] at this
   omega
  simp only [valF, List.length_cons, Nat.pow_succ]
  have : (10 * n + (b.toNat - 48) + 1) * 10 ^ l.length ≤ ((n + 1) * 10) * 10 ^ l.length := Nat.mul_le_mul_right _ (by omega)
  have e : (n + 1) * (10 ^ l.length * 10) = ((n + 1) * 10) * 10 ^ l.length := by
   rw [Nat.mul_comm (10 ^ l.length) 10, ← Nat.mul_assoc]
  omega
theorem value_most {d : Bs} (h : (Tk.num d).ok = true) : (value d : Int) ≤ 9999999999999999 := by
 simp only [Tk.ok, Bool.and_eq_true, decide_eq_true_eq] at h
 have h1 := valF_below 16 0 d h.1.2
 have h2 : 10 ^ d.length ≤ 10 ^ 16 := Nat.pow_le_pow_right (by decide) h.2
 unfold value
 omega
section
variable {n : Nat} {L : List (Tk × Nat)} {t : Tk} {ts : List Tk}
theorem f_plain0 (h : At L (t :: ts)) : acall mach0 n_billingref24_Reader_plain [.ptr 0 0] (hf n L (ts.length + 1) 0) = some (.ret (.bool (decide (t.kind = 1) && !isKw t.str)) (hf n L (ts.length + 1) 0)) := by
 refine acall_fn rfl (af := a_billingref24_Reader_plain) rfl rfl ?_
 have e := f_now (n := n) 0 h
 simp only [hf, tokV] at e ⊢
 simp at e
 by_cases hk : t.kind = 1
 ·simp [List.replicate, go_sem, e, hk, e_rKeyword]
 ·have hk' : ¬ (t.kind : Int) = 1 := by omega
  simp [List.replicate, go_sem, e, hk, bf' hk']
theorem f_plainE (e : Nat) (he : e ≠ 0) (h : At L (t :: ts)) : acall mach0 n_billingref24_Reader_plain [.ptr 0 0] (hf n L (ts.length + 1) e) = some (.ret (.bool false) (hf n L (ts.length + 1) e)) := by
 refine acall_fn rfl (af := a_billingref24_Reader_plain) rfl rfl ?_
 have e1 := f_now (n := n) e h
 have he' : ¬ (e : Int) = 0 := by omega
 simp only [hf, tokV] at e1 ⊢
 simp [List.replicate, go_sem, e1, bf' he']
def digOk (many : Nat) (most : Int) (t : Tk) : Bool := decide (t.kind = 2) && (decide (many = 0) || decide (t.str.length = many)) && decide ((t.val : Int) ≤ most)
theorem f_digits0 (many : Nat) (most : Int) (h : At L (t :: ts)) : acall mach0 n_billingref24_Reader_digits [.ptr 0 0, .int .i64 many, .int .i64 most] (hf n L (ts.length + 1) 0) =
  some (if digOk many most t then .ret (tokV t.kind t.val (posV n L (ts.length + 1)) t.str) (hf n L ts.length 0) else .ret (tokV 0 0 0 []) (hf n L (ts.length + 1) 1)) := by
 refine acall_fn rfl (af := a_billingref24_Reader_digits) rfl rfl ?_
 have e := f_now (n := n) 0 h
 have ef := f_fail0 (n := n) (L := L) (ts.length + 1) 1
 simp only [hf, tokV] at e ef ⊢
 simp at e ef
 by_cases hk : t.kind = 2
 ·obtain ⟨d, rfl⟩ := num_of_kind hk
  have en := f_next0 (n := n) h (by simp)
  simp only [hf] at en
  simp only [Tk.kind, Tk.val, Tk.str] at e
  simp at en e
  by_cases h0 : many = 0
  ·by_cases hv : (value d : Int) ≤ most
   ·have hv' : ¬ most < (value d : Int) := by omega
    simp [List.replicate, go_sem, e, en, h0, hv, hv', digOk, Tk.kind, Tk.val, Tk.str]
   ·have hv' : most < (value d : Int) := by omega
    simp [List.replicate, go_sem, e, ef, h0, hv, hv', digOk, Tk.kind, Tk.val, Tk.str]
  ·have h0' : (0 : Int) < many := by omega
   have h0n : 0 < many := by omega
   by_cases hl : d.length = many
   ·by_cases hv : (value d : Int) ≤ most
    ·have hv' : ¬ most < (value d : Int) := by omega
     simp [List.replicate, go_sem, e, en, h0, h0', h0n, hl, hv, hv', digOk, Tk.kind, Tk.val, Tk.str]
    ·have hv' : most < (value d : Int) := by omega
     simp [List.replicate, go_sem, e, ef, h0, h0', h0n, hl, hv, hv', digOk, Tk.kind, Tk.val, Tk.str]
   ·have hl' : ¬ (d.length : Int) = many := by omega
    simp [List.replicate, go_sem, e, ef, h0, h0', h0n, hl, nt' hl', digOk, Tk.kind, Tk.val, Tk.str]
 ·have hk' : ¬ (t.kind : Int) = 2 := by omega
  simp [List.replicate, go_sem, e, ef, hk, nt' hk', digOk]
theorem f_number0 (h : At L (t :: ts)) (ho : t.ok = true ∨ t = .fin) : acall mach0 n_billingref24_Reader_number [.ptr 0 0] (hf n L (ts.length + 1) 0) =
  some (match numberT (t :: ts) with
   | .ok v r => .ret (.int .i64 v) (hf n L r.length 0)
   | .err m e => .ret (.int .i64 0) (hf n L m e)) := by
 refine acall_fn rfl (af := a_billingref24_Reader_number) rfl rfl ?_
 have e := f_now (n := n) 0 h
 have ef := f_fail0 (n := n) (L := L) (ts.length + 1) 1
 have ed := f_digits0 (n := n) 0 9999999999999999 h
 by_cases hk : t.kind = 2
 ·obtain ⟨d, rfl⟩ := num_of_kind hk
  have hok : (Tk.num d).ok = true := by rcases ho with h | h; exact h; cases h
  have hm := value_most hok
  have hd : digOk 0 9999999999999999 (.num d) = true := by simp [digOk, Tk.kind, Tk.val, hm]
  rw [hd] at ed
  simp only [hf, tokV, Tk.kind, Tk.val, Tk.str] at e ef ed ⊢
  simp at e ef ed
  unfold numberT numB
  by_cases h1 : 1 < d.length
  ·cases d with
   | nil => simp at h1
   | cons c d =>
    have h1' : (1 : Int) < ((d.length : Int) + 1) := by simp at h1; omega
    have h1'' : ¬ d = [] := by intro h; subst h; simp at h1
    by_cases h2 : c.toNat = 48
    ·have h2' : (c.toNat : Int) = 48 := by omega
     simp [List.replicate, go_sem, e, ef, h1', h1'', h2, bt' h2', headIs, failT]
    ·have h2' : ¬ (c.toNat : Int) = 48 := by omega
     simp [List.replicate, go_sem, e, ed, h1', h1'', h2, bf' h2', headIs]
  ·have h1' : ¬ (1 : Int) < (d.length : Int) := by omega
   simp [List.replicate, go_sem, e, ed, h1, h1']
 ·have e3 : numberT (t :: ts) = failT (t :: ts) 1 := by cases t <;> simp [numberT, Tk.kind] at hk ⊢
  have hd : digOk 0 9999999999999999 t = false := by simp [digOk, hk]
  rw [hd] at ed
  rw [e3]
  simp only [hf, tokV] at e ef ed ⊢
  simp at e ef ed
  by_cases h1 : 1 < t.str.length
  ·cases hs : t.str with
   | nil => rw [hs] at h1; simp at h1
   | cons c d =>
    rw [hs] at e h1
    have h1' : (1 : Int) < ((d.length : Int) + 1) := by simp at h1; omega
    by_cases h2 : c.toNat = 48
    ·have h2' : (c.toNat : Int) = 48 := by omega
     simp [List.replicate, go_sem, e, ef, h1', bt' h2', failT]
    ·have h2' : ¬ (c.toNat : Int) = 48 := by omega
     simp [List.replicate, go_sem, e, ed, h1', bf' h2', failT]
  ·have h1' : ¬ (1 : Int) < (t.str.length : Int) := by omega
   simp [List.replicate, go_sem, e, ed, h1', failT]
theorem f_two (op : Int) (a b : PE) (h : Heap) : acall mach0 n_billingref24_two [.int .i64 op, exprV a, exprV b] h = some (.ret (exprV (two op a b)) h) := by
 refine acall_fn rfl (af := a_billingref24_two) rfl rfl ?_
 obtain ⟨o1, n1, t1, a1⟩ := a
 obtain ⟨o2, n2, t2, a2⟩ := b
 simp [List.replicate, go_sem, exprV, exprVs, two]
theorem e_Attributes : acall mach0 n_billingref24_Attributes [] [] = some (.ret (.sl true 1 (ssV attrs)) []) := (acall_iff _).2 ⟨60, by kernel_rfl⟩
end
end Go.Am
namespace Go.Am
open Go Go.Pu
theorem Place_l (s : List UInt8) : ∀ (l2 l1 : List (List UInt8)), l1.length + l2.length ≤ 1000 →
  Run mach0 (.c billingref24_Place_l1b :: .lp billingref24_Place_l1 :: .endB 0 :: .c billingref24_Place_k1 :: []) .norm ⟨(.sl false 1 (ssV (l1 ++ l2)) :: .str s :: .undef :: .undef :: .undef :: .int .i64 l1.length :: .undef :: .undef :: .undef :: .undef :: .undef :: .undef :: .undef :: .undef :: .undef :: .undef :: .undef :: .undef :: .undef :: []), []⟩
   (FinQ [.tmp 4] 0 (.ret (.int .i64 (wplaceF s l2 l1.length)) []))
 | [], l1, hl => by
  have q : ¬ ((l1.length : Int) < l1.length) := by omega
  unfold billingref24_Place_l1b
  simp [go_sem, ssV, q, billingref24_Place_k1]
  simp [go_sem, billingref24_Place_k1b, wplaceF]
 | x :: l2, l1, hl => by
  simp only [List.length_cons] at hl
  have ih := Place_l s l2 (l1 ++ [x]) (by simp; omega)
  have q : (l1.length : Int) < l1.length + (l2.length + 1) := by omega
  have w : IntKind.wrap .i64 ((l1.length : Int) + 1) = l1.length + 1 := wrap_i64 (by omega)
  have hn := nth_ss (l1 := l1) (l2 := l2) (x := x)
  have hlen : (ssV (l1 ++ x :: l2)).length = l1.length + (l2.length + 1) := by simp [ssV]
  unfold billingref24_Place_l1b
  by_cases h : x = s
  ·subst h
   simp [go_sem, hlen, q, hn, wplaceF]
  ·have h' : (x == s) = false := by simpa using h
   simp only [List.append_assoc, List.singleton_append, List.length_append, List.length_cons, List.length_nil, Nat.zero_add] at ih
   simp [go_sem, hlen, q, hn, h', w, wplaceF, h]
   simpa using ih
theorem e_Place (o : Bool) (l : List (List UInt8)) (s : List UInt8) (hl : l.length ≤ 1000) : acall mach0 n_billingref24_Place [.sl o 1 (ssV l), .str s] [] = some (.ret (.int .i64 (wplace l s)) []) := by
 refine acall_fn rfl (af := a_billingref24_Place) rfl rfl ?_
 have := Place_l s l [] (by simpa using hl)
 cases o <;> simp [List.replicate, go_sem] <;> simpa [wplace] using this
theorem wplaceF_in (s : Bs) : ∀ (l : List Bs) (i : Nat), s ∈ l → 0 ≤ wplaceF s l i
 | [], _, h => by cases h
 | w :: l, i, h => by
  simp only [wplaceF]
  split
  ·omega
  ·rename_i hn
   rcases List.mem_cons.1 h with h | h
   ·exact absurd h.symm hn
   ·exact wplaceF_in s l (i + 1) h
theorem attr_place (s : Bs) : decide (0 ≤ wplace attrs s) = isAttr s := by
 unfold isAttr
 by_cases h : s ∈ attrs
 ·have := wplaceF_in s attrs 0 h
  simp only [List.contains_eq_mem, h, decide_true, decide_eq_true_eq]
  exact this
 ·rw [wplace_no h]
  simp [h]
def okT (ts : List Tk) : Prop := ∀ t ∈ ts, t.ok = true ∨ t = .fin
theorem okT.tl {t : Tk} {ts : List Tk} (h : okT (t :: ts)) : okT ts := fun u hu => h u (List.mem_cons_of_mem _ hu)
theorem isSymT_word {s : Bs} {ts : List Tk} (ho : okT ts) (hs : isSym s = false) : isSymT s ts = false := by
 cases ts with
 | nil => rfl
 | cons t ts =>
  cases t with
  | sym w =>
   have := ho (.sym w) (by simp)
   simp only [Tk.ok, reduceCtorEq, or_false] at this
   simp only [isSymT, beq_eq_false_iff_ne]
   intro e; subst e; rw [hs] at this; cases this
  | _ => rfl
theorem isWord_sym {s : Bs} {ts : List Tk} (ho : okT ts) (hs : headIs lowerB s = false) : isWord s ts = false := by
 cases ts with
 | nil => rfl
 | cons t ts =>
  cases t with
  | word w =>
   have := ho (.word w) (by simp)
   simp only [Tk.ok, Bool.and_eq_true, reduceCtorEq, or_false] at this
   simp only [isWord, beq_eq_false_iff_ne]
   intro e; subst e; rw [hs] at this; exact Bool.noConfusion this.1.1
  | _ => rfl
theorem isA_word {s : Bs} {ts : List Tk} (ho : okT ts) (hs : isSym s = false) : isA s ts = isWord s ts := by
 unfold isA; rw [isSymT_word ho hs, Bool.or_false]
theorem isA_sym {s : Bs} {ts : List Tk} (ho : okT ts) (hs : headIs lowerB s = false) : isA s ts = isSymT s ts := by
 unfold isA; rw [isWord_sym ho hs, Bool.false_or]
end Go.Am
namespace Go.Am
open Go Go.Pu
section
variable {n : Nat} {L : List (Tk × Nat)}
theorem okT.tail {ts : List Tk} (h : okT ts) : okT ts.tail := fun t ht => h t (List.mem_of_mem_tail ht)
theorem p_suf : ∀ k, (∀ l ts a r, pE k l ts = some (.ok a r) → ∃ d, ts = d ++ r) ∧ (∀ l a ts b r, pL k l a ts = some (.ok b r) → ∃ d, ts = d ++ r) := by
 have tl : ∀ (ts : List Tk), ∃ d, ts = d ++ ts.tail := fun ts => by
  cases ts with
  | nil => exact ⟨[], rfl⟩
  | cons t ts => exact ⟨[t], rfl⟩
 have tr : ∀ {a b c : List Tk}, (∃ d, a = d ++ b) → (∃ d, b = d ++ c) → ∃ d, a = d ++ c := by
  rintro a b c ⟨d, rfl⟩ ⟨e, rfl⟩
  exact ⟨d ++ e, by simp⟩
 intro k
 induction k with
 | zero => exact ⟨fun l ts a r h => by simp [pE] at h, fun l a ts b r h => by simp [pL] at h⟩
 | succ k ih =>
  obtain ⟨i1, i2⟩ := ih
  constructor
  ·intro l ts a r h
   rw [pE_succ] at h
   split at h
   ·split at h
    ·rcases bindO_some h with ⟨b, q, h1, h2⟩ | ⟨m, e, h1, h2⟩
     ·cases h2; exact tr (tl ts) (i1 _ _ _ _ h1)
     ·cases h2
    ·exact i1 _ _ _ _ h
   ·split at h
    ·rcases bindO_some h with ⟨b, q, h1, h2⟩ | ⟨m, e, h1, h2⟩
     ·have hq := i1 _ _ _ _ h1
      split at h2
      ·cases h2; exact hq
      ·rcases bindO_some h2 with ⟨c, q', h3, h4⟩ | ⟨m, e, h3, h4⟩
       ·cases h4; exact tr hq (tr (tl q) (i1 _ _ _ _ h3))
       ·cases h4
     ·cases h2
    ·split at h
     ·split at h
      ·split at h
       ·cases h; exact tl _
       ·cases h
      ·cases h; exact tl _
      ·split at h
       ·cases h; exact tl _
       ·split at h
        ·cases h
        ·cases h; exact tl _
      ·split at h
       ·rcases bindO_some h with ⟨b, q, h1, h2⟩ | ⟨m, e, h1, h2⟩
        ·have hq := i1 _ _ _ _ h1
         split at h2
         ·cases h2; exact tr (tl ts) (tr hq (tl q))
         ·cases h2
        ·cases h2
       ·cases h
     ·rcases bindO_some h with ⟨b, q, h1, h2⟩ | ⟨m, e, h1, h2⟩
      ·exact tr (i1 _ _ _ _ h1) (i2 _ _ _ _ _ h2)
      ·cases h2
  ·intro l a ts b r h
   rw [pL_succ] at h
   split at h
   ·cases h; exact ⟨[], rfl⟩
   ·rcases bindO_some h with ⟨c, q, h1, h2⟩ | ⟨m, e, h1, h2⟩
    ·exact tr (tr (tl ts) (i1 _ _ _ _ h1)) (i2 _ _ _ _ _ h2)
    ·cases h2
theorem okT.p {k l : Nat} {ts r : List Tk} {a : PE} (h : okT ts) (hp : pE k l ts = some (.ok a r)) : okT r := by
 obtain ⟨d, rfl⟩ := (p_suf k).1 _ _ _ _ hp
 exact fun t ht => h t (List.mem_append_right _ ht)
theorem p_err' : ∀ k, (∀ l ts m e, pE k l ts = some (.err m e) → At L ts → e ≠ 0 ∧ ∃ us, At L us ∧ us.length = m) ∧ (∀ l a ts m e, pL k l a ts = some (.err m e) → At L ts → e ≠ 0 ∧ ∃ us, At L us ∧ us.length = m) := by
 have here : ∀ {ts : List Tk} {m e : Nat}, some (failT (α := PE) ts 1) = some (.err m e) → At L ts → e ≠ 0 ∧ ∃ us, At L us ∧ us.length = m := fun {ts m e} h hA => by
  simp only [failT, Option.some.injEq, PR.err.injEq] at h
  exact ⟨by omega, ts, hA, h.1⟩
 intro k
 induction k with
 | zero => exact ⟨fun l ts m e h => by simp [pE] at h, fun l a ts m e h => by simp [pL] at h⟩
 | succ k ih =>
  obtain ⟨i1, i2⟩ := ih
  constructor
  ·intro l ts m e h hA
   rw [pE_succ] at h
   split at h
   ·split at h
    ·rename_i hw
     rcases bindO_some h with ⟨b, q, h1, h2⟩ | ⟨m', e', h1, h2⟩
     ·cases h2
     ·cases h2; exact i1 _ _ _ _ h1 (hA.word hw)
    ·exact i1 _ _ _ _ h hA
   ·split at h
    ·rcases bindO_some h with ⟨b, q, h1, h2⟩ | ⟨m', e', h1, h2⟩
     ·have hq := (p_at k).1 _ _ _ _ h1 hA
      split at h2
      ·cases h2
      ·rename_i hc
       rcases bindO_some h2 with ⟨c, q', h3, h4⟩ | ⟨m', e', h3, h4⟩
       ·cases h4
       ·cases h4; exact i1 _ _ _ _ h3 (hq.cmp hc)
     ·cases h2; exact i1 _ _ _ _ h1 hA
    ·split at h
     ·split at h
      ·split at h
       ·cases h
       ·exact here h hA
      ·cases h
      ·split at h
       ·cases h
       ·split at h
        ·exact here h hA
        ·cases h
      ·split at h
       ·rename_i hw
        rcases bindO_some h with ⟨b, q, h1, h2⟩ | ⟨m', e', h1, h2⟩
        ·have hq := (p_at k).1 _ _ _ _ h1 (hA.sym hw)
         split at h2
         ·cases h2
         ·exact here h2 hq
        ·cases h2; exact i1 _ _ _ _ h1 (hA.sym hw)
       ·exact here h hA
     ·rcases bindO_some h with ⟨b, q, h1, h2⟩ | ⟨m', e', h1, h2⟩
      ·exact i2 _ _ _ _ _ h2 ((p_at k).1 _ _ _ _ h1 hA)
      ·cases h2; exact i1 _ _ _ _ h1 hA
  ·intro l a ts m e h hA
   rw [pL_succ] at h
   split at h
   ·cases h
   ·rename_i hc
    rcases bindO_some h with ⟨c, q, h1, h2⟩ | ⟨m', e', h1, h2⟩
    ·exact i2 _ _ _ _ _ h2 ((p_at k).1 _ _ _ _ h1 (hA.chain hc))
    ·cases h2; exact i1 _ _ _ _ h1 (hA.chain hc)
theorem p_err (k l : Nat) (ts : List Tk) (m e : Nat) (h : pE k l ts = some (.err m e)) (hA : At L ts) : e ≠ 0 ∧ ∃ us, At L us ∧ us.length = m := (p_err' k).1 l ts m e h hA
def resH (n : Nat) (L : List (Tk × Nat)) {α : Type} : PR α → Heap
 | .ok _ q => hf n L q.length 0
 | .err m e => hf n L m e
def EqR (n : Nat) (L : List (Tk × Nat)) (f : FuncId) (l k : Nat) : Prop := ∀ ts r, pE k l ts = some r → At L ts → okT ts →
 ∃ a, acall mach0 f [.ptr 0 0] (hf n L ts.length 0) = some (.ret (exprV a) (resH n L r)) ∧ (∀ b q, r = .ok b q → a = b) ∧ (∀ m e, r = .err m e → e ≠ 0 ∧ ∃ us, At L us ∧ us.length = m)
def ErrR (n : Nat) (L : List (Tk × Nat)) (f : FuncId) : Prop := ∀ e us, e ≠ 0 → At L us → ∃ a, acall mach0 f [.ptr 0 0] (hf n L us.length e) = some (.ret (exprV a) (hf n L us.length e))
theorem expr_lE (a : PE) (e : Nat) (he : e ≠ 0) (us : List Tk) (hA : At L us) :
    Run mach0 (.c billingref24_Reader_expr_l1b :: .lp billingref24_Reader_expr_l1 :: .endB 0 :: .c billingref24_Reader_expr_k1 :: []) .norm ⟨(.ptr 0 0 :: .undef :: box0 :: .box (exprC a) :: .undef :: .undef :: .undef :: .undef :: .undef :: .undef :: .undef :: .undef :: .undef :: []), hf n L us.length e⟩ (FinQ [.cell 2 (some 4)] 1 (.ret (exprV a) (hf n L us.length e))) := by
  have et0 := f_acceptE (n := n) [111, 114] e he hA
  obtain ⟨op, num, text, args⟩ := a
  simp only [exprC]
  unfold billingref24_Reader_expr_l1b
  simp [go_sem, et0, billingref24_Reader_expr_k1]
  simp [go_sem, billingref24_Reader_expr_k1b, exprV]
theorem expr_lR : ∀ k, (∀ m, m < k → EqR n L n_billingref24_Reader_both 2 m) → ∀ a ts r, pL k 1 a ts = some r → At L ts → okT ts →
  ∃ b, (∀ c q, r = .ok c q → b = c) ∧ Run mach0 (.c billingref24_Reader_expr_l1b :: .lp billingref24_Reader_expr_l1 :: .endB 0 :: .c billingref24_Reader_expr_k1 :: []) .norm ⟨(.ptr 0 0 :: .undef :: box0 :: .box (exprC a) :: .undef :: .undef :: .undef :: .undef :: .undef :: .undef :: .undef :: .undef :: .undef :: []), hf n L ts.length 0⟩ (FinQ [.cell 2 (some 4)] 1 (.ret (exprV b) (resH n L r))) := by
 intro k
 induction k with
 | zero => intro _ a ts r h; simp [pL] at h
 | succ k ih =>
  intro hE a ts r h hA ho
  have ih := ih (fun m hm => hE m (by omega))
  have hE := hE k (by omega)
  have et0 := f_accept0 (n := n) [111, 114] hA
  rw [isA_word ho (by decide)] at et0
  rw [pL_succ] at h
  by_cases hw0 : isWord [111, 114] ts = true
  ·have hA2 := hA.word hw0
   have ho2 := okT.tail ho
   have hc : chainOp 1 ts = some 6 := by simp [chainOp, kOr, kAnd, hw0]
   simp only [hw0, if_true] at et0
   rw [hc] at h
   simp only at h
   rcases bindO_some h with ⟨b, q, h1, h2⟩ | ⟨m, e, h1, h2⟩
   ·obtain ⟨b', eb, hb, _⟩ := hE _ _ h1 hA2 ho2
    obtain rfl := hb b q rfl
    obtain ⟨c', hc', run⟩ := ih (two 6 a b') q r h2 ((p_at k).1 _ _ _ _ h1 hA2) (okT.p ho2 h1)
    refine ⟨c', hc', ?_⟩
    have e2 := fun h => f_two 6 a b' h
    obtain ⟨op, num, text, args⟩ := a
    obtain ⟨op2, num2, text2, args2⟩ := b'
    simp only [resH] at eb
    simp only [two, exprC, exprVs, exprV] at run e2 eb ⊢
    unfold billingref24_Reader_expr_l1b
    generalize ts.tail = tl at *
    simp [go_sem, et0, eb, e2]
    exact run
   ·subst h2
    obtain ⟨b', eb, _, hb⟩ := hE _ _ h1 hA2 ho2
    obtain ⟨he, us, hu, hul⟩ := hb m e rfl
    subst hul
    refine ⟨two 6 a b', (fun c q hh => by cases hh), ?_⟩
    have run := expr_lE (n := n) (two 6 a b') e he us hu
    have e2 := fun h => f_two 6 a b' h
    obtain ⟨op, num, text, args⟩ := a
    obtain ⟨op2, num2, text2, args2⟩ := b'
    simp only [resH] at eb ⊢
    simp only [two, exprC, exprVs, exprV] at run e2 eb ⊢
    unfold billingref24_Reader_expr_l1b
    generalize ts.tail = tl at *
    simp [go_sem, et0, eb, e2]
    exact run
  have hw0 : isWord [111, 114] ts = false := by simpa using hw0
  simp [hw0] at et0
  have hc : chainOp 1 ts = none := by simp [chainOp, kOr, kAnd, hw0]
  rw [hc] at h
  simp only [Option.some.injEq] at h
  subst h
  refine ⟨a, (fun c q hh => by cases hh; rfl), ?_⟩
  obtain ⟨op, num, text, args⟩ := a
  simp only [exprC, resH]
  unfold billingref24_Reader_expr_l1b
  simp [go_sem, et0, billingref24_Reader_expr_k1]
  simp [go_sem, billingref24_Reader_expr_k1b, exprV]
theorem expr_fR (k : Nat) (hE : ∀ m, m ≤ k → EqR n L n_billingref24_Reader_both 2 m) : EqR n L n_billingref24_Reader_expr 1 (k + 1) := by
 intro ts r h hA ho
 have hpe := fun m e (hr : r = .err m e) => p_err (k + 1) 1 ts m e (hr ▸ h) hA
 rw [pE_succ, if_neg (by decide), if_neg (by decide), if_neg (by decide)] at h
 rcases bindO_some h with ⟨a, q, h1, h2⟩ | ⟨m, e, h1, h2⟩
 ·obtain ⟨a', ea, ha, _⟩ := hE k (Nat.le_refl k) ts _ h1 hA ho
  obtain rfl := ha a q rfl
  obtain ⟨b, hb, run⟩ := expr_lR k (fun m hm => hE m (by omega)) a' q r h2 ((p_at k).1 _ _ _ _ h1 hA) (okT.p ho h1)
  refine ⟨b, acall_fn rfl (af := a_billingref24_Reader_expr) rfl rfl ?_, hb, hpe⟩
  obtain ⟨op, num, text, args⟩ := a'
  simp only [exprC] at run
  simp only [resH, exprV] at ea
  simp [List.replicate, go_sem, ea]
  exact run
 ·subst h2
  obtain ⟨a', ea, _, ha⟩ := hE k (Nat.le_refl k) ts _ h1 hA ho
  obtain ⟨he, us, hu, hul⟩ := ha m e rfl
  subst hul
  have run := expr_lE (n := n) a' e he us hu
  refine ⟨a', acall_fn rfl (af := a_billingref24_Reader_expr) rfl rfl ?_, (fun c q hh => by cases hh), hpe⟩
  obtain ⟨op, num, text, args⟩ := a'
  simp only [exprC, exprV] at run
  simp only [resH, exprV] at ea ⊢
  simp [List.replicate, go_sem, ea]
  exact run
theorem expr_fE (hS : ErrR n L n_billingref24_Reader_both) : ErrR n L n_billingref24_Reader_expr := by
 intro e us he hA
 obtain ⟨a', ea⟩ := hS e us he hA
 have run := expr_lE (n := n) a' e he us hA
 refine ⟨a', acall_fn rfl (af := a_billingref24_Reader_expr) rfl rfl ?_⟩
 obtain ⟨op, num, text, args⟩ := a'
 simp only [exprC, exprV] at run ea ⊢
 simp [List.replicate, go_sem, ea]
 exact run
theorem both_lE (a : PE) (e : Nat) (he : e ≠ 0) (us : List Tk) (hA : At L us) :
    Run mach0 (.c billingref24_Reader_both_l1b :: .lp billingref24_Reader_both_l1 :: .endB 0 :: .c billingref24_Reader_both_k1 :: []) .norm ⟨(.ptr 0 0 :: .undef :: box0 :: .box (exprC a) :: .undef :: .undef :: .undef :: .undef :: .undef :: .undef :: .undef :: .undef :: .undef :: []), hf n L us.length e⟩ (FinQ [.cell 2 (some 4)] 1 (.ret (exprV a) (hf n L us.length e))) := by
  have et0 := f_acceptE (n := n) [97, 110, 100] e he hA
  obtain ⟨op, num, text, args⟩ := a
  simp only [exprC]
  unfold billingref24_Reader_both_l1b
  simp [go_sem, et0, billingref24_Reader_both_k1]
  simp [go_sem, billingref24_Reader_both_k1b, exprV]
theorem both_lR : ∀ k, (∀ m, m < k → EqR n L n_billingref24_Reader_negated 3 m) → ∀ a ts r, pL k 2 a ts = some r → At L ts → okT ts →
  ∃ b, (∀ c q, r = .ok c q → b = c) ∧ Run mach0 (.c billingref24_Reader_both_l1b :: .lp billingref24_Reader_both_l1 :: .endB 0 :: .c billingref24_Reader_both_k1 :: []) .norm ⟨(.ptr 0 0 :: .undef :: box0 :: .box (exprC a) :: .undef :: .undef :: .undef :: .undef :: .undef :: .undef :: .undef :: .undef :: .undef :: []), hf n L ts.length 0⟩ (FinQ [.cell 2 (some 4)] 1 (.ret (exprV b) (resH n L r))) := by
 intro k
 induction k with
 | zero => intro _ a ts r h; simp [pL] at h
 | succ k ih =>
  intro hE a ts r h hA ho
  have ih := ih (fun m hm => hE m (by omega))
  have hE := hE k (by omega)
  have et0 := f_accept0 (n := n) [97, 110, 100] hA
  rw [isA_word ho (by decide)] at et0
  rw [pL_succ] at h
  by_cases hw0 : isWord [97, 110, 100] ts = true
  ·have hA2 := hA.word hw0
   have ho2 := okT.tail ho
   have hc : chainOp 2 ts = some 5 := by simp [chainOp, kOr, kAnd, hw0]
   simp only [hw0, if_true] at et0
   rw [hc] at h
   simp only at h
   rcases bindO_some h with ⟨b, q, h1, h2⟩ | ⟨m, e, h1, h2⟩
   ·obtain ⟨b', eb, hb, _⟩ := hE _ _ h1 hA2 ho2
    obtain rfl := hb b q rfl
    obtain ⟨c', hc', run⟩ := ih (two 5 a b') q r h2 ((p_at k).1 _ _ _ _ h1 hA2) (okT.p ho2 h1)
    refine ⟨c', hc', ?_⟩
    have e2 := fun h => f_two 5 a b' h
    obtain ⟨op, num, text, args⟩ := a
    obtain ⟨op2, num2, text2, args2⟩ := b'
    simp only [resH] at eb
    simp only [two, exprC, exprVs, exprV] at run e2 eb ⊢
    unfold billingref24_Reader_both_l1b
    generalize ts.tail = tl at *
    simp [go_sem, et0, eb, e2]
    exact run
   ·subst h2
    obtain ⟨b', eb, _, hb⟩ := hE _ _ h1 hA2 ho2
    obtain ⟨he, us, hu, hul⟩ := hb m e rfl
    subst hul
    refine ⟨two 5 a b', (fun c q hh => by cases hh), ?_⟩
    have run := both_lE (n := n) (two 5 a b') e he us hu
    have e2 := fun h => f_two 5 a b' h
    obtain ⟨op, num, text, args⟩ := a
    obtain ⟨op2, num2, text2, args2⟩ := b'
    simp only [resH] at eb ⊢
    simp only [two, exprC, exprVs, exprV] at run e2 eb ⊢
    unfold billingref24_Reader_both_l1b
    generalize ts.tail = tl at *
    simp [go_sem, et0, eb, e2]
    exact run
  have hw0 : isWord [97, 110, 100] ts = false := by simpa using hw0
  simp [hw0] at et0
  have hc : chainOp 2 ts = none := by simp [chainOp, kOr, kAnd, hw0]
  rw [hc] at h
  simp only [Option.some.injEq] at h
  subst h
  refine ⟨a, (fun c q hh => by cases hh; rfl), ?_⟩
  obtain ⟨op, num, text, args⟩ := a
  simp only [exprC, resH]
  unfold billingref24_Reader_both_l1b
  simp [go_sem, et0, billingref24_Reader_both_k1]
  simp [go_sem, billingref24_Reader_both_k1b, exprV]
theorem both_fR (k : Nat) (hE : ∀ m, m ≤ k → EqR n L n_billingref24_Reader_negated 3 m) : EqR n L n_billingref24_Reader_both 2 (k + 1) := by
 intro ts r h hA ho
 have hpe := fun m e (hr : r = .err m e) => p_err (k + 1) 2 ts m e (hr ▸ h) hA
 rw [pE_succ, if_neg (by decide), if_neg (by decide), if_neg (by decide)] at h
 rcases bindO_some h with ⟨a, q, h1, h2⟩ | ⟨m, e, h1, h2⟩
 ·obtain ⟨a', ea, ha, _⟩ := hE k (Nat.le_refl k) ts _ h1 hA ho
  obtain rfl := ha a q rfl
  obtain ⟨b, hb, run⟩ := both_lR k (fun m hm => hE m (by omega)) a' q r h2 ((p_at k).1 _ _ _ _ h1 hA) (okT.p ho h1)
  refine ⟨b, acall_fn rfl (af := a_billingref24_Reader_both) rfl rfl ?_, hb, hpe⟩
  obtain ⟨op, num, text, args⟩ := a'
  simp only [exprC] at run
  simp only [resH, exprV] at ea
  simp [List.replicate, go_sem, ea]
  exact run
 ·subst h2
  obtain ⟨a', ea, _, ha⟩ := hE k (Nat.le_refl k) ts _ h1 hA ho
  obtain ⟨he, us, hu, hul⟩ := ha m e rfl
  subst hul
  have run := both_lE (n := n) a' e he us hu
  refine ⟨a', acall_fn rfl (af := a_billingref24_Reader_both) rfl rfl ?_, (fun c q hh => by cases hh), hpe⟩
  obtain ⟨op, num, text, args⟩ := a'
  simp only [exprC, exprV] at run
  simp only [resH, exprV] at ea ⊢
  simp [List.replicate, go_sem, ea]
  exact run
theorem both_fE (hS : ErrR n L n_billingref24_Reader_negated) : ErrR n L n_billingref24_Reader_both := by
 intro e us he hA
 obtain ⟨a', ea⟩ := hS e us he hA
 have run := both_lE (n := n) a' e he us hA
 refine ⟨a', acall_fn rfl (af := a_billingref24_Reader_both) rfl rfl ?_⟩
 obtain ⟨op, num, text, args⟩ := a'
 simp only [exprC, exprV] at run ea ⊢
 simp [List.replicate, go_sem, ea]
 exact run
theorem sum_lE (a : PE) (e : Nat) (he : e ≠ 0) (us : List Tk) (hA : At L us) :
    Run mach0 (.c billingref24_Reader_sum_l1b :: .lp billingref24_Reader_sum_l1 :: .endB 0 :: []) .norm ⟨(.ptr 0 0 :: .undef :: box0 :: .box (exprC a) :: .undef :: .undef :: .undef :: .undef :: .undef :: .undef :: .undef :: .undef :: .undef :: .undef :: .undef :: .undef :: .undef :: .undef :: .undef :: []), hf n L us.length e⟩ (FinQ [.cell 2 (some 4)] 1 (.ret (exprV a) (hf n L us.length e))) := by
  have et0 := f_acceptE (n := n) [43] e he hA
  have et1 := f_acceptE (n := n) [45] e he hA
  obtain ⟨op, num, text, args⟩ := a
  simp only [exprC]
  unfold billingref24_Reader_sum_l1b
  simp [go_sem, et0, et1, exprV]
theorem sum_lR : ∀ k, (∀ m, m < k → EqR n L n_billingref24_Reader_product 6 m) → ∀ a ts r, pL k 5 a ts = some r → At L ts → okT ts →
  ∃ b, (∀ c q, r = .ok c q → b = c) ∧ Run mach0 (.c billingref24_Reader_sum_l1b :: .lp billingref24_Reader_sum_l1 :: .endB 0 :: []) .norm ⟨(.ptr 0 0 :: .undef :: box0 :: .box (exprC a) :: .undef :: .undef :: .undef :: .undef :: .undef :: .undef :: .undef :: .undef :: .undef :: .undef :: .undef :: .undef :: .undef :: .undef :: .undef :: []), hf n L ts.length 0⟩ (FinQ [.cell 2 (some 4)] 1 (.ret (exprV b) (resH n L r))) := by
 intro k
 induction k with
 | zero => intro _ a ts r h; simp [pL] at h
 | succ k ih =>
  intro hE a ts r h hA ho
  have ih := ih (fun m hm => hE m (by omega))
  have hE := hE k (by omega)
  have et0 := f_accept0 (n := n) [43] hA
  rw [isA_sym ho (by decide)] at et0
  have et1 := f_accept0 (n := n) [45] hA
  rw [isA_sym ho (by decide)] at et1
  rw [pL_succ] at h
  by_cases hw0 : isSymT [43] ts = true
  ·have hA2 := hA.sym hw0
   have ho2 := okT.tail ho
   have hc : chainOp 5 ts = some 11 := by simp [chainOp, hw0]
   simp only [hw0, if_true] at et0
   rw [hc] at h
   simp only at h
   rcases bindO_some h with ⟨b, q, h1, h2⟩ | ⟨m, e, h1, h2⟩
   ·obtain ⟨b', eb, hb, _⟩ := hE _ _ h1 hA2 ho2
    obtain rfl := hb b q rfl
    obtain ⟨c', hc', run⟩ := ih (two 11 a b') q r h2 ((p_at k).1 _ _ _ _ h1 hA2) (okT.p ho2 h1)
    refine ⟨c', hc', ?_⟩
    have e2 := fun h => f_two 11 a b' h
    obtain ⟨op, num, text, args⟩ := a
    obtain ⟨op2, num2, text2, args2⟩ := b'
    simp only [resH] at eb
    simp only [two, exprC, exprVs, exprV] at run e2 eb ⊢
    unfold billingref24_Reader_sum_l1b
    generalize ts.tail = tl at *
    simp [go_sem, et0, eb, e2]
    exact run
   ·subst h2
    obtain ⟨b', eb, _, hb⟩ := hE _ _ h1 hA2 ho2
    obtain ⟨he, us, hu, hul⟩ := hb m e rfl
    subst hul
    refine ⟨two 11 a b', (fun c q hh => by cases hh), ?_⟩
    have run := sum_lE (n := n) (two 11 a b') e he us hu
    have e2 := fun h => f_two 11 a b' h
    obtain ⟨op, num, text, args⟩ := a
    obtain ⟨op2, num2, text2, args2⟩ := b'
    simp only [resH] at eb ⊢
    simp only [two, exprC, exprVs, exprV] at run e2 eb ⊢
    unfold billingref24_Reader_sum_l1b
    generalize ts.tail = tl at *
    simp [go_sem, et0, eb, e2]
    exact run
  have hw0 : isSymT [43] ts = false := by simpa using hw0
  simp [hw0] at et0
  by_cases hw1 : isSymT [45] ts = true
  ·have hA2 := hA.sym hw1
   have ho2 := okT.tail ho
   have hc : chainOp 5 ts = some 12 := by simp [chainOp, hw0, hw1]
   simp only [hw1, if_true] at et1
   rw [hc] at h
   simp only at h
   rcases bindO_some h with ⟨b, q, h1, h2⟩ | ⟨m, e, h1, h2⟩
   ·obtain ⟨b', eb, hb, _⟩ := hE _ _ h1 hA2 ho2
    obtain rfl := hb b q rfl
    obtain ⟨c', hc', run⟩ := ih (two 12 a b') q r h2 ((p_at k).1 _ _ _ _ h1 hA2) (okT.p ho2 h1)
    refine ⟨c', hc', ?_⟩
    have e2 := fun h => f_two 12 a b' h
    obtain ⟨op, num, text, args⟩ := a
    obtain ⟨op2, num2, text2, args2⟩ := b'
    simp only [resH] at eb
    simp only [two, exprC, exprVs, exprV] at run e2 eb ⊢
    unfold billingref24_Reader_sum_l1b
    generalize ts.tail = tl at *
    simp [go_sem, et0, et1, eb, e2]
    exact run
   ·subst h2
    obtain ⟨b', eb, _, hb⟩ := hE _ _ h1 hA2 ho2
    obtain ⟨he, us, hu, hul⟩ := hb m e rfl
    subst hul
    refine ⟨two 12 a b', (fun c q hh => by cases hh), ?_⟩
    have run := sum_lE (n := n) (two 12 a b') e he us hu
    have e2 := fun h => f_two 12 a b' h
    obtain ⟨op, num, text, args⟩ := a
    obtain ⟨op2, num2, text2, args2⟩ := b'
    simp only [resH] at eb ⊢
    simp only [two, exprC, exprVs, exprV] at run e2 eb ⊢
    unfold billingref24_Reader_sum_l1b
    generalize ts.tail = tl at *
    simp [go_sem, et0, et1, eb, e2]
    exact run
  have hw1 : isSymT [45] ts = false := by simpa using hw1
  simp [hw1] at et1
  have hc : chainOp 5 ts = none := by simp [chainOp, hw0, hw1]
  rw [hc] at h
  simp only [Option.some.injEq] at h
  subst h
  refine ⟨a, (fun c q hh => by cases hh; rfl), ?_⟩
  obtain ⟨op, num, text, args⟩ := a
  simp only [exprC, resH]
  unfold billingref24_Reader_sum_l1b
  simp [go_sem, et0, et1, exprV]
theorem sum_fR (k : Nat) (hE : ∀ m, m ≤ k → EqR n L n_billingref24_Reader_product 6 m) : EqR n L n_billingref24_Reader_sum 5 (k + 1) := by
 intro ts r h hA ho
 have hpe := fun m e (hr : r = .err m e) => p_err (k + 1) 5 ts m e (hr ▸ h) hA
 rw [pE_succ, if_neg (by decide), if_neg (by decide), if_neg (by decide)] at h
 rcases bindO_some h with ⟨a, q, h1, h2⟩ | ⟨m, e, h1, h2⟩
 ·obtain ⟨a', ea, ha, _⟩ := hE k (Nat.le_refl k) ts _ h1 hA ho
  obtain rfl := ha a q rfl
  obtain ⟨b, hb, run⟩ := sum_lR k (fun m hm => hE m (by omega)) a' q r h2 ((p_at k).1 _ _ _ _ h1 hA) (okT.p ho h1)
  refine ⟨b, acall_fn rfl (af := a_billingref24_Reader_sum) rfl rfl ?_, hb, hpe⟩
  obtain ⟨op, num, text, args⟩ := a'
  simp only [exprC] at run
  simp only [resH, exprV] at ea
  simp [List.replicate, go_sem, ea]
  exact run
 ·subst h2
  obtain ⟨a', ea, _, ha⟩ := hE k (Nat.le_refl k) ts _ h1 hA ho
  obtain ⟨he, us, hu, hul⟩ := ha m e rfl
  subst hul
  have run := sum_lE (n := n) a' e he us hu
  refine ⟨a', acall_fn rfl (af := a_billingref24_Reader_sum) rfl rfl ?_, (fun c q hh => by cases hh), hpe⟩
  obtain ⟨op, num, text, args⟩ := a'
  simp only [exprC, exprV] at run
  simp only [resH, exprV] at ea ⊢
  simp [List.replicate, go_sem, ea]
  exact run
theorem sum_fE (hS : ErrR n L n_billingref24_Reader_product) : ErrR n L n_billingref24_Reader_sum := by
 intro e us he hA
 obtain ⟨a', ea⟩ := hS e us he hA
 have run := sum_lE (n := n) a' e he us hA
 refine ⟨a', acall_fn rfl (af := a_billingref24_Reader_sum) rfl rfl ?_⟩
 obtain ⟨op, num, text, args⟩ := a'
 simp only [exprC, exprV] at run ea ⊢
 simp [List.replicate, go_sem, ea]
 exact run
theorem product_lE (a : PE) (e : Nat) (he : e ≠ 0) (us : List Tk) (hA : At L us) :
    Run mach0 (.c billingref24_Reader_product_l1b :: .lp billingref24_Reader_product_l1 :: .endB 0 :: []) .norm ⟨(.ptr 0 0 :: .undef :: box0 :: .box (exprC a) :: .undef :: .undef :: .undef :: .undef :: .undef :: .undef :: .undef :: .undef :: .undef :: .undef :: .undef :: .undef :: .undef :: .undef :: .undef :: .undef :: .undef :: .undef :: .undef :: .undef :: .undef :: []), hf n L us.length e⟩ (FinQ [.cell 2 (some 4)] 1 (.ret (exprV a) (hf n L us.length e))) := by
  have et0 := f_acceptE (n := n) [42] e he hA
  have et1 := f_acceptE (n := n) [47] e he hA
  have et2 := f_acceptE (n := n) [37] e he hA
  obtain ⟨op, num, text, args⟩ := a
  simp only [exprC]
  unfold billingref24_Reader_product_l1b
  simp [go_sem, et0, et1, et2, exprV]
theorem product_lR : ∀ k, (∀ m, m < k → EqR n L n_billingref24_Reader_primary 7 m) → ∀ a ts r, pL k 6 a ts = some r → At L ts → okT ts →
  ∃ b, (∀ c q, r = .ok c q → b = c) ∧ Run mach0 (.c billingref24_Reader_product_l1b :: .lp billingref24_Reader_product_l1 :: .endB 0 :: []) .norm ⟨(.ptr 0 0 :: .undef :: box0 :: .box (exprC a) :: .undef :: .undef :: .undef :: .undef :: .undef :: .undef :: .undef :: .undef :: .undef :: .undef :: .undef :: .undef :: .undef :: .undef :: .undef :: .undef :: .undef :: .undef :: .undef :: .undef :: .undef :: []), hf n L ts.length 0⟩ (FinQ [.cell 2 (some 4)] 1 (.ret (exprV b) (resH n L r))) := by
 intro k
 induction k with
 | zero => intro _ a ts r h; simp [pL] at h
 | succ k ih =>
  intro hE a ts r h hA ho
  have ih := ih (fun m hm => hE m (by omega))
  have hE := hE k (by omega)
  have et0 := f_accept0 (n := n) [42] hA
  rw [isA_sym ho (by decide)] at et0
  have et1 := f_accept0 (n := n) [47] hA
  rw [isA_sym ho (by decide)] at et1
  have et2 := f_accept0 (n := n) [37] hA
  rw [isA_sym ho (by decide)] at et2
  rw [pL_succ] at h
  by_cases hw0 : isSymT [42] ts = true
  ·have hA2 := hA.sym hw0
   have ho2 := okT.tail ho
   have hc : chainOp 6 ts = some 13 := by simp [chainOp, hw0]
   simp only [hw0, if_true] at et0
   rw [hc] at h
   simp only at h
   rcases bindO_some h with ⟨b, q, h1, h2⟩ | ⟨m, e, h1, h2⟩
   ·obtain ⟨b', eb, hb, _⟩ := hE _ _ h1 hA2 ho2
    obtain rfl := hb b q rfl
    obtain ⟨c', hc', run⟩ := ih (two 13 a b') q r h2 ((p_at k).1 _ _ _ _ h1 hA2) (okT.p ho2 h1)
    refine ⟨c', hc', ?_⟩
    have e2 := fun h => f_two 13 a b' h
    obtain ⟨op, num, text, args⟩ := a
    obtain ⟨op2, num2, text2, args2⟩ := b'
    simp only [resH] at eb
    simp only [two, exprC, exprVs, exprV] at run e2 eb ⊢
    unfold billingref24_Reader_product_l1b
    generalize ts.tail = tl at *
    simp [go_sem, et0, eb, e2]
    exact run
   ·subst h2
    obtain ⟨b', eb, _, hb⟩ := hE _ _ h1 hA2 ho2
    obtain ⟨he, us, hu, hul⟩ := hb m e rfl
    subst hul
    refine ⟨two 13 a b', (fun c q hh => by cases hh), ?_⟩
    have run := product_lE (n := n) (two 13 a b') e he us hu
    have e2 := fun h => f_two 13 a b' h
    obtain ⟨op, num, text, args⟩ := a
    obtain ⟨op2, num2, text2, args2⟩ := b'
    simp only [resH] at eb ⊢
    simp only [two, exprC, exprVs, exprV] at run e2 eb ⊢
    unfold billingref24_Reader_product_l1b
    generalize ts.tail = tl at *
    simp [go_sem, et0, eb, e2]
    exact run
  have hw0 : isSymT [42] ts = false := by simpa using hw0
  simp [hw0] at et0
  by_cases hw1 : isSymT [47] ts = true
  ·have hA2 := hA.sym hw1
   have ho2 := okT.tail ho
   have hc : chainOp 6 ts = some 14 := by simp [chainOp, hw0, hw1]
   simp only [hw1, if_true] at et1
   rw [hc] at h
   simp only at h
   rcases bindO_some h with ⟨b, q, h1, h2⟩ | ⟨m, e, h1, h2⟩
   ·obtain ⟨b', eb, hb, _⟩ := hE _ _ h1 hA2 ho2
    obtain rfl := hb b q rfl
    obtain ⟨c', hc', run⟩ := ih (two 14 a b') q r h2 ((p_at k).1 _ _ _ _ h1 hA2) (okT.p ho2 h1)
    refine ⟨c', hc', ?_⟩
    have e2 := fun h => f_two 14 a b' h
    obtain ⟨op, num, text, args⟩ := a
    obtain ⟨op2, num2, text2, args2⟩ := b'
    simp only [resH] at eb
    simp only [two, exprC, exprVs, exprV] at run e2 eb ⊢
    unfold billingref24_Reader_product_l1b
    generalize ts.tail = tl at *
    simp [go_sem, et0, et1, eb, e2]
    exact run
   ·subst h2
    obtain ⟨b', eb, _, hb⟩ := hE _ _ h1 hA2 ho2
    obtain ⟨he, us, hu, hul⟩ := hb m e rfl
    subst hul
    refine ⟨two 14 a b', (fun c q hh => by cases hh), ?_⟩
    have run := product_lE (n := n) (two 14 a b') e he us hu
    have e2 := fun h => f_two 14 a b' h
    obtain ⟨op, num, text, args⟩ := a
    obtain ⟨op2, num2, text2, args2⟩ := b'
    simp only [resH] at eb ⊢
    simp only [two, exprC, exprVs, exprV] at run e2 eb ⊢
    unfold billingref24_Reader_product_l1b
    generalize ts.tail = tl at *
    simp [go_sem, et0, et1, eb, e2]
    exact run
  have hw1 : isSymT [47] ts = false := by simpa using hw1
  simp [hw1] at et1
  by_cases hw2 : isSymT [37] ts = true
  ·have hA2 := hA.sym hw2
   have ho2 := okT.tail ho
   have hc : chainOp 6 ts = some 15 := by simp [chainOp, hw0, hw1, hw2]
   simp only [hw2, if_true] at et2
   rw [hc] at h
   simp only at h
   rcases bindO_some h with ⟨b, q, h1, h2⟩ | ⟨m, e, h1, h2⟩
   ·obtain ⟨b', eb, hb, _⟩ := hE _ _ h1 hA2 ho2
    obtain rfl := hb b q rfl
    obtain ⟨c', hc', run⟩ := ih (two 15 a b') q r h2 ((p_at k).1 _ _ _ _ h1 hA2) (okT.p ho2 h1)
    refine ⟨c', hc', ?_⟩
    have e2 := fun h => f_two 15 a b' h
    obtain ⟨op, num, text, args⟩ := a
    obtain ⟨op2, num2, text2, args2⟩ := b'
    simp only [resH] at eb
    simp only [two, exprC, exprVs, exprV] at run e2 eb ⊢
    unfold billingref24_Reader_product_l1b
    generalize ts.tail = tl at *
    simp [go_sem, et0, et1, et2, eb, e2]
    exact run
   ·subst h2
    obtain ⟨b', eb, _, hb⟩ := hE _ _ h1 hA2 ho2
    obtain ⟨he, us, hu, hul⟩ := hb m e rfl
    subst hul
    refine ⟨two 15 a b', (fun c q hh => by cases hh), ?_⟩
    have run := product_lE (n := n) (two 15 a b') e he us hu
    have e2 := fun h => f_two 15 a b' h
    obtain ⟨op, num, text, args⟩ := a
    obtain ⟨op2, num2, text2, args2⟩ := b'
    simp only [resH] at eb ⊢
    simp only [two, exprC, exprVs, exprV] at run e2 eb ⊢
    unfold billingref24_Reader_product_l1b
    generalize ts.tail = tl at *
    simp [go_sem, et0, et1, et2, eb, e2]
    exact run
  have hw2 : isSymT [37] ts = false := by simpa using hw2
  simp [hw2] at et2
  have hc : chainOp 6 ts = none := by simp [chainOp, hw0, hw1, hw2]
  rw [hc] at h
  simp only [Option.some.injEq] at h
  subst h
  refine ⟨a, (fun c q hh => by cases hh; rfl), ?_⟩
  obtain ⟨op, num, text, args⟩ := a
  simp only [exprC, resH]
  unfold billingref24_Reader_product_l1b
  simp [go_sem, et0, et1, et2, exprV]
theorem product_fR (k : Nat) (hE : ∀ m, m ≤ k → EqR n L n_billingref24_Reader_primary 7 m) : EqR n L n_billingref24_Reader_product 6 (k + 1) := by
 intro ts r h hA ho
 have hpe := fun m e (hr : r = .err m e) => p_err (k + 1) 6 ts m e (hr ▸ h) hA
 rw [pE_succ, if_neg (by decide), if_neg (by decide), if_neg (by decide)] at h
 rcases bindO_some h with ⟨a, q, h1, h2⟩ | ⟨m, e, h1, h2⟩
 ·obtain ⟨a', ea, ha, _⟩ := hE k (Nat.le_refl k) ts _ h1 hA ho
  obtain rfl := ha a q rfl
  obtain ⟨b, hb, run⟩ := product_lR k (fun m hm => hE m (by omega)) a' q r h2 ((p_at k).1 _ _ _ _ h1 hA) (okT.p ho h1)
  refine ⟨b, acall_fn rfl (af := a_billingref24_Reader_product) rfl rfl ?_, hb, hpe⟩
  obtain ⟨op, num, text, args⟩ := a'
  simp only [exprC] at run
  simp only [resH, exprV] at ea
  simp [List.replicate, go_sem, ea]
  exact run
 ·subst h2
  obtain ⟨a', ea, _, ha⟩ := hE k (Nat.le_refl k) ts _ h1 hA ho
  obtain ⟨he, us, hu, hul⟩ := ha m e rfl
  subst hul
  have run := product_lE (n := n) a' e he us hu
  refine ⟨a', acall_fn rfl (af := a_billingref24_Reader_product) rfl rfl ?_, (fun c q hh => by cases hh), hpe⟩
  obtain ⟨op, num, text, args⟩ := a'
  simp only [exprC, exprV] at run
  simp only [resH, exprV] at ea ⊢
  simp [List.replicate, go_sem, ea]
  exact run
theorem product_fE (hS : ErrR n L n_billingref24_Reader_primary) : ErrR n L n_billingref24_Reader_product := by
 intro e us he hA
 obtain ⟨a', ea⟩ := hS e us he hA
 have run := product_lE (n := n) a' e he us hA
 refine ⟨a', acall_fn rfl (af := a_billingref24_Reader_product) rfl rfl ?_⟩
 obtain ⟨op, num, text, args⟩ := a'
 simp only [exprC, exprV] at run ea ⊢
 simp [List.replicate, go_sem, ea]
 exact run
end
end Go.Am
namespace Go.Am
open Go Go.Pu
section
variable {n : Nat} {L : List (Tk × Nat)}
theorem resH_take {α : Type} (r : PR α) : List.take 1 (resH n L r) = resH n L r := by cases r <;> rfl
theorem compared_fE (hS : ErrR n L n_billingref24_Reader_sum) : ErrR n L n_billingref24_Reader_compared := by
 intro e us he hA
 obtain ⟨a', ea⟩ := hS e us he hA
 have et0 := f_acceptE (n := n) [61] e he hA
 have et1 := f_acceptE (n := n) [60, 62] e he hA
 have et2 := f_acceptE (n := n) [60] e he hA
 have et3 := f_acceptE (n := n) [60, 61] e he hA
 have et4 := f_acceptE (n := n) [62] e he hA
 have et5 := f_acceptE (n := n) [62, 61] e he hA
 refine ⟨a', acall_fn rfl (af := a_billingref24_Reader_compared) rfl rfl ?_⟩
 obtain ⟨op, num, text, args⟩ := a'
 simp only [exprV] at ea ⊢
 simp [List.replicate, go_sem, ea, et0, et1, et2, et3, et4, et5]
theorem compared_fR (k : Nat) (hE : EqR n L n_billingref24_Reader_sum 5 k) : EqR n L n_billingref24_Reader_compared 4 (k + 1) := by
 intro ts r h hA ho
 have hpe := fun m e (hr : r = .err m e) => p_err (k + 1) 4 ts m e (hr ▸ h) hA
 rw [pE_succ, if_neg (by decide), if_pos rfl] at h
 rcases bindO_some h with ⟨a, q, h1, h2⟩ | ⟨m, e, h1, h2⟩
 ·obtain ⟨a', ea, ha, _⟩ := hE ts _ h1 hA ho
  obtain rfl := ha a q rfl
  have hq := (p_at k).1 _ _ _ _ h1 hA
  have hoq := okT.p ho h1
  simp only [resH] at ea
  have et0 := f_accept0 (n := n) [61] hq
  rw [isA_sym hoq (by decide)] at et0
  have et1 := f_accept0 (n := n) [60, 62] hq
  rw [isA_sym hoq (by decide)] at et1
  have et2 := f_accept0 (n := n) [60] hq
  rw [isA_sym hoq (by decide)] at et2
  have et3 := f_accept0 (n := n) [60, 61] hq
  rw [isA_sym hoq (by decide)] at et3
  have et4 := f_accept0 (n := n) [62] hq
  rw [isA_sym hoq (by decide)] at et4
  have et5 := f_accept0 (n := n) [62, 61] hq
  rw [isA_sym hoq (by decide)] at et5
  by_cases hw0 : isSymT [61] q = true
  ·have hc : cmpOp q = some (7, false) := by simp [cmpOp, hw0]
   have hA2 := hq.sym hw0
   have ho2 := okT.tail hoq
   simp only [hw0, if_true] at et0
   rw [hc] at h2
   simp only at h2
   rcases bindO_some h2 with ⟨b, q', h3, h4⟩ | ⟨m, e, h3, h4⟩
   ·obtain ⟨b', eb, hb, _⟩ := hE _ _ h3 hA2 ho2
    obtain rfl := hb b q' rfl
    simp only [Option.some.injEq] at h4
    subst h4
    refine ⟨two 7 a' b', acall_fn rfl (af := a_billingref24_Reader_compared) rfl rfl ?_, (fun c q hh => by cases hh; rfl), hpe⟩
    have e2 := fun h => f_two 7 a' b' h
    obtain ⟨op, num, text, args⟩ := a'
    obtain ⟨op2, num2, text2, args2⟩ := b'
    simp only [resH] at eb ⊢
    simp only [two, exprV, exprVs] at ea eb e2 ⊢
    generalize q.tail = tl at *
    simp [List.replicate, go_sem, ea, et0, eb, e2]
   ·subst h4
    obtain ⟨b', eb, _, _⟩ := hE _ _ h3 hA2 ho2
    refine ⟨two 7 a' b', acall_fn rfl (af := a_billingref24_Reader_compared) rfl rfl ?_, (fun c q hh => by cases hh), hpe⟩
    have e2 := fun h => f_two 7 a' b' h
    obtain ⟨op, num, text, args⟩ := a'
    obtain ⟨op2, num2, text2, args2⟩ := b'
    simp only [resH] at eb ⊢
    simp only [two, exprV, exprVs] at ea eb e2 ⊢
    generalize q.tail = tl at *
    simp [List.replicate, go_sem, ea, et0, eb, e2]
  have hw0 : isSymT [61] q = false := by simpa using hw0
  simp [hw0] at et0
  by_cases hw1 : isSymT [60, 62] q = true
  ·have hc : cmpOp q = some (8, false) := by simp [cmpOp, hw0, hw1]
   have hA2 := hq.sym hw1
   have ho2 := okT.tail hoq
   simp only [hw1, if_true] at et1
   rw [hc] at h2
   simp only at h2
   rcases bindO_some h2 with ⟨b, q', h3, h4⟩ | ⟨m, e, h3, h4⟩
   ·obtain ⟨b', eb, hb, _⟩ := hE _ _ h3 hA2 ho2
    obtain rfl := hb b q' rfl
    simp only [Option.some.injEq] at h4
    subst h4
    refine ⟨two 8 a' b', acall_fn rfl (af := a_billingref24_Reader_compared) rfl rfl ?_, (fun c q hh => by cases hh; rfl), hpe⟩
    have e2 := fun h => f_two 8 a' b' h
    obtain ⟨op, num, text, args⟩ := a'
    obtain ⟨op2, num2, text2, args2⟩ := b'
    simp only [resH] at eb ⊢
    simp only [two, exprV, exprVs] at ea eb e2 ⊢
    generalize q.tail = tl at *
    simp [List.replicate, go_sem, ea, et0, et1, eb, e2]
   ·subst h4
    obtain ⟨b', eb, _, _⟩ := hE _ _ h3 hA2 ho2
    refine ⟨two 8 a' b', acall_fn rfl (af := a_billingref24_Reader_compared) rfl rfl ?_, (fun c q hh => by cases hh), hpe⟩
    have e2 := fun h => f_two 8 a' b' h
    obtain ⟨op, num, text, args⟩ := a'
    obtain ⟨op2, num2, text2, args2⟩ := b'
    simp only [resH] at eb ⊢
    simp only [two, exprV, exprVs] at ea eb e2 ⊢
    generalize q.tail = tl at *
    simp [List.replicate, go_sem, ea, et0, et1, eb, e2]
  have hw1 : isSymT [60, 62] q = false := by simpa using hw1
  simp [hw1] at et1
  by_cases hw2 : isSymT [60] q = true
  ·have hc : cmpOp q = some (9, false) := by simp [cmpOp, hw0, hw1, hw2]
   have hA2 := hq.sym hw2
   have ho2 := okT.tail hoq
   simp only [hw2, if_true] at et2
   rw [hc] at h2
   simp only at h2
   rcases bindO_some h2 with ⟨b, q', h3, h4⟩ | ⟨m, e, h3, h4⟩
   ·obtain ⟨b', eb, hb, _⟩ := hE _ _ h3 hA2 ho2
    obtain rfl := hb b q' rfl
    simp only [Option.some.injEq] at h4
    subst h4
    refine ⟨two 9 a' b', acall_fn rfl (af := a_billingref24_Reader_compared) rfl rfl ?_, (fun c q hh => by cases hh; rfl), hpe⟩
    have e2 := fun h => f_two 9 a' b' h
    obtain ⟨op, num, text, args⟩ := a'
    obtain ⟨op2, num2, text2, args2⟩ := b'
    simp only [resH] at eb ⊢
    simp only [two, exprV, exprVs] at ea eb e2 ⊢
    generalize q.tail = tl at *
    simp [List.replicate, go_sem, ea, et0, et1, et2, eb, e2]
   ·subst h4
    obtain ⟨b', eb, _, _⟩ := hE _ _ h3 hA2 ho2
    refine ⟨two 9 a' b', acall_fn rfl (af := a_billingref24_Reader_compared) rfl rfl ?_, (fun c q hh => by cases hh), hpe⟩
    have e2 := fun h => f_two 9 a' b' h
    obtain ⟨op, num, text, args⟩ := a'
    obtain ⟨op2, num2, text2, args2⟩ := b'
    simp only [resH] at eb ⊢
    simp only [two, exprV, exprVs] at ea eb e2 ⊢
    generalize q.tail = tl at *
    simp [List.replicate, go_sem, ea, et0, et1, et2, eb, e2]
  have hw2 : isSymT [60] q = false := by simpa using hw2
  simp [hw2] at et2
  by_cases hw3 : isSymT [60, 61] q = true
  ·have hc : cmpOp q = some (10, false) := by simp [cmpOp, hw0, hw1, hw2, hw3]
   have hA2 := hq.sym hw3
   have ho2 := okT.tail hoq
   simp only [hw3, if_true] at et3
   rw [hc] at h2
   simp only at h2
   rcases bindO_some h2 with ⟨b, q', h3, h4⟩ | ⟨m, e, h3, h4⟩
   ·obtain ⟨b', eb, hb, _⟩ := hE _ _ h3 hA2 ho2
    obtain rfl := hb b q' rfl
    simp only [Option.some.injEq] at h4
    subst h4
    refine ⟨two 10 a' b', acall_fn rfl (af := a_billingref24_Reader_compared) rfl rfl ?_, (fun c q hh => by cases hh; rfl), hpe⟩
    have e2 := fun h => f_two 10 a' b' h
    obtain ⟨op, num, text, args⟩ := a'
    obtain ⟨op2, num2, text2, args2⟩ := b'
    simp only [resH] at eb ⊢
    simp only [two, exprV, exprVs] at ea eb e2 ⊢
    generalize q.tail = tl at *
    simp [List.replicate, go_sem, ea, et0, et1, et2, et3, eb, e2]
   ·subst h4
    obtain ⟨b', eb, _, _⟩ := hE _ _ h3 hA2 ho2
    refine ⟨two 10 a' b', acall_fn rfl (af := a_billingref24_Reader_compared) rfl rfl ?_, (fun c q hh => by cases hh), hpe⟩
    have e2 := fun h => f_two 10 a' b' h
    obtain ⟨op, num, text, args⟩ := a'
    obtain ⟨op2, num2, text2, args2⟩ := b'
    simp only [resH] at eb ⊢
    simp only [two, exprV, exprVs] at ea eb e2 ⊢
    generalize q.tail = tl at *
    simp [List.replicate, go_sem, ea, et0, et1, et2, et3, eb, e2]
  have hw3 : isSymT [60, 61] q = false := by simpa using hw3
  simp [hw3] at et3
  by_cases hw4 : isSymT [62] q = true
  ·have hc : cmpOp q = some (9, true) := by simp [cmpOp, hw0, hw1, hw2, hw3, hw4]
   have hA2 := hq.sym hw4
   have ho2 := okT.tail hoq
   simp only [hw4, if_true] at et4
   rw [hc] at h2
   simp only at h2
   rcases bindO_some h2 with ⟨b, q', h3, h4⟩ | ⟨m, e, h3, h4⟩
   ·obtain ⟨b', eb, hb, _⟩ := hE _ _ h3 hA2 ho2
    obtain rfl := hb b q' rfl
    simp only [Option.some.injEq] at h4
    subst h4
    refine ⟨two 9 b' a', acall_fn rfl (af := a_billingref24_Reader_compared) rfl rfl ?_, (fun c q hh => by cases hh; rfl), hpe⟩
    have e2 := fun h => f_two 9 b' a' h
    obtain ⟨op, num, text, args⟩ := a'
    obtain ⟨op2, num2, text2, args2⟩ := b'
    simp only [resH] at eb ⊢
    simp only [two, exprV, exprVs] at ea eb e2 ⊢
    generalize q.tail = tl at *
    simp [List.replicate, go_sem, ea, et0, et1, et2, et3, et4, eb, e2]
   ·subst h4
    obtain ⟨b', eb, _, _⟩ := hE _ _ h3 hA2 ho2
    refine ⟨two 9 b' a', acall_fn rfl (af := a_billingref24_Reader_compared) rfl rfl ?_, (fun c q hh => by cases hh), hpe⟩
    have e2 := fun h => f_two 9 b' a' h
    obtain ⟨op, num, text, args⟩ := a'
    obtain ⟨op2, num2, text2, args2⟩ := b'
    simp only [resH] at eb ⊢
    simp only [two, exprV, exprVs] at ea eb e2 ⊢
    generalize q.tail = tl at *
    simp [List.replicate, go_sem, ea, et0, et1, et2, et3, et4, eb, e2]
  have hw4 : isSymT [62] q = false := by simpa using hw4
  simp [hw4] at et4
  by_cases hw5 : isSymT [62, 61] q = true
  ·have hc : cmpOp q = some (10, true) := by simp [cmpOp, hw0, hw1, hw2, hw3, hw4, hw5]
   have hA2 := hq.sym hw5
   have ho2 := okT.tail hoq
   simp only [hw5, if_true] at et5
   rw [hc] at h2
   simp only at h2
   rcases bindO_some h2 with ⟨b, q', h3, h4⟩ | ⟨m, e, h3, h4⟩
   ·obtain ⟨b', eb, hb, _⟩ := hE _ _ h3 hA2 ho2
    obtain rfl := hb b q' rfl
    simp only [Option.some.injEq] at h4
    subst h4
    refine ⟨two 10 b' a', acall_fn rfl (af := a_billingref24_Reader_compared) rfl rfl ?_, (fun c q hh => by cases hh; rfl), hpe⟩
    have e2 := fun h => f_two 10 b' a' h
    obtain ⟨op, num, text, args⟩ := a'
    obtain ⟨op2, num2, text2, args2⟩ := b'
    simp only [resH] at eb ⊢
    simp only [two, exprV, exprVs] at ea eb e2 ⊢
    generalize q.tail = tl at *
    simp [List.replicate, go_sem, ea, et0, et1, et2, et3, et4, et5, eb, e2]
   ·subst h4
    obtain ⟨b', eb, _, _⟩ := hE _ _ h3 hA2 ho2
    refine ⟨two 10 b' a', acall_fn rfl (af := a_billingref24_Reader_compared) rfl rfl ?_, (fun c q hh => by cases hh), hpe⟩
    have e2 := fun h => f_two 10 b' a' h
    obtain ⟨op, num, text, args⟩ := a'
    obtain ⟨op2, num2, text2, args2⟩ := b'
    simp only [resH] at eb ⊢
    simp only [two, exprV, exprVs] at ea eb e2 ⊢
    generalize q.tail = tl at *
    simp [List.replicate, go_sem, ea, et0, et1, et2, et3, et4, et5, eb, e2]
  have hw5 : isSymT [62, 61] q = false := by simpa using hw5
  simp [hw5] at et5
  have hc : cmpOp q = none := by simp [cmpOp, hw0, hw1, hw2, hw3, hw4, hw5]
  rw [hc] at h2
  simp only [Option.some.injEq] at h2
  subst h2
  refine ⟨a', acall_fn rfl (af := a_billingref24_Reader_compared) rfl rfl ?_, (fun c q hh => by cases hh; rfl), hpe⟩
  obtain ⟨op, num, text, args⟩ := a'
  simp only [resH, exprV] at ea ⊢
  simp [List.replicate, go_sem, ea, et0, et1, et2, et3, et4, et5]
 ·subst h2
  obtain ⟨a', ea, _, ha⟩ := hE ts _ h1 hA ho
  obtain ⟨he, us, hu, hul⟩ := ha m e rfl
  subst hul
  have et0 := f_acceptE (n := n) [61] e he hu
  have et1 := f_acceptE (n := n) [60, 62] e he hu
  have et2 := f_acceptE (n := n) [60] e he hu
  have et3 := f_acceptE (n := n) [60, 61] e he hu
  have et4 := f_acceptE (n := n) [62] e he hu
  have et5 := f_acceptE (n := n) [62, 61] e he hu
  refine ⟨a', acall_fn rfl (af := a_billingref24_Reader_compared) rfl rfl ?_, (fun c q hh => by cases hh), hpe⟩
  obtain ⟨op, num, text, args⟩ := a'
  simp only [resH, exprV] at ea ⊢
  simp [List.replicate, go_sem, ea, et0, et1, et2, et3, et4, et5]
theorem negated_fE (hS : ErrR n L n_billingref24_Reader_compared) : ErrR n L n_billingref24_Reader_negated := by
 intro e us he hA
 obtain ⟨a', ea⟩ := hS e us he hA
 have et := f_acceptE (n := n) [110, 111, 116] e he hA
 refine ⟨a', acall_fn rfl (af := a_billingref24_Reader_negated) rfl rfl ?_⟩
 obtain ⟨op, num, text, args⟩ := a'
 simp only [exprV] at ea ⊢
 simp [List.replicate, go_sem, ea, et]
theorem negated_fR (k : Nat) (hN : EqR n L n_billingref24_Reader_negated 3 k) (hE : EqR n L n_billingref24_Reader_compared 4 k) : EqR n L n_billingref24_Reader_negated 3 (k + 1) := by
 intro ts r h hA ho
 have hpe := fun m e (hr : r = .err m e) => p_err (k + 1) 3 ts m e (hr ▸ h) hA
 have et := f_accept0 (n := n) [110, 111, 116] hA
 rw [isA_word ho (by decide)] at et
 rw [pE_succ, if_pos rfl] at h
 by_cases hw : isWord kNot ts = true
 ·have hA2 := hA.word hw
  have ho2 := okT.tail ho
  rw [if_pos hw] at h
  simp only [kNot] at hw
  simp only [hw, if_true] at et
  rcases bindO_some h with ⟨b, q, h1, h2⟩ | ⟨m, e, h1, h2⟩
  ·obtain ⟨b', eb, hb, _⟩ := hN _ _ h1 hA2 ho2
   obtain rfl := hb b q rfl
   simp only [Option.some.injEq] at h2
   subst h2
   refine ⟨neg b', acall_fn rfl (af := a_billingref24_Reader_negated) rfl rfl ?_, (fun c q hh => by cases hh; rfl), hpe⟩
   obtain ⟨op, num, text, args⟩ := b'
   simp only [resH] at eb ⊢
   simp only [neg, exprV, exprVs] at eb ⊢
   generalize ts.tail = tl at *
   simp [List.replicate, go_sem, et, eb]
  ·subst h2
   obtain ⟨b', eb, _, _⟩ := hN _ _ h1 hA2 ho2
   refine ⟨neg b', acall_fn rfl (af := a_billingref24_Reader_negated) rfl rfl ?_, (fun c q hh => by cases hh), hpe⟩
   obtain ⟨op, num, text, args⟩ := b'
   simp only [resH] at eb ⊢
   simp only [neg, exprV, exprVs] at eb ⊢
   generalize ts.tail = tl at *
   simp [List.replicate, go_sem, et, eb]
 ·have hw : isWord kNot ts = false := by simpa using hw
  rw [hw, if_neg (by decide)] at h
  simp only [kNot] at hw
  simp [hw] at et
  obtain ⟨a', ea, ha, _⟩ := hE _ _ h hA ho
  refine ⟨a', acall_fn rfl (af := a_billingref24_Reader_negated) rfl rfl ?_, ha, hpe⟩
  obtain ⟨op, num, text, args⟩ := a'
  simp only [exprV] at ea ⊢
  simp [List.replicate, go_sem, et, ea, resH_take]
def pe0 : PE := .mk 0 0 [] []
theorem primary_fE : ErrR n L n_billingref24_Reader_primary := by
 intro e us he hA
 obtain ⟨t, us, rfl⟩ := ends_ne hA.2.1
 have e1 := f_now (n := n) e hA
 have he' : ¬ (e : Int) = 0 := by omega
 refine ⟨pe0, acall_fn rfl (af := a_billingref24_Reader_primary) rfl rfl ?_⟩
 simp only [hf, tokV] at e1 ⊢
 simp [List.replicate, go_sem, e1, nt' he', pe0, exprV, exprVs]
theorem primary_fR (k : Nat) (hE : EqR n L n_billingref24_Reader_expr 1 k) (hS : ErrR n L n_billingref24_Reader_expr) : EqR n L n_billingref24_Reader_primary 7 (k + 1) := by
 intro ts r h hA ho
 have hpe := fun m e (hr : r = .err m e) => p_err (k + 1) 7 ts m e (hr ▸ h) hA
 obtain ⟨t, ts, rfl⟩ := ends_ne hA.2.1
 have ep := f_now (n := n) 0 hA
 have epl := f_plain0 (n := n) hA
 have e40 := f_expect0 (n := n) [40] hA
 rw [isA_sym ho (by decide)] at e40
 rw [pE_succ, if_neg (by decide), if_neg (by decide), if_pos rfl] at h
 have par : (if isSymT [40] (t :: ts) then bindO (pE k 1 ts) fun a r => (if isSymT [41] r then some (.ok a r.tail) else some (failT r 1)) else some (failT (t :: ts) 1)) = some r → (t.kind ≠ 1 ∧ t.kind ≠ 2 ∧ t.kind ≠ 3) →
   ∃ a, Run mach0 (It.c a_billingref24_Reader_primary.body :: []) .norm ⟨[V.ptr 0 0] ++ List.replicate (53 - [V.ptr 0 0].length) .undef, hf n L (t :: ts).length 0⟩ (FinQ [.cell 2 (some 4)] 1 (.ret (exprV a) (resH n L r))) ∧ (∀ b q, r = .ok b q → a = b) := by
  intro h hk
  have k1 : ¬ (t.kind : Int) = 1 := by omega
  have k2 : ¬ (t.kind : Int) = 2 := by omega
  have k3 : ¬ (t.kind : Int) = 3 := by omega
  have k1n : decide (t.kind = 1) = false := by simp [hk.1]
  rw [k1n] at epl
  simp only [tokV] at ep
  simp at epl
  by_cases hw : isSymT [40] (t :: ts) = true
  ·have hA2 := hA.sym hw
   have ho2 := okT.tail ho
   simp only [List.tail_cons] at hA2 ho2
   rw [if_pos hw] at h e40
   simp only [List.tail_cons, List.length_cons] at e40
   rcases bindO_some h with ⟨a, q, h1, h2⟩ | ⟨m, e, h1, h2⟩
   ·obtain ⟨a', ea, ha, _⟩ := hE _ _ h1 hA2 ho2
    obtain rfl := ha a q rfl
    have hq := (p_at k).1 _ _ _ _ h1 hA2
    have hoq := okT.p ho2 h1
    have e41 := f_expect0 (n := n) [41] hq
    rw [isA_sym hoq (by decide)] at e41
    refine ⟨a', ?_, ?_⟩
    ·obtain ⟨op, num, text, args⟩ := a'
     simp only [resH, exprV] at ea ⊢
     by_cases hw2 : isSymT [41] q = true
     ·rw [if_pos hw2] at h2 e41
      simp only [Option.some.injEq] at h2
      subst h2
      simp only
      generalize q.tail = tl at *
      simp [a_billingref24_Reader_primary, List.replicate, go_sem, ep, bf' k1, bf' k2, bf' k3, epl, e40, ea, e41]
     ·rw [if_neg hw2] at h2 e41
      simp only [Option.some.injEq] at h2
      subst h2
      simp only [failT]
      simp [a_billingref24_Reader_primary, List.replicate, go_sem, ep, bf' k1, bf' k2, bf' k3, epl, e40, ea, e41]
    ·intro b q' hr
     subst hr
     split at h2
     ·cases h2; rfl
     ·cases h2
   ·subst h2
    obtain ⟨a', ea, _, ha⟩ := hE _ _ h1 hA2 ho2
    obtain ⟨he, us, hu, hul⟩ := ha m e rfl
    subst hul
    have e41 := f_expectE (n := n) [41] e he hu
    refine ⟨a', ?_, (fun c q hh => by cases hh)⟩
    obtain ⟨op, num, text, args⟩ := a'
    simp only [resH, exprV] at ea ⊢
    simp [a_billingref24_Reader_primary, List.replicate, go_sem, ep, bf' k1, bf' k2, bf' k3, epl, e40, ea, e41]
  ·rw [if_neg hw] at h e40
   simp only [Option.some.injEq] at h
   subst h
   obtain ⟨a', ea⟩ := hS 1 (t :: ts) (by decide) hA
   have e41 := f_expectE (n := n) [41] 1 (by decide) hA
   refine ⟨a', ?_, (fun c q hh => by cases hh)⟩
   obtain ⟨op, num, text, args⟩ := a'
   simp only [failT, resH, exprV] at ea ⊢
   simp at e40 ea e41
   simp [a_billingref24_Reader_primary, List.replicate, go_sem, ep, bf' k1, bf' k2, bf' k3, epl, e40, ea, e41]
 cases t with
 | num d =>
  have en := f_number0 (n := n) hA (ho _ (by simp))
  simp only [numberT] at en
  simp only [tokV, Tk.kind, Tk.val, Tk.str] at ep en
  simp only at h
  by_cases hn : numB d = true
  ·rw [if_pos hn] at h en
   simp only [Option.some.injEq] at h
   subst h
   refine ⟨_, acall_fn rfl (af := a_billingref24_Reader_primary) rfl rfl ?_, (fun c q hh => by cases hh; rfl), hpe⟩
   simp at ep en
   simp [List.replicate, go_sem, ep, en, resH, exprV, exprVs]
  ·rw [if_neg hn] at h en
   simp only [Option.some.injEq] at h
   subst h
   refine ⟨.mk 1 0 [] [], acall_fn rfl (af := a_billingref24_Reader_primary) rfl rfl ?_, (fun c q hh => by cases hh), hpe⟩
   simp only [failT] at en
   simp at ep en
   simp [List.replicate, go_sem, ep, en, resH, failT, exprV, exprVs]
 | text s =>
  have en := f_next0 (n := n) hA (by simp)
  simp only [tokV, Tk.kind, Tk.val, Tk.str] at ep en
  simp only [Option.some.injEq] at h
  subst h
  refine ⟨_, acall_fn rfl (af := a_billingref24_Reader_primary) rfl rfl ?_, (fun c q hh => by cases hh; rfl), hpe⟩
  simp at ep en
  simp [List.replicate, go_sem, ep, en, resH, exprV, exprVs]
 | word w =>
  have en := f_next0 (n := n) hA (by simp)
  have eP := e_Place true attrs w (by decide)
  have aP := attr_place w
  simp only [tokV, Tk.kind, Tk.val, Tk.str] at ep en epl
  simp only at h
  by_cases ha : isAttr w = true
  ·rw [if_pos ha] at h
   simp only [Option.some.injEq] at h
   subst h
   refine ⟨_, acall_fn rfl (af := a_billingref24_Reader_primary) rfl rfl ?_, (fun c q hh => by cases hh; rfl), hpe⟩
   rw [ha] at aP
   have aP' : 0 ≤ wplace attrs w := by simpa using aP
   simp at ep en epl
   cases hkw : isKw w <;> simp [hkw] at epl <;> simp [List.replicate, go_sem, ep, en, epl, e_Attributes, eP, aP', resH, exprV, exprVs]
  ·rw [if_neg ha] at h
   have ha : isAttr w = false := by simpa using ha
   rw [ha] at aP
   have aP' : ¬ 0 ≤ wplace attrs w := by simpa using aP
   have aP2 : wplace attrs w < 0 := by omega
   by_cases hw : isKw w = true
   ·rw [if_pos hw] at h
    simp only [Option.some.injEq] at h
    subst h
    have hw4 : isSymT [40] (.word w :: ts) = false := rfl
    rw [hw4] at e40
    obtain ⟨a', ea⟩ := hS 1 (.word w :: ts) (by decide) hA
    have e41 := f_expectE (n := n) [41] 1 (by decide) hA
    refine ⟨a', acall_fn rfl (af := a_billingref24_Reader_primary) rfl rfl ?_, (fun c q hh => by cases hh), hpe⟩
    obtain ⟨op, num, text, args⟩ := a'
    simp only [failT, resH, exprV] at ea e40 e41 ⊢
    simp [hw] at ep en epl e40 ea e41
    simp [List.replicate, go_sem, ep, epl, e_Attributes, eP, aP', aP2, e40, ea, e41]
   ·rw [if_neg hw] at h
    have hw : isKw w = false := by simpa using hw
    simp only [Option.some.injEq] at h
    subst h
    refine ⟨_, acall_fn rfl (af := a_billingref24_Reader_primary) rfl rfl ?_, (fun c q hh => by cases hh; rfl), hpe⟩
    simp [hw] at ep en epl
    simp [List.replicate, go_sem, ep, en, epl, resH, exprV, exprVs]
 | sym s =>
  obtain ⟨a, h1, h2⟩ := par h (by simp [Tk.kind])
  exact ⟨a, acall_fn rfl (af := a_billingref24_Reader_primary) rfl rfl h1, h2, hpe⟩
 | fin =>
  obtain ⟨a, h1, h2⟩ := par h (by simp [Tk.kind])
  exact ⟨a, acall_fn rfl (af := a_billingref24_Reader_primary) rfl rfl h1, h2, hpe⟩
theorem exprE : ErrR n L n_billingref24_Reader_expr := expr_fE (both_fE (negated_fE (compared_fE (sum_fE (product_fE primary_fE)))))
theorem refExpr_all (k : Nat) : EqR n L n_billingref24_Reader_expr 1 k ∧ EqR n L n_billingref24_Reader_both 2 k ∧ EqR n L n_billingref24_Reader_negated 3 k ∧ EqR n L n_billingref24_Reader_compared 4 k ∧ EqR n L n_billingref24_Reader_sum 5 k ∧ EqR n L n_billingref24_Reader_product 6 k ∧ EqR n L n_billingref24_Reader_primary 7 k := by
 induction k using Nat.strongRecOn with
 | _ k ih =>
  cases k with
  | zero => refine ⟨?_, ?_, ?_, ?_, ?_, ?_, ?_⟩ <;> (intro ts r h; simp [pE] at h)
  | succ k =>
   have ih := fun m (hm : m ≤ k) => ih m (by omega)
   refine ⟨expr_fR k fun m hm => (ih m hm).2.1, both_fR k fun m hm => (ih m hm).2.2.1, negated_fR k (ih k (by omega)).2.2.1 (ih k (by omega)).2.2.2.1, compared_fR k (ih k (by omega)).2.2.2.2.1, sum_fR k fun m hm => (ih m hm).2.2.2.2.2.1, product_fR k fun m hm => (ih m hm).2.2.2.2.2.2, primary_fR k (ih k (by omega)).1 exprE⟩
theorem f_expr {ts : List Tk} (hA : At L ts) (ho : okT ts) : ∃ a, acall mach0 n_billingref24_Reader_expr [.ptr 0 0] (hf n L ts.length 0) = some (.ret (exprV a) (resH n L (exprT ts))) ∧ (∀ b q, exprT ts = .ok b q → a = b) ∧ (∀ m e, exprT ts = .err m e → e ≠ 0 ∧ ∃ us, At L us ∧ us.length = m) :=
 (refExpr_all (10 * ts.length + 10)).1 ts _ (exprT_eq ts) hA ho
end
end Go.Am
namespace Go.Am
open Go Go.Pu
section
variable {n : Nat} {L : List (Tk × Nat)} {t : Tk} {ts : List Tk}
theorem f_end0 (h : At L ts) : acall mach0 n_billingref24_Reader_end [.ptr 0 0] (hf n L ts.length 0) = some (.ret (.tup []) (resH n L (endT ts))) := by
 obtain ⟨t, ts, rfl⟩ := ends_ne h.2.1
 refine acall_fn rfl (af := a_billingref24_Reader_end) rfl rfl ?_
 have e := f_now (n := n) 0 h
 have ef := f_fail0 (n := n) (L := L) (ts.length + 1) 1
 by_cases hk : t = .fin
 ·subst hk
  simp only [tokV] at e
  simp [Tk.kind] at e
  simp [List.replicate, go_sem, e, endT, resH]
 ·have hk' : ¬ (t.kind : Int) = 0 := by cases t <;> simp [Tk.kind] at hk ⊢
  have e3 : endT (t :: ts) = failT (t :: ts) 1 := by cases t <;> simp [endT] at hk ⊢
  rw [e3]
  simp only [tokV] at e
  simp at ef
  simp [List.replicate, go_sem, e, nt' hk', ef, resH, failT]
theorem f_endE (e : Nat) (he : e ≠ 0) (h : At L ts) : acall mach0 n_billingref24_Reader_end [.ptr 0 0] (hf n L ts.length e) = some (.ret (.tup []) (hf n L ts.length e)) := by
 obtain ⟨t, ts, rfl⟩ := ends_ne h.2.1
 refine acall_fn rfl (af := a_billingref24_Reader_end) rfl rfl ?_
 have e1 := f_now (n := n) e h
 have ef := f_failE (n := n) (L := L) (ts.length + 1) e 1 he
 simp only [tokV] at e1
 simp at ef
 by_cases hk : (t.kind : Int) = 0
 ·simp [List.replicate, go_sem, e1, nf' hk]
 ·simp [List.replicate, go_sem, e1, nt' hk, ef]
end
theorem toks_ok {L : List (Tk × Nat)} (h : Toks L) : okT (L.map (·.1)) := by
 induction h with
 | fin => intro t ht; simp at ht; exact .inr ht
 | cons t k ts ht hts ih =>
  intro u hu
  simp only [List.map_cons, List.mem_cons] at hu
  rcases hu with rfl | hu
  ·exact .inl ht
  ·exact ih u hu
end Go.Am
namespace Go.Am
open Go Go.Pu
inductive Nar : PE → Prop
 | mk (op num : Int) (text : Bs) (args : List PE) : args.length ≤ 1000000 → (∀ a ∈ args, Nar a) → Nar (.mk op num text args)
theorem exprVs_len : ∀ (l : List PE), (exprVs l).length = l.length
 | [] => rfl
 | a :: l => by simp [exprVs, exprVs_len l]
theorem nth_exprVs {a : PE} {l2 : List PE} : ∀ {l1 : List PE}, nth (exprVs (l1 ++ a :: l2)) l1.length = exprV a
 | [] => rfl
 | b :: l1 => by
  simp only [List.cons_append, exprVs, List.length_cons]
  exact nth_exprVs (l1 := l1)
theorem Same_l (op num : Int) (text : Bs) (args : List PE) (hn : args.length ≤ 1000000) (H : ∀ a ∈ args, acall mach0 n_billingref24_SameExpr [exprV a, exprV a] [] = some (.ret (.bool true) [])) :
    ∀ (l2 l1 : List PE), l1 ++ l2 = args →
    Run mach0 (.c billingref24_SameExpr_l1b :: .lp billingref24_SameExpr_l1 :: .endB 0 :: .c billingref24_SameExpr_k1 :: []) .norm
      ⟨(.undef :: .undef :: .rptr [.int .i64 op, .int .i64 num, .str text, .sl false 4 (exprVs args)] :: .rptr [.int .i64 op, .int .i64 num, .str text, .sl false 4 (exprVs args)] :: .undef :: .int .i64 l1.length :: .undef :: .undef :: .undef :: .undef :: .undef :: .undef :: .undef :: .undef :: .undef :: .undef :: .undef :: .undef :: .undef :: .undef :: .undef :: .undef :: .undef :: .undef :: .undef :: .undef :: .undef :: .undef :: .undef :: .undef :: .undef :: .undef :: .undef :: .undef :: .undef :: .undef :: .undef :: .undef :: .undef :: .undef :: .undef :: .undef :: .undef :: .undef :: .undef :: .undef :: .undef :: .undef :: .undef :: .undef :: .undef :: .undef :: .undef :: []), []⟩
      (FinQ [.tmp 4] 0 (.ret (.bool true) []))
  | [], l1, he => by
    have hl := exprVs_len args
    have q : ¬ ((l1.length : Int) < args.length) := by rw [← he]; simp
    unfold billingref24_SameExpr_l1b
    simp [go_sem, hl, q, billingref24_SameExpr_k1]
    simp [go_sem, billingref24_SameExpr_k1b]
  | a :: l2, l1, he => by
    have ih := Same_l op num text args hn H l2 (l1 ++ [a]) (by rw [← he]; simp)
    have hl := exprVs_len args
    have len : args.length = l1.length + (l2.length + 1) := by rw [← he]; simp
    have q : (l1.length : Int) < args.length := by omega
    have w : IntKind.wrap .i64 ((l1.length : Int) + 1) = l1.length + 1 := wrap_i64 (by omega)
    have hnth : nth (exprVs args) l1.length = exprV a := by rw [← he]; exact nth_exprVs
    have e := H a (by rw [← he]; simp)
    simp only [List.length_append, List.length_cons, List.length_nil, Nat.zero_add] at ih
    obtain ⟨op2, num2, text2, args2⟩ := a
    simp only [exprV] at hnth e
    unfold billingref24_SameExpr_l1b
    simp [go_sem, hl, q, hnth, e, w]
    simpa using ih
theorem e_SameExpr : ∀ a : PE, Nar a → acall mach0 n_billingref24_SameExpr [exprV a, exprV a] [] = some (.ret (.bool true) []) := by
 refine PE.ind ?_
 intro op num text args ih hN
 cases hN with
 | mk _ _ _ _ hn hN =>
  have run := Same_l op num text args hn (fun a ha => ih a ha (hN a ha)) args [] rfl
  refine acall_fn rfl (af := a_billingref24_SameExpr) rfl rfl ?_
  simp only [exprV]
  simp [List.replicate, go_sem]
  simpa using run
theorem Nar.two {op : Int} {a b : PE} (ha : Nar a) (hb : Nar b) : Nar (two op a b) := by
 refine .mk _ _ _ _ (by simp) ?_
 intro c hc
 simp at hc
 rcases hc with rfl | rfl <;> assumption
theorem Nar.neg {a : PE} (ha : Nar a) : Nar (neg a) := by
 refine .mk _ _ _ _ (by simp) ?_
 intro c hc
 simp at hc
 subst hc
 assumption
theorem Nar.leaf {op num : Int} {text : Bs} : Nar (.mk op num text []) := .mk _ _ _ _ (by simp) (by simp)
theorem p_nar : ∀ k, (∀ l ts a r, pE k l ts = some (.ok a r) → Nar a) ∧ (∀ l a ts b r, Nar a → pL k l a ts = some (.ok b r) → Nar b) := by
 intro k
 induction k with
 | zero => exact ⟨fun l ts a r h => by simp [pE] at h, fun l a ts b r _ h => by simp [pL] at h⟩
 | succ k ih =>
  obtain ⟨i1, i2⟩ := ih
  constructor
  ·intro l ts a r h
   rw [pE_succ] at h
   split at h
   ·split at h
    ·rcases bindO_some h with ⟨b, q, h1, h2⟩ | ⟨m, e, h1, h2⟩
     ·cases h2; exact (i1 _ _ _ _ h1).neg
     ·cases h2
    ·exact i1 _ _ _ _ h
   ·split at h
    ·rcases bindO_some h with ⟨b, q, h1, h2⟩ | ⟨m, e, h1, h2⟩
     ·have hq := i1 _ _ _ _ h1
      split at h2
      ·cases h2; exact hq
      ·rcases bindO_some h2 with ⟨c, q', h3, h4⟩ | ⟨m, e, h3, h4⟩
       ·have hc := i1 _ _ _ _ h3
        simp only [Option.some.injEq, PR.ok.injEq] at h4
        rw [← h4.1]
        split
        ·exact .two hc hq
        ·exact .two hq hc
       ·cases h4
     ·cases h2
    ·split at h
     ·split at h
      ·split at h
       ·cases h; exact .leaf
       ·cases h
      ·cases h; exact .leaf
      ·split at h
       ·cases h; exact .leaf
       ·split at h
        ·cases h
        ·cases h; exact .leaf
      ·split at h
       ·rcases bindO_some h with ⟨b, q, h1, h2⟩ | ⟨m, e, h1, h2⟩
        ·have hq := i1 _ _ _ _ h1
         split at h2
         ·cases h2; exact hq
         ·cases h2
        ·cases h2
       ·cases h
     ·rcases bindO_some h with ⟨b, q, h1, h2⟩ | ⟨m, e, h1, h2⟩
      ·exact i2 _ _ _ _ _ (i1 _ _ _ _ h1) h2
      ·cases h2
  ·intro l a ts b r ha h
   rw [pL_succ] at h
   split at h
   ·cases h; exact ha
   ·rcases bindO_some h with ⟨c, q, h1, h2⟩ | ⟨m, e, h1, h2⟩
    ·exact i2 _ _ _ _ _ (.two ha (i1 _ _ _ _ h1)) h2
    ·cases h2
theorem exprT_nar {ts r : List Tk} {a : PE} (h : exprT ts = .ok a r) : Nar a := by
 have := exprT_eq ts
 rw [h] at this
 exact (p_nar _).1 _ _ _ _ this
end Go.Am
