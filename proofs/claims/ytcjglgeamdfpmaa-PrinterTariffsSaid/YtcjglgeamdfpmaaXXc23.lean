/- The lexer's blanks. -/
import Derived.Test.YtcjglgeamdfpmaaXFt
import Derived.Test.YtcjglgeamdfpmaaXAmD
import Derived.Test.YtcjglgeamdfpmaaXXpure
import Derived.KernelRfl
set_option linter.unusedSimpArgs false
set_option linter.unnecessarySimpa false
set_option linter.unusedVariables false
namespace Go.Am
open Go Go.Pu
theorem nt' {a b : Int} (h : ¬ a = b) : (a != b) = true := by simpa using h
theorem nf' {a b : Int} (h : a = b) : (a != b) = false := by simpa using h
theorem bt' {a b : Int} (h : a = b) : (a == b) = true := beq_iff_eq.2 h
theorem bf' {a b : Int} (h : ¬ a = b) : (a == b) = false := by simpa using h
abbrev hq (x0 x1 x2 : List V) (s : List UInt8) (k : Nat) : Heap := [x0, x1, x2, [.str s, .int .i64 (k : Int)]]
abbrev kB (x0 x1 x2 : List V) (s : List UInt8) (k : Nat) : Ex → St → Prop := FinQ [] 4 (.ret (.tup []) (hq x0 x1 x2 s k))
end Go.Am
namespace Go.Am
open Go Go.Pu
def tokV (k n p : Int) (s : List UInt8) : V := .agg [.int .i64 k, .int .i64 n, .int .i64 p, .str s]
def failV (p e : Int) : V := .ifc 99 (.agg [.int .i64 p, .int .i64 e])
theorem get_mid {p r : List UInt8} {b : UInt8} : (p ++ b :: r)[p.length]?.getD 0 = b := by simp
def wordRt (x0 x1 x2 : List V) (s : List UInt8) (k : Nat) (w : List UInt8) : Rt :=
 if w.length > 24 then .pan (failV k 5) (hq x0 x1 x2 s (k + w.length)) else .ret (tokV 1 0 k w) (hq x0 x1 x2 s (k + w.length))
end Go.Am
namespace Go.Am
open Go Go.Pu
def numRt (x0 x1 x2 : List V) (s : List UInt8) (k : Nat) (w rest : List UInt8) : Rt :=
 if w.length > 16 then .pan (failV k 5) (hq x0 x1 x2 s (k + w.length)) else if headIs lowerB rest then .pan (failV k 1) (hq x0 x1 x2 s (k + w.length)) else .ret (tokV 2 (value w) k w) (hq x0 x1 x2 s (k + w.length))
end Go.Am
namespace Go.Am
open Go Go.Pu
def textRt (x0 x1 x2 : List V) (s : List UInt8) (k : Nat) (w : List UInt8) (rest : List UInt8) (rt : Rt) : Prop :=
 match rest with
 | [] => ∃ j, rt = .pan (failV k 1) (hq x0 x1 x2 s j)
 | c :: _ => if c.toNat = 34 then (if w.length > 200 then ∃ j, rt = .pan (failV k 5) (hq x0 x1 x2 s j) else rt = .ret (tokV 3 0 k w) (hq x0 x1 x2 s (k + 1 + w.length + 1))) else ∃ j, rt = .pan (failV k 1) (hq x0 x1 x2 s j)
end Go.Am
set_option maxRecDepth 10000
namespace Go.Am
open Go Go.Pu
def nextRt (x0 x1 x2 : List V) (s : List UInt8) (k : Nat) : LR → Rt → Prop
 | .ok t r, rt => rt = .ret (tokV t.kind t.val k t.str) (hq x0 x1 x2 s (s.length - r.length))
 | .err e, rt => ∃ j, rt = .pan (failV k e) (hq x0 x1 x2 s j)
end Go.Am
namespace Go.Am
open Go Go.Pu
def nice (x0 x1 x2 : List V) (s : List UInt8) (rt : Rt) : Prop := (∃ k n q t j, rt = .ret (tokV k n q t) (hq x0 x1 x2 s j)) ∨ (∃ q e j, rt = .pan (failV q e) (hq x0 x1 x2 s j))
section
variable {x0 x1 x2 : List V} {p l p0 r : List UInt8} {b : UInt8} {rt : Rt}
end
end Go.Am
namespace Go.Am
open Go Go.Pu
def tkV (n : Nat) (x : Tk × Nat) : V := tokV x.1.kind x.1.val (n - x.2 : Nat) x.1.str
def scanRt (n : Nat) (acc : List V) : SR → Rt
 | .ok ts => .ret (.tup [.sl false 4 (acc ++ ts.map (tkV n)), .int .i64 0, .int .i64 0]) []
 | .err rem e => .ret (.tup [.sl false 4 [], .int .i64 (n - rem : Nat), .int .i64 e]) []
def scanV (s : List UInt8) : V := if s.length > 65536 then .tup [.sl false 4 [], .int .i64 0, .int .i64 5] else match scan s with
 | .ok ts => .tup [.sl false 4 (ts.map (tkV s.length)), .int .i64 0, .int .i64 0]
 | .err rem e => .tup [.sl false 4 [], .int .i64 (s.length - rem : Nat), .int .i64 e]
end Go.Am
namespace Go.Am
open Go Go.Pu
theorem e_rLower (b : UInt8) : acall mach0 n_billingref23_Lower [.int .u8 b.toNat] [] = some (.ret (.bool (lowerB b)) []) := by
 refine acall_fn rfl (af := a_billingref23_Lower) rfl rfl ?_
 by_cases h1 : 97 ≤ b.toNat <;> by_cases h2 : b.toNat ≤ 122
 ·simp [List.replicate, go_sem, lowerB, h1, h2, show (97 : Int) ≤ (b.toNat : Int) by omega, show (b.toNat : Int) ≤ 122 by omega]
 ·simp [List.replicate, go_sem, lowerB, h1, h2, show (97 : Int) ≤ (b.toNat : Int) by omega, show ¬ (b.toNat : Int) ≤ 122 by omega]
 ·simp [List.replicate, go_sem, lowerB, h1, h2, show ¬ (97 : Int) ≤ (b.toNat : Int) by omega, show (b.toNat : Int) ≤ 122 by omega]
 ·simp [List.replicate, go_sem, lowerB, h1, h2, show ¬ (97 : Int) ≤ (b.toNat : Int) by omega, show ¬ (b.toNat : Int) ≤ 122 by omega]
theorem e_rDigit (b : UInt8) : acall mach0 n_billingref23_Digit [.int .u8 b.toNat] [] = some (.ret (.bool (digitB b)) []) := by
 refine acall_fn rfl (af := a_billingref23_Digit) rfl rfl ?_
 by_cases h1 : 48 ≤ b.toNat <;> by_cases h2 : b.toNat ≤ 57
 ·simp [List.replicate, go_sem, digitB, h1, h2, show (48 : Int) ≤ (b.toNat : Int) by omega, show (b.toNat : Int) ≤ 57 by omega]
 ·simp [List.replicate, go_sem, digitB, h1, h2, show (48 : Int) ≤ (b.toNat : Int) by omega, show ¬ (b.toNat : Int) ≤ 57 by omega]
 ·simp [List.replicate, go_sem, digitB, h1, h2, show ¬ (48 : Int) ≤ (b.toNat : Int) by omega, show (b.toNat : Int) ≤ 57 by omega]
 ·simp [List.replicate, go_sem, digitB, h1, h2, show ¬ (48 : Int) ≤ (b.toNat : Int) by omega, show ¬ (b.toNat : Int) ≤ 57 by omega]
theorem e_inText (b : UInt8) : acall mach0 n_billingref23_inText [.int .u8 b.toNat] [] = some (.ret (.bool (textB b)) []) := by
 refine acall_fn rfl (af := a_billingref23_inText) rfl rfl ?_
 by_cases h1 : (32 : Int) ≤ (b.toNat : Int) <;> by_cases h2 : (b.toNat : Int) ≤ 126 <;> by_cases h3 : (b.toNat : Int) = 34
 ·have : textB b = false := by simp [textB]; omega
  simp [List.replicate, go_sem, this, h1, h2, nf' h3]
 ·have : textB b = true := by simp [textB]; omega
  simp [List.replicate, go_sem, this, h1, h2, nt' h3]
 all_goals
  have : textB b = false := by simp [textB]; omega
  simp [List.replicate, go_sem, this, h1, h2]
def ssV (l : List (List UInt8)) : List V := l.map V.str
theorem nth_ss {l1 l2 : List (List UInt8)} {x : List UInt8} : nth (ssV (l1 ++ x :: l2)) l1.length = .str x := by
 induction l1 with
 | nil => rfl
 | cons y l1 ih => exact ih
theorem Has_l (s : List UInt8) (o : Bool) : ∀ (l2 l1 : List (List UInt8)), l1.length + l2.length ≤ 1000 →
  Run mach0 (.c billingref23_Has_l1b :: .lp billingref23_Has_l1 :: .endB 0 :: .c billingref23_Has_k1 :: []) .norm ⟨(.sl false 1 (ssV (l1 ++ l2)) :: .str s :: .undef :: .undef :: .undef :: .int .i64 l1.length :: .undef :: .undef :: .undef :: .undef :: .undef :: .undef :: .undef :: .undef :: .undef :: .undef :: .undef :: .undef :: []), []⟩
   (FinQ [.tmp 4] 0 (.ret (.bool (l2.contains s)) []))
 | [], l1, hl => by
  have q : ¬ ((l1.length : Int) < l1.length) := by omega
  unfold billingref23_Has_l1b
  simp [go_sem, ssV, q, billingref23_Has_k1]
  simp [go_sem, billingref23_Has_k1b]
 | x :: l2, l1, hl => by
  simp only [List.length_cons] at hl
  have ih := Has_l s o l2 (l1 ++ [x]) (by simp; omega)
  have q : (l1.length : Int) < l1.length + (l2.length + 1) := by omega
  have w : IntKind.wrap .i64 ((l1.length : Int) + 1) = l1.length + 1 := wrap_i64 (by omega)
  have hn := nth_ss (l1 := l1) (l2 := l2) (x := x)
  have hlen : (ssV (l1 ++ x :: l2)).length = l1.length + (l2.length + 1) := by simp [ssV]
  unfold billingref23_Has_l1b
  by_cases h : x = s
  ·subst h
   simp [go_sem, hlen, q, hn]
  ·have h' : (x == s) = false := by simpa using h
   have hc : (x :: l2).contains s = l2.contains s := by
    simp [List.contains_cons, Ne.symm h]
   rw [hc]
   simp only [List.append_assoc, List.singleton_append, List.length_append, List.length_cons, List.length_nil, Nat.zero_add] at ih
   simp [go_sem, hlen, q, hn, h', w, -List.contains_eq_mem]
   simpa [-List.contains_eq_mem] using ih
theorem e_Has (l : List (List UInt8)) (s : List UInt8) (hl : l.length ≤ 1000) : acall mach0 n_billingref23_Has [.sl false 1 (ssV l), .str s] [] = some (.ret (.bool (l.contains s)) []) := by
 refine acall_fn rfl (af := a_billingref23_Has) rfl rfl ?_
 have := Has_l s true l [] (by simpa using hl)
 simp [List.replicate, go_sem, -List.contains_eq_mem]
 simpa [-List.contains_eq_mem] using this
theorem e_rKeyword (s : List UInt8) : acall mach0 n_billingref23_Keyword [.str s] [] = some (.ret (.bool (isKw s)) []) := by
 refine acall_fn rfl (af := a_billingref23_Keyword) rfl rfl ?_
 have h := e_Has kws s (by decide)
 simp only [ssV, kws, List.map_cons, List.map_nil] at h
 simp [List.replicate, go_sem, h, isKw, kws, -List.contains_eq_mem]
end Go.Am
namespace Go.Am
open Go Go.Pu
theorem e_Keyword (s : List UInt8) : acall mach0 n_lexer_Keyword [.str s] [] = some (.ret (.bool (isKw s)) []) := by
 by_cases hs : s ∈ kws
 ·have e : isKw s = true := by simpa [isKw] using hs
  rw [e]
  simp only [kws, List.mem_cons, List.not_mem_nil, or_false] at hs
  repeat' (rcases hs with rfl | hs)
  all_goals first
   | exact (acall_iff _).2 ⟨60, by kernel_rfl⟩
   | (subst hs; exact (acall_iff _).2 ⟨60, by kernel_rfl⟩)
 ·have e : isKw s = false := by simpa [isKw] using hs
  rw [e]
  simp only [kws, List.mem_cons, List.not_mem_nil, or_false, not_or] at hs
  have hb : ∀ {x : List UInt8}, ¬ s = x → (s == x) = false := fun h => by simpa using h
  obtain ⟨h1, h2, h3, h4, h5, h6, h7, h8, h9, h10, h11, h12, h13, h14, h15, h16, h17, h18, h19, h20, h21, h22, h23, h24, h25, h26, h27, h28, h29, h30, h31, h32, h33, h34, h35, h36, h37, h38, h39⟩ := hs
  refine acall_fn rfl (af := a_lexer_Keyword) rfl rfl ?_
  simp [List.replicate, go_sem, hb h1, hb h2, hb h3, hb h4, hb h5, hb h6, hb h7, hb h8, hb h9, hb h10, hb h11, hb h12, hb h13, hb h14, hb h15, hb h16, hb h17, hb h18, hb h19, hb h20, hb h21, hb h22, hb h23, hb h24, hb h25, hb h26, hb h27, hb h28, hb h29, hb h30, hb h31, hb h32, hb h33, hb h34, hb h35, hb h36, hb h37, hb h38, hb h39]
end Go.Am
namespace Go.Am
open Go Go.Pu
theorem Quote_l (r : List UInt8) : ∀ (p : List UInt8), p.length + r.length ≤ 200 →
  Run mach0 (.c lexer_Quote_l1b :: .lp lexer_Quote_l1 :: .endB 0 :: .c lexer_Quote_k1 :: []) .norm ⟨(.str (p ++ r) :: .undef :: .undef :: .int .i64 p.length :: .undef :: .undef :: .undef :: .undef :: .undef :: .undef :: .undef :: .undef :: .undef :: .undef :: .undef :: .undef :: .undef :: .undef :: .undef :: .undef :: .undef :: .undef :: .undef :: .undef :: .undef :: .undef :: .undef :: .undef :: .undef :: .undef :: .undef :: .undef :: []), []⟩
   (FinQ [.tmp 2] 0 (.ret (.str (if r.all textB then 34 :: ((p ++ r) ++ [34]) else [])) [])) := by
 induction r with
 | nil =>
  intro p hl
  have q : ¬ ((p.length : Int) < p.length) := by omega
  have q1 : 1 + p.length ≤ 9223372036854775807 := by simp at hl; omega
  have q2 : p.length + 1 + 1 ≤ 9223372036854775807 := by simp at hl; omega
  unfold lexer_Quote_l1b
  simp [go_sem, q, lexer_Quote_k1]
  simp [go_sem, lexer_Quote_k1b, q1, q2]
 | cons b r ih =>
  intro p hl
  simp only [List.length_cons] at hl
  have ih := ih (p ++ [b]) (by simp; omega)
  simp only [List.append_assoc, List.singleton_append, List.length_append, List.length_cons, List.length_nil, Nat.zero_add] at ih
  have q : (p.length : Int) < p.length + (r.length + 1) := by omega
  have w : IntKind.wrap .i64 ((p.length : Int) + 1) = p.length + 1 := wrap_i64 (by omega)
  have g := get_mid (p := p) (r := r) (b := b)
  unfold lexer_Quote_l1b
  by_cases h1 : (b.toNat : Int) < 32
  ·have ht : textB b = false := by simp [textB]; omega
   simp [go_sem, q, g, h1, ht]
  ·by_cases h2 : (126 : Int) < (b.toNat : Int)
   ·have ht : textB b = false := by simp [textB]; omega
    simp [go_sem, q, g, h1, h2, ht]
   ·by_cases h3 : (b.toNat : Int) = 34
    ·have ht : textB b = false := by simp [textB]; omega
     simp [go_sem, q, g, h1, h2, bt' h3, ht]
    ·have ht : textB b = true := by simp [textB]; omega
     simp only [List.all_cons, ht, Bool.true_and]
     simp [go_sem, q, g, h1, h2, bf' h3, w]
     simpa using ih
theorem e_Quote (s : List UInt8) (hl : s.length ≤ 1000000) : acall mach0 n_lexer_Quote [.str s] [] = some (.ret (.str (quote s)) []) := by
 refine acall_fn rfl (af := a_lexer_Quote) rfl rfl ?_
 by_cases h : s.length ≤ 200
 ·have h' : ¬ (200 : Int) < s.length := by omega
  have := Quote_l s [] (by simpa using h)
  simp [List.replicate, go_sem, h']
  simpa [quote, h] using this
 ·have h' : (200 : Int) < s.length := by omega
  have e : quote s = [] := by simp [quote, h]
  rw [e]
  simp [List.replicate, go_sem, h']
theorem rQuote_l (r : List UInt8) : ∀ (p : List UInt8), p.length + r.length ≤ 1000000 →
  Run mach0 (.c billingref23_Quote_l1b :: .lp billingref23_Quote_l1 :: .endB 0 :: .c billingref23_Quote_k1 :: []) .norm ⟨(.str (p ++ r) :: .undef :: .undef :: .int .i64 p.length :: .undef :: .undef :: .undef :: .undef :: .undef :: .undef :: .undef :: .undef :: .undef :: .undef :: .undef :: .undef :: .undef :: .undef :: .undef :: .undef :: .undef :: []), []⟩
   (FinQ [.tmp 2] 0 (.ret (.str (if r.all textB && decide ((p ++ r).length ≤ 200) then 34 :: ((p ++ r) ++ [34]) else [])) [])) := by
 induction r with
 | nil =>
  intro p hl
  have q : ¬ ((p.length : Int) < p.length) := by omega
  simp at hl
  unfold billingref23_Quote_l1b
  by_cases h : p.length ≤ 200
  ·have h' : ¬ (200 : Int) < p.length := by omega
   simp [go_sem, q, billingref23_Quote_k1, h]
   have q1 : 1 + p.length ≤ 9223372036854775807 := by omega
   have q2 : p.length + 1 + 1 ≤ 9223372036854775807 := by omega
   simp [go_sem, billingref23_Quote_k1b, h', q1, q2]
  ·have h' : (200 : Int) < p.length := by omega
   simp [go_sem, q, billingref23_Quote_k1, h]
   simp [go_sem, billingref23_Quote_k1b, h']
 | cons b r ih =>
  intro p hl
  simp only [List.length_cons] at hl
  have ih := ih (p ++ [b]) (by simp; omega)
  simp only [List.append_assoc, List.singleton_append, List.length_append, List.length_cons, List.length_nil, Nat.zero_add] at ih
  have q : (p.length : Int) < p.length + (r.length + 1) := by omega
  have w : IntKind.wrap .i64 ((p.length : Int) + 1) = p.length + 1 := wrap_i64 (by omega)
  have g := get_mid (p := p) (r := r) (b := b)
  unfold billingref23_Quote_l1b
  cases ht : textB b with
  | false => simp [go_sem, q, g, e_inText, ht]
  | true =>
   simp only [List.all_cons, ht, Bool.true_and, List.length_append, List.length_cons]
   simp [go_sem, q, g, e_inText, ht, w]
   simpa using ih
theorem e_rQuote (s : List UInt8) (hl : s.length ≤ 1000000) : acall mach0 n_billingref23_Quote [.str s] [] = some (.ret (.str (quote s)) []) := by
 refine acall_fn rfl (af := a_billingref23_Quote) rfl rfl ?_
 have := rQuote_l s [] (by simpa using hl)
 simp [List.replicate, go_sem]
 simpa [quote] using this
end Go.Am
