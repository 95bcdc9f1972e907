/- The reference's Source, Proper and Same. -/
import Derived.Test.YtcjglgeamdfpmaaQM7
set_option linter.unusedSimpArgs false
set_option linter.unnecessarySimpa false
set_option linter.unusedVariables false
set_option maxRecDepth 10000
namespace Go.Am
open Go Go.Pu

theorem nth_mid {l1 l2 : List V} {x : V} : nth (l1 ++ x :: l2) l1.length = x := by
  induction l1 with
  | nil => rfl
  | cons y l1 ih => exact ih

def srcP (k : Int) (s : List UInt8) : List UInt8 := if k = 3 then 34 :: (s ++ [34]) else s

theorem e_Source (k n p : Int) (s : List UInt8) (hl : s.length ≤ 4611686018427387904) : acall mach0 n_billingref23_Source [tokV k n p s] [] = some (.ret (.str (srcP k s)) []) := by
  refine acall_fn rfl (af := a_billingref23_Source) rfl rfl ?_
  have q1 : 1 + s.length ≤ 9223372036854775807 := by omega
  have q2 : s.length + 1 + 1 ≤ 9223372036854775807 := by omega
  by_cases h : k = 3
  · subst h
    simp [List.replicate, go_sem, tokV, q1, q2, srcP]
  · simp [List.replicate, go_sem, tokV, bf' h, srcP, if_neg h]

def tokVs (ts : List (Int × Int × Int × List UInt8)) : List V := ts.map fun x => tokV x.1 x.2.1 x.2.2.1 x.2.2.2

def properP (k : Int) (s : List UInt8) : Bool := if (srcP k s).length > 65536 then false else match scan (srcP k s) with
  | .ok ts => match ts with
    | [x, _] => decide (s.length ≤ 200) && ((x.1.kind : Nat) : Int) == k && x.1.str == s
    | _ => false
  | .err _ _ => false

theorem e_Proper (k n p : Int) (s : List UInt8) (hl : s.length ≤ 4611686018427387904) : acall mach0 n_billingref23_Proper [tokV k n p s] [] = some (.ret (.bool (properP k s)) []) := by
  refine acall_fn rfl (af := a_billingref23_Proper) rfl rfl ?_
  have e1 := e_Source k n p s hl
  have e2 := e_rScan (srcP k s)
  simp only [tokV] at e1 ⊢
  unfold properP
  unfold rscanV rscanRt at e2
  by_cases h : (srcP k s).length > 65536
  · rw [if_pos h] at e2
    simp [List.replicate, go_sem, e1, e2, h]
  · rw [if_neg h] at e2
    rw [if_neg h]
    cases hs : scan (srcP k s) with
    | err rem e =>
      rw [hs] at e2
      have h0 : ¬ ((e : Nat) : Int) = 0 := by have := scan_err_code _ hs; omega
      simp [List.replicate, go_sem, e1, e2, bf' h0]
    | ok ts =>
      rw [hs] at e2
      simp only [List.nil_append] at e2
      by_cases hk : s.length ≤ 200
      · have hk' : (s.length : Int) ≤ 200 := by omega
        match ts with
        | [] => simp [List.replicate, go_sem, e1, e2, hk']
        | [x] => simp [List.replicate, go_sem, e1, e2, hk']
        | [x, y] =>
          by_cases h1 : ((x.1.kind : Nat) : Int) = k
          · simp [List.replicate, go_sem, e1, e2, hk', tkV, tokV, bt' h1, h1, hk]
          · simp [List.replicate, go_sem, e1, e2, hk', tkV, tokV, bf' h1, h1, hk]
        | x :: y :: z :: ts =>
          have hn : ¬ ((ts.length : Int) + 1 + 1 + 1 = 2) := by omega
          simp [List.replicate, go_sem, e1, e2, hk', bf' hn]
      · have hk' : ¬ (s.length : Int) ≤ 200 := by omega
        match ts with
        | [] => simp [List.replicate, go_sem, e1, e2, hk']
        | [x] => simp [List.replicate, go_sem, e1, e2, hk']
        | [x, y] => simp [List.replicate, go_sem, e1, e2, hk', hk]
        | x :: y :: z :: ts => simp [List.replicate, go_sem, e1, e2, hk']

/-- A value that is a token. -/
def isTok (v : V) : Prop := ∃ k n p s, v = tokV k n p s
theorem isTok_tkV (n : Nat) (x : Tk × Nat) : isTok (tkV n x) := ⟨_, _, _, _, rfl⟩

theorem Same_l : ∀ (l2 l1 : List V), (∀ v ∈ l2, isTok v) → l1.length + l2.length ≤ 1000000 →
    Run mach0 (.c billingref23_Same_l1b :: .lp billingref23_Same_l1 :: .endB 0 :: .c billingref23_Same_k1 :: []) .norm ⟨(.sl false 4 (l1 ++ l2) :: .sl false 4 (l1 ++ l2) :: .undef :: .undef :: .undef :: .int .i64 l1.length :: .undef :: .undef :: .undef :: .undef :: .undef :: .undef :: .undef :: .undef :: .undef :: .undef :: .undef :: .undef :: .undef :: .undef :: .undef :: .undef :: .undef :: .undef :: .undef :: .undef :: []), []⟩
      (FinQ [.tmp 4] 0 (.ret (.bool true) []))
  | [], l1, ht, hl => by
    have q : ¬ ((l1.length : Int) < l1.length) := by omega
    unfold billingref23_Same_l1b
    simp [go_sem, q, billingref23_Same_k1]
    simp [go_sem, billingref23_Same_k1b]
  | x :: l2, l1, ht, hl => by
    simp only [List.length_cons] at hl
    have ih := Same_l l2 (l1 ++ [x]) (fun v hv => ht v (by simp [hv])) (by simp; omega)
    have q : (l1.length : Int) < l1.length + (l2.length + 1) := by omega
    have w : IntKind.wrap .i64 ((l1.length : Int) + 1) = l1.length + 1 := wrap_i64 (by omega)
    obtain ⟨k, n, p, s, rfl⟩ := ht x (by simp)
    have hn : nth (l1 ++ tokV k n p s :: l2) l1.length = tokV k n p s := nth_mid
    simp only [List.append_assoc, List.singleton_append, List.length_append, List.length_cons, List.length_nil, Nat.zero_add] at ih
    simp only [tokV] at ih hn ⊢
    unfold billingref23_Same_l1b
    simp [go_sem, q, hn, w]
    simpa using ih

theorem e_Same (l : List V) (ht : ∀ v ∈ l, isTok v) (hl : l.length ≤ 1000000) : acall mach0 n_billingref23_Same [.sl false 4 l, .sl false 4 l] [] = some (.ret (.bool true) []) := by
  refine acall_fn rfl (af := a_billingref23_Same) rfl rfl ?_
  have := Same_l l [] ht (by simpa using hl)
  simp [List.replicate, go_sem]
  simpa using this
end Go.Am
