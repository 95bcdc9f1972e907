/- The ref's number. -/
import Derived.Test.YtndiiiapmnfhjaaE9
set_option linter.unusedSimpArgs false
namespace Go.Am
open Go Go.Pu

def numI (o : Option Nat) : Int := match o with | some v => (v : Int) | none => -1

theorem l_number (s : List UInt8) (h h' : Heap) (n0 : Nat) (k : List It) (r : V) (hs : s.length ≤ 10) (hh : h.take n0 = h')
    (hk : ∀ v : Nat, r = .int .i64 v → Run mach k (.exit 0) ⟨(.str s :: .undef :: .undef :: .int .i64 v :: .int .i64 s.length :: .int .i64 s.length :: .str s :: .int .i64 s.length :: .bool false :: .undef :: .undef :: .undef :: .undef :: .undef :: .undef :: .undef :: .undef :: .undef :: .undef :: .undef :: .undef :: .undef :: .undef :: .undef :: .undef :: .undef :: .undef :: .undef :: .undef :: .undef :: []), h⟩ (FinQ [.tmp 2] n0 (.ret r h'))) :
    ∀ (rest pre : List UInt8) (v : Nat), pre ++ rest = s → v < 10 ^ pre.length → r = .int .i64 (numI (numD v rest)) →
    Run mach (.c billingref03_number_l1b :: .lp billingref03_number_l1 :: k) .norm ⟨(.str s :: .undef :: .undef :: .int .i64 v :: .int .i64 pre.length :: .undef :: .undef :: .undef :: .undef :: .undef :: .undef :: .undef :: .undef :: .undef :: .undef :: .undef :: .undef :: .undef :: .undef :: .undef :: .undef :: .undef :: .undef :: .undef :: .undef :: .undef :: .undef :: .undef :: .undef :: .undef :: []), h⟩ (FinQ [.tmp 2] n0 (.ret r h'))
  | [], pre, v, hp, hv, hr => by
    simp at hp
    subst hp
    have := hk v hr
    unfold billingref03_number_l1b
    simp [go_sem]
    exact this
  | x :: xs, pre, v, hp, hv, hr => by
    by_cases hb : x.toNat < 48 ∨ 57 < x.toNat
    · simp only [numD, if_pos hb, numI] at hr
      subst hp
      unfold billingref03_number_l1b
      have c0 : ((pre.length : Int) < pre.length + (xs.length + 1)) = True := by simp; omega
      by_cases h48 : x.toNat < 48
      · have c1 : ¬ (48 : Int) ≤ x.toNat := by omega
        have c1' : (x.toNat : Int) < 48 := by omega
        simp [go_sem, c0, c1, c1', h48, hr, hh]
      · have c1 : (48 : Int) ≤ x.toNat := by omega
        have c2 : (57 : Int) < x.toNat := by omega
        simp [go_sem, c0, c1, c2, hr, hh]
    · simp only [numD, if_neg hb] at hr
      have hlen := congrArg List.length hp
      simp at hlen
      have hp10 : 10 ^ pre.length ≤ 10 ^ 9 := Nat.pow_le_pow_right (by omega) (by omega)
      have e10 : 10 ^ (pre ++ [x]).length = 10 * 10 ^ pre.length := by simp [Nat.pow_succ, Nat.mul_comm]
      have ih := l_number s h h' n0 k r hs hh hk xs (pre ++ [x]) (10 * v + (x.toNat - 48)) (by simp [hp]) (by omega) hr
      have c0 : ((pre.length : Int) < pre.length + (xs.length + 1)) = True := by simp; omega
      have c1 : (48 : Int) ≤ x.toNat := by omega
      have c2 : ¬ ((57 : Int) < x.toNat) := by omega
      have w1 : (IntKind.u8).wrap ((x.toNat : Int) - 48) = (x.toNat : Int) - 48 := by simp [IntKind.wrap, IntKind.signed, IntKind.bits]; omega
      have w2 : (IntKind.i64).wrap ((x.toNat : Int) - 48) = (x.toNat : Int) - 48 := wrap_i64 ⟨by omega, by omega⟩
      have w3 : (IntKind.i64).wrap ((v : Int) * 10) = (v : Int) * 10 := wrap_i64 ⟨by omega, by omega⟩
      have w4 : (IntKind.i64).wrap ((v : Int) * 10 + ((x.toNat : Int) - 48)) = ((10 * v + (x.toNat - 48) : Nat) : Int) := by rw [wrap_i64 ⟨by omega, by omega⟩]; omega
      have w5 : (IntKind.i64).wrap ((pre.length : Int) + 1) = ((pre ++ [x]).length : Int) := by rw [wrap_i64 ⟨by omega, by omega⟩]; simp
      generalize hV : 10 * v + (x.toNat - 48) = V at *
      generalize hP : (pre ++ [x]).length = P at *
      subst hp
      have d1 : ¬ ((x.toNat : Int) < 48) := by omega
      unfold billingref03_number_l1b
      simp [go_sem, c0, c1, c2, d1, w1, w2, w3, w4, w5]
      exact ih

theorem e_number (s : List UInt8) (h : Heap) (hs : s.length ≤ 10) : acall mach n_billingref03_number [.str s] h = some (.ret (.int .i64 (numI (numD 0 s))) h) := by
  refine acall_fn rfl (af := a_billingref03_number) rfl rfl ?_
  simp [List.replicate, go_sem]
  refine l_number s h h h.length _ _ hs (by simp) ?_ s [] 0 rfl (by simp) rfl
  intro v hv
  simp [go_sem, hv]
end Go.Am
