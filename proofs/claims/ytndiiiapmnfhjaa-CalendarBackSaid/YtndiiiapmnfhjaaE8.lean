/- The ref's digits and Print. -/
import Derived.Test.YtndiiiapmnfhjaaE7
set_option linter.unusedSimpArgs false
namespace Go.Am
open Go Go.Pu

theorem l_rdigs (K : Nat) (R : List UInt8) (h h' : Heap) (n0 : Nat) (k : List It) (r : V) (hK : K ≤ 10)
    (hk : ∀ N : Nat, Run mach k (.exit 0) ⟨(.int .i64 N :: .int .i64 K :: .undef :: .undef :: .undef :: .str R :: .int .i64 K :: .int .i64 K :: .int .i64 K :: .bool false :: .undef :: .undef :: .undef :: .undef :: .undef :: .undef :: .undef :: .undef :: .undef :: .undef :: .undef :: .undef :: .undef :: []), h⟩ (FinQ [.tmp 4] n0 (.ret r h'))) :
    ∀ (j n i : Nat) (acc : List UInt8), i + j = K → n ≤ 1000000 → acc.length ≤ i → digs n j ++ acc = R →
    Run mach (.c billingref03_digits_l1b :: .lp billingref03_digits_l1 :: k) .norm ⟨(.int .i64 n :: .int .i64 K :: .undef :: .undef :: .undef :: .str acc :: .int .i64 i :: .undef :: .undef :: .undef :: .undef :: .undef :: .undef :: .undef :: .undef :: .undef :: .undef :: .undef :: .undef :: .undef :: .undef :: .undef :: .undef :: []), h⟩ (FinQ [.tmp 4] n0 (.ret r h'))
  | 0, n, i, acc, hi, hn, ha, hR => by
    obtain rfl : i = K := by omega
    simp only [digs, List.nil_append] at hR
    subst hR
    unfold billingref03_digits_l1b
    simp [go_sem]
    exact hk n
  | j + 1, n, i, acc, hi, hn, ha, hR => by
    have ih := l_rdigs K R h h' n0 k r hK hk j (n / 10) (i + 1) (UInt8.ofNat (48 + n % 10) :: acc) (by omega) (by omega) (by simp; omega) (by rw [← hR]; simp [digs])
    have w1 : IntKind.wrap .i64 ((i : Int) + 1) = ((i + 1 : Nat) : Int) := wrap_i64 ⟨by omega, by omega⟩
    have w2 : (n : Int).tdiv 10 = ((n / 10 : Nat) : Int) := rfl
    have w3 : (n : Int).tmod 10 = ((n % 10 : Nat) : Int) := rfl
    have w4 : (IntKind.i64).wrap ((n / 10 : Nat) : Int) = ((n / 10 : Nat) : Int) := wrap_i64 ⟨by omega, by omega⟩
    have hm : n % 10 < 10 := Nat.mod_lt _ (by omega)
    have q : i < K := by omega
    generalize hI : i + 1 = I at *
    generalize hD : n / 10 = D at *
    generalize hM : n % 10 = M at *
    have w5 : (IntKind.i64).wrap (48 + (M : Int)) = 48 + M := wrap_i64 ⟨by omega, by omega⟩
    have w6 : (IntKind.u8).wrap (48 + (M : Int)) = 48 + M := by simp [IntKind.wrap, IntKind.signed, IntKind.bits]; omega
    have w7 : byteOf (.int .u8 (48 + (M : Int))) = UInt8.ofNat (48 + M) := by
      show UInt8.ofNat (48 + (M : Int)).toNat = _
      congr 1
    generalize UInt8.ofNat (48 + M) = X at *
    unfold billingref03_digits_l1b
    simp [go_sem, q, w7, show 1 + acc.length ≤ 9223372036854775807 by omega, w1, w2, w3, w4, w5, w6, show acc.length ≤ 9223372036854775806 by omega]
    exact ih

theorem e_rdigits (k n : Nat) (h : Heap) (hk : k ≤ 10) (hn : n ≤ 1000000) : acall mach n_billingref03_digits [.int .i64 n, .int .i64 k] h = some (.ret (.str (digs n k)) h) := by
  refine acall_fn rfl (af := a_billingref03_digits) rfl rfl ?_
  simp [List.replicate, go_sem]
  refine l_rdigs k (digs n k) h h h.length _ _ hk ?_ k n 0 [] (by omega) hn (by simp) (by simp)
  intro N
  simp [go_sem]
end Go.Am
