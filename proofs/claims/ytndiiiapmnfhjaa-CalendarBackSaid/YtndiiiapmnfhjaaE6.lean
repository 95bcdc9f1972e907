/- Digits, Print. -/
import Derived.Test.YtndiiiapmnfhjaaE5
set_option linter.unusedSimpArgs false
namespace Go.Am
open Go Go.Pu

theorem enc_digit {n : Nat} (h : n < 10) : (Utf8.encode (48 + (n : Int))).data.toList = [UInt8.ofNat (48 + n)] := by
  match n, h with
  | 0, _ => decide +kernel
  | 1, _ => decide +kernel
  | 2, _ => decide +kernel
  | 3, _ => decide +kernel
  | 4, _ => decide +kernel
  | 5, _ => decide +kernel
  | 6, _ => decide +kernel
  | 7, _ => decide +kernel
  | 8, _ => decide +kernel
  | 9, _ => decide +kernel
  | n + 10, h => omega

theorem e_digits : ∀ (k n : Nat) (h : Heap), k ≤ 10 → n ≤ 1000000 → acall mach n_calendar_digits [.int .i64 n, .int .i64 k] h = some (.ret (.str (digs n k)) h)
  | 0, n, h, _, _ => by
    refine acall_fn rfl (af := a_calendar_digits) rfl rfl ?_
    simp [List.replicate, go_sem, digs]
  | k + 1, n, h, hk, hn => by
    have ih := fun h => e_digits k (n / 10) h (by omega) (by omega)
    refine acall_fn rfl (af := a_calendar_digits) rfl rfl ?_
    have w1 : (IntKind.i64).wrap (((k + 1 : Nat) : Int) - 1) = (k : Int) := by rw [wrap_i64 ⟨by omega, by omega⟩]; omega
    have w2 : (n : Int).tdiv 10 = ((n / 10 : Nat) : Int) := rfl
    have w3 : (n : Int).tmod 10 = ((n % 10 : Nat) : Int) := rfl
    have w4 : (IntKind.i64).wrap ((n / 10 : Nat) : Int) = ((n / 10 : Nat) : Int) := wrap_i64 ⟨by omega, by omega⟩
    have hm : n % 10 < 10 := Nat.mod_lt _ (by omega)
    have q : ((k + 1 : Nat) : Int) ≠ 0 := by omega
    generalize hK : ((k + 1 : Nat) : Int) = K at *
    generalize hD : n / 10 = D at *
    generalize hM : n % 10 = M at *
    have w5 : (IntKind.i64).wrap (48 + (M : Int)) = 48 + M := wrap_i64 ⟨by omega, by omega⟩
    have w6 : (IntKind.i32).wrap (48 + (M : Int)) = 48 + M := by simp [IntKind.wrap, IntKind.signed, IntKind.bits]; omega
    simp [List.replicate, go_sem, digs, q, w1, w2, w3, w4, w5, w6, ih, enc_digit hm, hD, hM, digs_length, show k ≤ 9223372036854775806 by omega]
end Go.Am
