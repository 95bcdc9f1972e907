/- Reckoning with integers of a kind: shifts, bits, wraps, over natural numbers. -/
import Derived.Test.YtbnjembcmddjoaaAm29
set_option linter.unusedSimpArgs false
namespace Go.Am

theorem wrap_u8 (n : Nat) : IntKind.wrap .u8 (n : Int) = ((n % 256 : Nat) : Int) := by
  simp [IntKind.wrap, IntKind.signed, IntKind.bits]
theorem wrap_u32 (n : Nat) : IntKind.wrap .u32 (n : Int) = ((n % 4294967296 : Nat) : Int) := by
  simp [IntKind.wrap, IntKind.signed, IntKind.bits]
theorem wrap_u64 (n : Nat) : IntKind.wrap .u64 (n : Int) = ((n % 18446744073709551616 : Nat) : Int) := by
  simp [IntKind.wrap, IntKind.signed, IntKind.bits]
theorem wrap_u16 (n : Nat) : IntKind.wrap .u16 (n : Int) = ((n % 65536 : Nat) : Int) := by
  simp [IntKind.wrap, IntKind.signed, IntKind.bits]
theorem wrap_nat {n : Nat} (h : n < 9223372036854775808) : IntKind.wrap .i64 (n : Int) = (n : Int) := wrap_i64 (by omega)

theorem fdiv_nat (u k : Nat) : Int.fdiv (u : Int) ((k : Nat) : Int) = ((u / k : Nat) : Int) := by
  rw [Int.fdiv_eq_ediv_of_nonneg _ (by omega)]
  simp

theorem ofInt_nat {w : Nat} (n : Nat) : (BitVec.ofInt w (n : Int)).toNat = n % 2 ^ w := by
  simp [BitVec.ofInt_natCast]

theorem bits_or8 (x y : Nat) (hx : x < 256) (hy : y < 256) : bits .or .u8 (x : Int) (y : Int) = ((x ||| y : Nat) : Int) := by
  have h : x ||| y < 256 := Nat.or_lt_two_pow (n := 8) hx hy
  show IntKind.wrap .u8 (((BitVec.ofInt 8 (x : Int)) ||| (BitVec.ofInt 8 (y : Int))).toNat : Int) = _
  rw [BitVec.toNat_or, ofInt_nat, ofInt_nat, Nat.mod_eq_of_lt hx, Nat.mod_eq_of_lt hy, wrap_u8, Nat.mod_eq_of_lt h]
theorem bits_and8 (x y : Nat) (hx : x < 256) (hy : y < 256) : bits .and .u8 (x : Int) (y : Int) = ((x &&& y : Nat) : Int) := by
  have h : x &&& y < 256 := Nat.and_lt_two_pow (n := 8) _ hy
  show IntKind.wrap .u8 (((BitVec.ofInt 8 (x : Int)) &&& (BitVec.ofInt 8 (y : Int))).toNat : Int) = _
  rw [BitVec.toNat_and, ofInt_nat, ofInt_nat, Nat.mod_eq_of_lt hx, Nat.mod_eq_of_lt hy, wrap_u8, Nat.mod_eq_of_lt h]
theorem bits_xor8 (x y : Nat) (hx : x < 256) (hy : y < 256) : bits .xor .u8 (x : Int) (y : Int) = ((x ^^^ y : Nat) : Int) := by
  have h : x ^^^ y < 256 := Nat.xor_lt_two_pow (n := 8) hx hy
  show IntKind.wrap .u8 (((BitVec.ofInt 8 (x : Int)) ^^^ (BitVec.ofInt 8 (y : Int))).toNat : Int) = _
  rw [BitVec.toNat_xor, ofInt_nat, ofInt_nat, Nat.mod_eq_of_lt hx, Nat.mod_eq_of_lt hy, wrap_u8, Nat.mod_eq_of_lt h]
theorem bits_or64 (x y : Nat) (hx : x < 18446744073709551616) (hy : y < 18446744073709551616) : bits .or .u64 (x : Int) (y : Int) = ((x ||| y : Nat) : Int) := by
  have h : x ||| y < 18446744073709551616 := Nat.or_lt_two_pow (n := 64) hx hy
  show IntKind.wrap .u64 (((BitVec.ofInt 64 (x : Int)) ||| (BitVec.ofInt 64 (y : Int))).toNat : Int) = _
  rw [BitVec.toNat_or, ofInt_nat, ofInt_nat, Nat.mod_eq_of_lt hx, Nat.mod_eq_of_lt hy, wrap_u64, Nat.mod_eq_of_lt h]
theorem bits_and64 (x y : Nat) (hx : x < 18446744073709551616) (hy : y < 18446744073709551616) : bits .and .u64 (x : Int) (y : Int) = ((x &&& y : Nat) : Int) := by
  have h : x &&& y < 18446744073709551616 := Nat.and_lt_two_pow (n := 64) _ hy
  show IntKind.wrap .u64 (((BitVec.ofInt 64 (x : Int)) &&& (BitVec.ofInt 64 (y : Int))).toNat : Int) = _
  rw [BitVec.toNat_and, ofInt_nat, ofInt_nat, Nat.mod_eq_of_lt hx, Nat.mod_eq_of_lt hy, wrap_u64, Nat.mod_eq_of_lt h]
theorem bits_xor32 (x y : Nat) (hx : x < 4294967296) (hy : y < 4294967296) : bits .xor .u32 (x : Int) (y : Int) = ((x ^^^ y : Nat) : Int) := by
  have h : x ^^^ y < 4294967296 := Nat.xor_lt_two_pow (n := 32) hx hy
  show IntKind.wrap .u32 (((BitVec.ofInt 32 (x : Int)) ^^^ (BitVec.ofInt 32 (y : Int))).toNat : Int) = _
  rw [BitVec.toNat_xor, ofInt_nat, ofInt_nat, Nat.mod_eq_of_lt hx, Nat.mod_eq_of_lt hy, wrap_u32, Nat.mod_eq_of_lt h]
theorem bits_or32 (x y : Nat) (hx : x < 4294967296) (hy : y < 4294967296) : bits .or .u32 (x : Int) (y : Int) = ((x ||| y : Nat) : Int) := by
  have h : x ||| y < 4294967296 := Nat.or_lt_two_pow (n := 32) hx hy
  show IntKind.wrap .u32 (((BitVec.ofInt 32 (x : Int)) ||| (BitVec.ofInt 32 (y : Int))).toNat : Int) = _
  rw [BitVec.toNat_or, ofInt_nat, ofInt_nat, Nat.mod_eq_of_lt hx, Nat.mod_eq_of_lt hy, wrap_u32, Nat.mod_eq_of_lt h]

theorem or_128 {x : Nat} (h : x < 256) : x ||| 128 = 128 + x % 128 := by
  have : ∀ y : Fin 256, (y : Nat) ||| 128 = 128 + (y : Nat) % 128 := by decide +kernel
  exact this ⟨x, h⟩
theorem and_127 {x : Nat} (h : x < 256) : x &&& 127 = x % 128 := by
  have : ∀ y : Fin 256, (y : Nat) &&& 127 = (y : Nat) % 128 := by decide +kernel
  exact this ⟨x, h⟩
theorem and_one (u : Nat) : u &&& 1 = u % 2 := Nat.and_one_is_mod u

theorem or_low {u x k : Nat} (h : u < 2 ^ k) : u ||| (x * 2 ^ k) = u + x * 2 ^ k := by
  rw [Nat.or_comm, Nat.mul_comm x, ← Nat.two_pow_add_eq_or_of_lt h, Nat.add_comm]

/-- The number of 64 bits all of whose bits turn. -/
theorem bits_not64 (x : Nat) (hx : x < 18446744073709551616) : bits .xor .u64 (x : Int) 18446744073709551615 = ((18446744073709551615 - x : Nat) : Int) := by
  have e : BitVec.ofInt 64 18446744073709551615 = BitVec.allOnes 64 := by rfl
  show IntKind.wrap .u64 (((BitVec.ofInt 64 (x : Int)) ^^^ (BitVec.ofInt 64 18446744073709551615)).toNat : Int) = _
  rw [e, BitVec.xor_allOnes, BitVec.toNat_not, ofInt_nat, Nat.mod_eq_of_lt hx, wrap_u64]
  congr 1
  rw [Nat.mod_eq_of_lt (by omega)]
theorem bits_xor0 (x : Nat) (hx : x < 18446744073709551616) : bits .xor .u64 (x : Int) 0 = (x : Int) := by
  have e : BitVec.ofInt 64 0 = 0#64 := by rfl
  show IntKind.wrap .u64 (((BitVec.ofInt 64 (x : Int)) ^^^ (BitVec.ofInt 64 0)).toNat : Int) = _
  rw [e, BitVec.xor_zero, ofInt_nat, Nat.mod_eq_of_lt hx, wrap_u64, Nat.mod_eq_of_lt hx]
theorem bits_noti64 (x : Nat) (hx : x < 9223372036854775808) : bits .xor .i64 (x : Int) (-1) = -(x : Int) - 1 := by
  have e : BitVec.ofInt 64 (-1) = BitVec.allOnes 64 := by rfl
  show IntKind.wrap .i64 (((BitVec.ofInt 64 (x : Int)) ^^^ (BitVec.ofInt 64 (-1))).toNat : Int) = _
  rw [e, BitVec.xor_allOnes, BitVec.toNat_not, ofInt_nat, Nat.mod_eq_of_lt (by omega)]
  simp only [IntKind.wrap, IntKind.signed, IntKind.bits]
  simp
  omega
theorem bits_xori0 (x : Nat) (hx : x < 9223372036854775808) : bits .xor .i64 (x : Int) 0 = (x : Int) := by
  have e : BitVec.ofInt 64 0 = 0#64 := by rfl
  show IntKind.wrap .i64 (((BitVec.ofInt 64 (x : Int)) ^^^ (BitVec.ofInt 64 0)).toNat : Int) = _
  rw [e, BitVec.xor_zero, ofInt_nat, Nat.mod_eq_of_lt (by omega), wrap_nat (by omega)]
end Go.Am
