/- Equations of the checksum. -/
import Derived.Test.YtbnjembcmddjoaaE6
import Derived.Test.YtbnjembcmddjoaaPf
set_option linter.unusedSimpArgs false
namespace Go.Am
open Go Go.Pu

theorem sum_step {n x : Nat} (hn : n < 4294967296) (hx : x < 256) :
    IntKind.wrap .u32 (bits .xor .u32 (n : Int) (x : Int) * 16777619) = (((n ^^^ x) * 16777619 % 4294967296 : Nat) : Int) := by
  have e : ((n ^^^ x : Nat) : Int) * 16777619 = (((n ^^^ x) * 16777619 : Nat) : Int) := by rw [Int.natCast_mul]; rfl
  rw [bits_xor32 n x hn (by omega), e, wrap_u32]
theorem u8_u32 {x : Nat} (hx : x < 256) : IntKind.wrap .u32 (x : Int) = (x : Int) := by rw [wrap_u32, Nat.mod_eq_of_lt (by omega)]
theorem xor_fits {n x : Nat} (hn : n < 4294967296) (hx : x < 256) : bits .xor .u32 (n : Int) (x : Int) = ((n ^^^ x : Nat) : Int) := bits_xor32 n x hn (by omega)

theorem l_Sum (b : List UInt8) (h h' : Heap) (n0 : Nat) (k : List It) (hb : b.length ≤ 100000000)
    (hk : Run mach k (.exit 0) ⟨(.sl false 1 (B b) :: .undef :: .undef :: .int .u32 (sum b : Nat) :: .undef :: .undef :: .sl false 1 (B b) :: .int .i64 b.length :: .int .i64 b.length :: .bool false :: .undef :: .undef :: .undef :: .undef :: .undef :: .undef :: .undef :: .undef :: .undef :: .undef :: []), h⟩ (FinQ [.tmp 2] n0 (.ret (.int .u32 (sum b : Nat)) h'))) :
    ∀ (n i u : Nat), i + n = b.length → u < 4294967296 → sumF u (b.drop i) = sum b →
    Run mach (.c frame_Sum_l1b :: .lp frame_Sum_l1 :: k) .norm ⟨(.sl false 1 (B b) :: .undef :: .undef :: .int .u32 u :: .undef :: .undef :: .sl false 1 (B b) :: .int .i64 b.length :: .int .i64 i :: .undef :: .undef :: .undef :: .undef :: .undef :: .undef :: .undef :: .undef :: .undef :: .undef :: .undef :: []), h⟩ (FinQ [.tmp 2] n0 (.ret (.int .u32 (sum b : Nat)) h'))
  | 0, i, u, hi, hu, hs => by
    obtain rfl : i = b.length := by omega
    rw [List.drop_length] at hs
    simp only [sumF] at hs
    subst hs
    unfold frame_Sum_l1b
    simp [go_sem]
    exact hk
  | n + 1, i, u, hi, hu, hs => by
    have hil : i < b.length := by omega
    rw [List.drop_eq_getElem_cons hil] at hs
    simp only [sumF] at hs
    have hx := b[i].toNat_lt
    have ih := l_Sum b h h' n0 k hb hk n (i + 1) _ (by omega) (Nat.mod_lt _ (by omega)) hs
    have w1 := sum_step (n := u) (x := b[i].toNat) hu hx
    have w2 := u8_u32 hx
    have w3 : IntKind.wrap .i64 ((i : Int) + 1) = ((i + 1 : Nat) : Int) := by rw [wrap_i64 (by omega)]; omega
    have g := B_nth b i hil
    have q : (i : Int) < b.length := by omega
    unfold frame_Sum_l1b
    simp [go_sem, hil, q, g, w1, w2, w3]
    exact ih

theorem e_Sum (b : List UInt8) (h : Heap) (hb : b.length ≤ 100000000) : acall mach n_frame_Sum [.sl false 1 (B b)] h = some (.ret (.int .u32 (sum b : Nat)) h) := by
  refine acall_fn rfl (af := a_frame_Sum) rfl rfl ?_
  simp [List.replicate, go_sem]
  refine l_Sum b h h h.length _ hb ?_ b.length 0 2166136261 (Nat.zero_add _) (by omega) rfl

  simp [go_sem]

theorem l_rSum (b : List UInt8) (h h' : Heap) (n0 : Nat) (k : List It) (hb : b.length ≤ 100000000)
    (hk : Run mach k (.exit 0) ⟨(.sl false 1 (B b) :: .undef :: .undef :: .int .u32 (sum b : Nat) :: .int .i64 b.length :: .int .i64 b.length :: .sl false 1 (B b) :: .int .i64 b.length :: .bool false :: .undef :: .undef :: .undef :: .undef :: .undef :: .undef :: .undef :: .undef :: .undef :: .undef :: .undef :: []), h⟩ (FinQ [.tmp 2] n0 (.ret (.int .u32 (sum b : Nat)) h'))) :
    ∀ (n i u : Nat), i + n = b.length → u < 4294967296 → sumF u (b.drop i) = sum b →
    Run mach (.c billingref08_Sum_l1b :: .lp billingref08_Sum_l1 :: k) .norm ⟨(.sl false 1 (B b) :: .undef :: .undef :: .int .u32 u :: .int .i64 i :: .undef :: .undef :: .undef :: .undef :: .undef :: .undef :: .undef :: .undef :: .undef :: .undef :: .undef :: .undef :: .undef :: .undef :: .undef :: []), h⟩ (FinQ [.tmp 2] n0 (.ret (.int .u32 (sum b : Nat)) h'))
  | 0, i, u, hi, hu, hs => by
    obtain rfl : i = b.length := by omega
    rw [List.drop_length] at hs
    simp only [sumF] at hs
    subst hs
    unfold billingref08_Sum_l1b
    simp [go_sem]
    exact hk
  | n + 1, i, u, hi, hu, hs => by
    have hil : i < b.length := by omega
    rw [List.drop_eq_getElem_cons hil] at hs
    simp only [sumF] at hs
    have hx := b[i].toNat_lt
    have ih := l_rSum b h h' n0 k hb hk n (i + 1) _ (by omega) (Nat.mod_lt _ (by omega)) hs
    have w1 := sum_step (n := u) (x := b[i].toNat) hu hx
    have w2 := u8_u32 hx
    have w3 : IntKind.wrap .i64 ((i : Int) + 1) = ((i + 1 : Nat) : Int) := by rw [wrap_i64 (by omega)]; omega
    have g := B_nth b i hil
    have q : (i : Int) < b.length := by omega
    unfold billingref08_Sum_l1b
    simp [go_sem, hil, q, g, w1, w2, w3]
    exact ih

theorem e_rSum (b : List UInt8) (h : Heap) (hb : b.length ≤ 100000000) : acall mach n_billingref08_Sum [.sl false 1 (B b)] h = some (.ret (.int .u32 (sum b : Nat)) h) := by
  refine acall_fn rfl (af := a_billingref08_Sum) rfl rfl ?_
  simp [List.replicate, go_sem]
  refine l_rSum b h h h.length _ hb ?_ b.length 0 2166136261 (Nat.zero_add _) (by omega) rfl
  simp [go_sem]
end Go.Am
