/- Equations of the small functions of codec. -/
import Derived.Test.YtbnjembcmddjoaaFt
import Derived.Test.YtbnjembcmddjoaaAm31
import Derived.Test.YtbnjembcmddjoaaPf
set_option linter.unusedSimpArgs false
namespace Go.Am
open Go Go.Pu

theorem e_zigzag (n : Int) (h : Heap) (h1 : -9223372036854775808 ≤ n) (h2 : n ≤ 9223372036854775807) : acall mach n_codec_zigzag [.int .i64 n] h = some (.ret (.int .u64 (zz n : Nat)) h) := by
  refine acall_fn rfl (af := a_codec_zigzag) rfl rfl ?_
  simp [List.replicate, go_sem]
  by_cases hn : 0 ≤ n
  · obtain ⟨m, rfl⟩ := Int.eq_ofNat_of_zero_le hn
    have e1 : IntKind.wrap .u64 (m : Int) = m := by rw [wrap_u64, Nat.mod_eq_of_lt (by omega)]
    have e2 : IntKind.wrap .u64 ((m : Int) * 2) = ((m * 2 : Nat) : Int) := by
      have := wrap_u64 (m * 2)
      rw [Nat.mod_eq_of_lt (by omega)] at this
      exact this
    have e3 : Int.fdiv (m : Int) 9223372036854775808 = 0 := by
      have := fdiv_nat m 9223372036854775808
      rw [Nat.div_eq_of_lt (by omega)] at this
      exact this
    have e4 : zz (m : Int) = m * 2 := by unfold zz; rw [if_neg (by omega)]; omega
    rw [e1, e2, e3, e4]
    exact bits_xor0 _ (by omega)
  · have e1 : IntKind.wrap .u64 n = n + 18446744073709551616 := by
      simp only [IntKind.wrap, IntKind.signed, IntKind.bits]
      simp
      omega
    obtain ⟨m, hm⟩ : ∃ m : Nat, n + 9223372036854775808 = m := ⟨(n + 9223372036854775808).toNat, by omega⟩
    have e2 : IntKind.wrap .u64 ((n + 18446744073709551616) * 2) = ((m * 2 : Nat) : Int) := by
      simp only [IntKind.wrap, IntKind.signed, IntKind.bits]
      simp
      omega
    have e3 : IntKind.wrap .u64 (Int.fdiv n 9223372036854775808) = 18446744073709551615 := by
      rw [Int.fdiv_eq_ediv_of_nonneg _ (by omega)]
      have : n / 9223372036854775808 = -1 := by omega
      rw [this]
      rfl
    have e4 : zz n = 18446744073709551615 - m * 2 := by unfold zz; rw [if_pos (by omega)]; omega
    rw [e1, e2, e3, e4]
    exact bits_not64 _ (by omega)

theorem e_back (u : Nat) (h : Heap) (h1 : u < 18446744073709551616) : acall mach n_codec_back [.int .u64 u] h = some (.ret (.int .i64 (unzz u)) h) := by
  refine acall_fn rfl (af := a_codec_back) rfl rfl ?_
  simp [List.replicate, go_sem]
  have e1 : Int.fdiv (u : Int) 2 = ((u / 2 : Nat) : Int) := fdiv_nat u 2
  have e2 : bits .and .u64 (u : Int) 1 = ((u % 2 : Nat) : Int) := by
    have := bits_and64 u 1 h1 (by omega)
    rw [and_one] at this
    exact this
  rw [e1, e2, wrap_nat (by omega), wrap_nat (by omega)]
  unfold unzz
  rcases Nat.mod_two_eq_zero_or_one u with hm | hm
  · rw [hm, if_neg (by omega)]
    exact bits_xori0 _ (by omega)
  · rw [hm, if_pos rfl]
    exact bits_noti64 _ (by omega)

theorem e_grown (b : List UInt8) (n : Nat) (h : Heap) (hb : b.length + n ≤ 100000000) : acall mach n_codec_grown [.sl false 1 (B b), .int .i64 n] h = some (.ret (.sl true 1 (B b)) h) := by
  refine acall_fn rfl (af := a_codec_grown) rfl rfl ?_
  have w := wrap_nat (n := b.length + n) (by omega)
  push_cast at w
  simp [List.replicate, go_sem, w]
  omega
theorem e_rest (b : List UInt8) (n : Nat) (h : Heap) (hb : b.length ≤ 100000000) (hn : n ≤ b.length) : acall mach n_codec_rest [.sl false 1 (B b), .int .i64 n] h = some (.ret (.sl true 1 (B (b.drop n))) h) := by
  refine acall_fn rfl (af := a_codec_rest) rfl rfl ?_
  have w := wrap_nat (n := b.length - n) (by omega)
  rw [Int.ofNat_sub hn] at w
  simp [List.replicate, go_sem, w]
  have : (b.drop n).take (b.length - n) = b.drop n := by rw [List.take_of_length_le]; simp
  rw [this]
  refine ⟨⟨hn, by omega, by omega⟩, hn, rfl⟩
theorem e_truth (b : Bool) (h : Heap) : acall mach n_codec_truth [.bool b] h = some (.ret (.int .i64 (if b then 1 else 0)) h) := by
  refine acall_fn rfl (af := a_codec_truth) rfl rfl ?_
  cases b <;> simp [List.replicate, go_sem]
theorem e_rtruth (b : Bool) (h : Heap) : acall mach n_billingref07_truth [.bool b] h = some (.ret (.int .i64 (if b then 1 else 0)) h) := by
  refine acall_fn rfl (af := a_billingref07_truth) rfl rfl ?_
  cases b <;> simp [List.replicate, go_sem]

theorem wrap_succ {i : Nat} (h : i < 4611686018427387904) : IntKind.wrap .i64 ((i : Int) + 1) = (i : Int) + 1 := wrap_i64 (by omega)

/-- The loop that appends a number's code. -/
theorem l_add (n : Int) (h h' : Heap) (n0 : Nat) (k : List It) (r : V)
    (hk : ∀ (b : List UInt8) (u : Nat), u < 128 → b.length ≤ 100000100 → r = .sl true 1 (B (b ++ [UInt8.ofNat u])) → Run mach k (.exit 0) ⟨(.sl true 1 (B b) :: .undef :: .undef :: .undef :: .undef :: .int .u64 (u : Nat) :: .undef :: .undef :: .int .u64 (u : Nat) :: .bool false :: .undef :: .undef :: .undef :: .undef :: .undef :: .undef :: .undef :: .undef :: .undef :: .undef :: .undef :: .undef :: .undef :: []), h⟩ (FinQ [.tmp 4] n0 (.ret r h'))) :
    ∀ (f : Nat) (u : Nat) (b : List UInt8), u ≤ f → u < 18446744073709551616 → b.length + (encN u).length ≤ 100000100 → r = .sl true 1 (B (b ++ encN u)) →
    Run mach (.c codec_add_l1b :: .lp codec_add_l1 :: k) .norm ⟨(.sl true 1 (B b) :: .undef :: .undef :: .undef :: .undef :: .int .u64 (u : Nat) :: .undef :: .undef :: .undef :: .undef :: .undef :: .undef :: .undef :: .undef :: .undef :: .undef :: .undef :: .undef :: .undef :: .undef :: .undef :: .undef :: .undef :: []), h⟩ (FinQ [.tmp 4] n0 (.ret r h'))
  | f, u, b, hf, hu, hb, hr => by
    by_cases h1 : u < 128
    · rw [encN_small h1] at hr hb
      have := hk b u h1 (by omega) hr
      unfold codec_add_l1b
      have e : ¬ (128 : Int) ≤ u := by omega
      simp [go_sem, e]
      exact this
    · cases f with
      | zero => omega
      | succ f =>
        have hbig := encN_big (u := u) (by omega)
        rw [hbig] at hb hr
        have hl := encN_length_pos (u / 128)
        have ih := l_add n h h' n0 k r hk f (u / 128) (b ++ [UInt8.ofNat (128 + u % 128)]) (by omega) (by omega) (by simpa [Nat.add_assoc, Nat.add_comm 1] using hb) (by simpa using hr)
        have e : (128 : Int) ≤ u := by omega
        have e1 : bits .or .u8 (IntKind.wrap .u8 (u : Int)) 128 = (((UInt8.ofNat (128 + u % 128)).toNat : Nat) : Int) := by
          rw [wrap_u8]
          have := bits_or8 (u % 256) 128 (by omega) (by omega)
          rw [or_128 (by omega)] at this
          refine this.trans ?_
          rw [toNat_ofNat (by omega)]
          congr 1
          omega
        have e2 : Int.fdiv (u : Int) 128 = ((u / 128 : Nat) : Int) := fdiv_nat u 128
        have e3 : B b ++ [V.int .u8 (((UInt8.ofNat (128 + u % 128)).toNat : Nat) : Int)] = B (b ++ [UInt8.ofNat (128 + u % 128)]) := by rw [← B_append]; rfl
        simp only [List.length_cons] at hb
        unfold codec_add_l1b
        simp [go_sem, e, e1, e2]
        refine ⟨by omega, ?_⟩
        rw [← e3] at ih
        simpa using ih

theorem e_add (b : List UInt8) (n : Int) (h : Heap) (h1 : -9223372036854775808 ≤ n) (h2 : n ≤ 9223372036854775807) (hb : b.length ≤ 100000000) : acall mach n_codec_add [.sl true 1 (B b), .int .i64 n] h = some (.ret (.sl true 1 (B (b ++ encN (zz n)))) h) := by
  refine acall_fn rfl (af := a_codec_add) rfl rfl ?_
  have hz := zz_lt h1 h2
  have hl := encN_len10 hz
  simp [List.replicate, go_sem, e_zigzag _ _ h1 h2]
  refine l_add n h h h.length _ _ (fun b' u hu hbl hr => ?_) (zz n) (zz n) b (Nat.le_refl _) hz (by omega) rfl
  rw [hr]
  have e1 : IntKind.wrap .u8 (u : Int) = (((UInt8.ofNat u).toNat : Nat) : Int) := by
    rw [wrap_u8, toNat_ofNat (by omega), Nat.mod_eq_of_lt (by omega)]
  have e3 : B b' ++ [V.int .u8 (((UInt8.ofNat u).toNat : Nat) : Int)] = B (b' ++ [UInt8.ofNat u]) := by rw [← B_append]; rfl
  simp [go_sem, e1]
  rw [← e3]
  simp
  omega
end Go.Am
