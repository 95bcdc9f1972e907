/- Equations of the reference's number code. -/
import Derived.Test.YtbnjembcmddjoaaE4
set_option linter.unusedSimpArgs false
namespace Go.Am
open Go Go.Pu

theorem tmod_nat (u k : Nat) : Int.tmod (u : Int) (k : Int) = ((u % k : Nat) : Int) := rfl
theorem tdiv_nat (u k : Nat) : Int.tdiv (u : Int) (k : Int) = ((u / k : Nat) : Int) := rfl

theorem l_bytes (h h' : Heap) (n0 : Nat) (k : List It) (r : V)
    (hk : ∀ (b : List UInt8) (u : Nat), u < 128 → b.length ≤ 20 → r = .sl true 1 (B (b ++ [UInt8.ofNat u])) → Run mach k (.exit 0) ⟨(.undef :: .undef :: .undef :: .int .u64 (u : Nat) :: .sl true 1 (B b) :: .undef :: .undef :: .undef :: .undef :: .undef :: .undef :: .undef :: .undef :: .undef :: .undef :: .undef :: .int .u64 (u : Nat) :: .bool false :: .undef :: .undef :: .undef :: .undef :: .undef :: .undef :: .undef :: .undef :: .undef :: .undef :: .undef :: .undef :: .undef :: .undef :: []), h⟩ (FinQ [.tmp 2] n0 (.ret r h'))) :
    ∀ (f : Nat) (u : Nat) (b : List UInt8), u ≤ f → u < 18446744073709551616 → b.length + (encN u).length ≤ 20 → r = .sl true 1 (B (b ++ encN u)) →
    Run mach (.c billingref07_Bytes_l1b :: .lp billingref07_Bytes_l1 :: k) .norm ⟨(.undef :: .undef :: .undef :: .int .u64 (u : Nat) :: .sl true 1 (B b) :: .undef :: .undef :: .undef :: .undef :: .undef :: .undef :: .undef :: .undef :: .undef :: .undef :: .undef :: .undef :: .undef :: .undef :: .undef :: .undef :: .undef :: .undef :: .undef :: .undef :: .undef :: .undef :: .undef :: .undef :: .undef :: .undef :: .undef :: []), h⟩ (FinQ [.tmp 2] n0 (.ret r h'))
  | f, u, b, hf, hu, hb, hr => by
    by_cases h1 : u < 128
    · rw [encN_small h1] at hr hb
      have := hk b u h1 (by omega) hr
      unfold billingref07_Bytes_l1b
      have e : ¬ (127 : Int) < u := by omega
      simp [go_sem, e]
      exact this
    · cases f with
      | zero => omega
      | succ f =>
        have hbig := encN_big (u := u) (by omega)
        rw [hbig] at hb hr
        have hl := encN_length_pos (u / 128)
        have ih := l_bytes h h' n0 k r hk f (u / 128) (b ++ [UInt8.ofNat (128 + u % 128)]) (by omega) (by omega) (by simpa [Nat.add_assoc, Nat.add_comm 1] using hb) (by simpa using hr)
        have e : (127 : Int) < u := by omega
        have em : Int.tmod (u : Int) 128 = ((u % 128 : Nat) : Int) := tmod_nat u 128
        have ed : Int.tdiv (u : Int) 128 = ((u / 128 : Nat) : Int) := tdiv_nat u 128
        generalize hd : u / 128 = d at *
        generalize hm : u % 128 = m at *
        have hm' : m < 128 := by omega
        have e1 : IntKind.wrap .u64 (128 + (m : Int)) = ((128 + m : Nat) : Int) := by
          have := wrap_u64 (128 + m)
          rw [Nat.mod_eq_of_lt (by omega)] at this
          exact this
        have e2 : IntKind.wrap .u8 ((128 + m : Nat) : Int) = (((UInt8.ofNat (128 + m)).toNat : Nat) : Int) := by
          rw [wrap_u8, toNat_ofNat (by omega), Nat.mod_eq_of_lt (by omega)]
        have e3 : IntKind.wrap .u64 (d : Int) = (d : Int) := by rw [wrap_u64, Nat.mod_eq_of_lt (by omega)]
        generalize hx : UInt8.ofNat (128 + m) = x at *
        have e4 : B b ++ [V.int .u8 (x.toNat : Int)] = B (b ++ [x]) := by rw [← B_append]; rfl
        generalize 128 + m = c at *
        simp only [List.length_cons] at hb
        unfold billingref07_Bytes_l1b
        simp [go_sem, e, em, ed, e1, e2, e3]
        refine ⟨by omega, ?_⟩
        rw [← e4] at ih
        simpa using ih

theorem e_Bytes (n : Int) (h : Heap) (h1 : -9223372036854775808 ≤ n) (h2 : n ≤ 9223372036854775807) : acall mach n_billingref07_Bytes [.int .i64 n] h = some (.ret (.sl true 1 (B (encN (zz n)))) h) := by
  refine acall_fn rfl (af := a_billingref07_Bytes) rfl rfl ?_
  have hz := zz_lt h1 h2
  have hl := encN_len10 hz
  by_cases hn : n < 0
  · have e : IntKind.wrap .u64 (IntKind.wrap .u64 (2 * IntKind.wrap .u64 (IntKind.wrap .i64 (-IntKind.wrap .i64 (n + 1)))) + 1) = (zz n : Nat) := by
      obtain ⟨m, hm⟩ : ∃ m : Nat, -(n + 1) = m := ⟨(-(n + 1)).toNat, by omega⟩
      have a1 : IntKind.wrap .i64 (n + 1) = n + 1 := wrap_i64 (by omega)
      have a2 : IntKind.wrap .i64 (m : Int) = m := wrap_i64 (by omega)
      have a3 : IntKind.wrap .u64 (m : Int) = m := by rw [wrap_u64, Nat.mod_eq_of_lt (by omega)]
      have a4 : IntKind.wrap .u64 (2 * (m : Int)) = ((2 * m : Nat) : Int) := by
        have := wrap_u64 (2 * m)
        rw [Nat.mod_eq_of_lt (by omega)] at this
        exact this
      have a5 : IntKind.wrap .u64 (((2 * m : Nat) : Int) + 1) = ((2 * m + 1 : Nat) : Int) := by
        have := wrap_u64 (2 * m + 1)
        rw [Nat.mod_eq_of_lt (by omega)] at this
        exact this
      rw [a1, hm, a2, a3, a4, a5]
      unfold zz
      rw [if_pos hn]
      omega
    simp [List.replicate, go_sem, hn, e]
    refine l_bytes h h h.length _ _ (fun b u hu hbl hr => ?_) (zz n) (zz n) [] (Nat.le_refl _) hz (by simp; omega) rfl
    rw [hr]
    have e1 : IntKind.wrap .u8 (u : Int) = (((UInt8.ofNat u).toNat : Nat) : Int) := by
      rw [wrap_u8, toNat_ofNat (by omega), Nat.mod_eq_of_lt (by omega)]
    have e3 : B b ++ [V.int .u8 (((UInt8.ofNat u).toNat : Nat) : Int)] = B (b ++ [UInt8.ofNat u]) := by rw [← B_append]; rfl
    simp [go_sem, e1]
    rw [← e3]
    simp
    omega
  · have e : IntKind.wrap .u64 (2 * IntKind.wrap .u64 n) = (zz n : Nat) := by
      obtain ⟨m, rfl⟩ := Int.eq_ofNat_of_zero_le (show 0 ≤ n by omega)
      rw [wrap_u64, Nat.mod_eq_of_lt (by omega), zz_nat]
      have := wrap_u64 (2 * m)
      rw [Nat.mod_eq_of_lt (by omega)] at this
      exact this
    simp [List.replicate, go_sem, hn, e]
    refine l_bytes h h h.length _ _ (fun b u hu hbl hr => ?_) (zz n) (zz n) [] (Nat.le_refl _) hz (by simp; omega) rfl
    rw [hr]
    have e1 : IntKind.wrap .u8 (u : Int) = (((UInt8.ofNat u).toNat : Nat) : Int) := by
      rw [wrap_u8, toNat_ofNat (by omega), Nat.mod_eq_of_lt (by omega)]
    have e3 : B b ++ [V.int .u8 (((UInt8.ofNat u).toNat : Nat) : Int)] = B (b ++ [UInt8.ofNat u]) := by rw [← B_append]; rfl
    simp [go_sem, e1]
    rw [← e3]
    simp
    omega

theorem e_rPutNumber (b : List UInt8) (n : Int) (h : Heap) (h1 : -9223372036854775808 ≤ n) (h2 : n ≤ 9223372036854775807) (hb : b.length ≤ 10000000) : acall mach n_billingref07_PutNumber [.sl false 1 (B b), .int .i64 n] h = some (.ret (.sl true 1 (B (b ++ encN (zz n)))) h) := by
  refine acall_fn rfl (af := a_billingref07_PutNumber) rfl rfl ?_
  have hl := encN_len10 (zz_lt h1 h2)
  simp [List.replicate, go_sem, e_Bytes _ _ h1 h2, e_join b (encN (zz n)) [] (by omega) (by omega)]
end Go.Am
