/- Equations of the reference's decoding. -/
import Derived.Test.YtbnjembcmddjoaaE5
set_option linter.unusedSimpArgs false
namespace Go.Am
open Go Go.Pu

def numV (d : Dec) : V := .tup [.int .i64 (nv d), .sl true 1 (B (nr d)), .int .i64 (ne d)]

theorem e_Number' (b : List UInt8) (h : Heap) (hb : b.length ≤ 100000000) : acall mach n_codec_Number [.sl false 1 (B b)] h = some (.ret (numV (dec 0 0 b)) h) := e_Number b h hb

theorem rscan_step {i u x : Nat} (hi : i ≤ 9) (hu : u < 128 ^ i) (hx : x < 256) (h9 : i = 9 → x = 1) :
    IntKind.wrap .u64 (((x % 128 : Nat) : Int) * ((128 ^ i : Nat) : Int)) = ((x % 128 * 128 ^ i : Nat) : Int) ∧ IntKind.wrap .u64 ((u : Int) + ((x % 128 * 128 ^ i : Nat) : Int)) = ((u + x % 128 * 128 ^ i : Nat) : Int) := by
  have hs := (scan_step hi hu hx h9).2.1
  have e1 : ((x % 128 : Nat) : Int) * ((128 ^ i : Nat) : Int) = ((x % 128 * 128 ^ i : Nat) : Int) := (Int.natCast_mul _ _).symm
  rw [e1]
  generalize x % 128 * 128 ^ i = q at *
  have e2 : (u : Int) + (q : Int) = ((u + q : Nat) : Int) := (Int.natCast_add _ _).symm
  rw [e2]
  exact ⟨by rw [wrap_u64, Nat.mod_eq_of_lt (by omega)], by rw [wrap_u64, Nat.mod_eq_of_lt (by omega)]⟩

theorem l_rnum (b : List UInt8) (h h' : Heap) (n0 : Nat) (k : List It) (r : V) (hb : b.length ≤ 100000000) (hh : h.take n0 = h') :
    ∀ (n i u p : Nat), i + n = 9 → i ≤ b.length → u < 128 ^ i → p = 128 ^ i → r = numV (dec i u (b.drop i)) →
    Run mach (.c billingref07_Number_l1b :: .lp billingref07_Number_l1 :: k) .norm ⟨(.sl false 1 (B b) :: .undef :: .undef :: .undef :: .undef :: .int .u64 u :: .int .u64 p :: .int .i64 i :: .undef :: .undef :: .undef :: .undef :: .undef :: .undef :: .undef :: .undef :: .undef :: .undef :: .undef :: .undef :: .undef :: .undef :: .undef :: .undef :: .undef :: .undef :: .undef :: .undef :: .undef :: .undef :: .undef :: .undef :: .undef :: .undef :: .undef :: .undef :: .undef :: .undef :: .undef :: .undef :: .undef :: .undef :: .undef :: .undef :: .undef :: .undef :: .undef :: .undef :: .undef :: .undef :: .undef :: .undef :: .undef :: .undef :: .undef :: .undef :: .undef :: .undef :: .undef :: .undef :: .undef :: .undef :: .undef :: .undef :: .undef :: []), h⟩ (FinQ [.tmp 2, .tmp 3, .tmp 4] n0 (.ret r h'))
  | n, i, u, p, hi, hib, hu, hp, hr => by
    have q10 : (i : Int) < 10 := by omega
    by_cases hlen : i = b.length
    · have e : b.drop i = [] := by rw [hlen]; simp
      rw [e] at hr
      have hr' : r = numV (.bad 2) := hr
      subst hr'
      have q1 : (i : Int) = b.length := by omega
      unfold billingref07_Number_l1b
      simp [go_sem, q10, bt' q1, numV, nv, nr, ne, hh, B_nil]
    · have hil : i < b.length := by omega
      have q1 : ¬ (i : Int) = b.length := by omega
      have hi9 : i ≤ 9 := by omega
      have hx := b[i].toNat_lt
      rw [List.drop_eq_getElem_cons hil] at hr
      simp only [dec] at hr
      have ws := wrap_succ (show i < 4611686018427387904 by omega)
      generalize hxe : b[i].toNat = x at *
      have hstep := fun c9 => rscan_step hi9 hu hx c9
      have hstep2 := fun c9 => (scan_step hi9 hu hx c9).2
      have em : Int.tmod (x : Int) 128 = ((x % 128 : Nat) : Int) := tmod_nat x 128
      have wx : IntKind.wrap .u64 (x : Int) = x := by rw [wrap_u64, Nat.mod_eq_of_lt (by omega)]
      have wp : i < 9 → IntKind.wrap .u64 ((p : Int) * 128) = ((p * 128 : Nat) : Int) := fun hlt => by
        have h8 : 128 ^ i ≤ 128 ^ 8 := Nat.pow_le_pow_right (by omega) (by omega)
        have := wrap_u64 (p * 128)
        simp at h8
        rw [Nat.mod_eq_of_lt (by omega)] at this
        exact this
      rw [← hp] at hstep hstep2 hr
      generalize hme : x % 128 = m at *
      generalize hqe : m * p = q at *
      generalize hve : u + q = v at *
      have ej := e_join [] (b.drop (i + 1)) [] (by simp) (by simp; omega)
      rw [List.nil_append, B_nil] at ej
      have t1 : ((i : Int) + 1).toNat = i + 1 := by omega
      have t2 : (0 : Int) ≤ (i : Int) + 1 := by omega
      have t3 : (i : Int) + 1 ≤ b.length := by omega
      have fin : v < 18446744073709551616 → (v % 2 = 1 → IntKind.wrap .i64 (IntKind.wrap .i64 (-IntKind.wrap .i64 (IntKind.wrap .u64 ((v : Int) / 2))) - 1) = unzz v) ∧ (¬ v % 2 = 1 → IntKind.wrap .i64 (IntKind.wrap .u64 ((v : Int) / 2)) = unzz v) := fun hv => by
        have d1 : (v : Int) / 2 = ((v / 2 : Nat) : Int) := by omega
        have d2 : IntKind.wrap .u64 ((v / 2 : Nat) : Int) = ((v / 2 : Nat) : Int) := by rw [wrap_u64, Nat.mod_eq_of_lt (by omega)]
        have d3 : IntKind.wrap .i64 ((v / 2 : Nat) : Int) = ((v / 2 : Nat) : Int) := wrap_nat (by omega)
        rw [d1, d2, d3]
        refine ⟨fun ho => ?_, fun ho => ?_⟩
        · rw [wrap_i64 (n := -((v / 2 : Nat) : Int)) (by omega), wrap_i64 (by omega)]
          unfold unzz
          rw [if_pos ho]
        · rw [unzz_even ho]
      have m2 : Int.tmod (v : Int) 2 = ((v % 2 : Nat) : Int) := tmod_nat v 2
      by_cases c1 : i = 9
      · have p1 : (i : Int) = 9 := by omega
        by_cases c2 : x = 1
        · obtain ⟨s1, s2⟩ := hstep (fun _ => c2)
          obtain ⟨s3, _⟩ := hstep2 (fun _ => c2)
          obtain ⟨f1, f2⟩ := fin s3
          rw [if_neg (by omega), if_pos (by omega)] at hr
          have p2 : (x : Int) = 1 := by omega
          have p3 : 0 < i := by omega
          have p4 : ¬ (x : Int) = 0 := by omega
          have p5 : ¬ (128 : Int) ≤ x := by omega
          subst hr
          unfold billingref07_Number_l1b
          simp [go_sem, q10, hil, bf' q1, B_nth _ _ hil, hxe, wx, bt' p1, nf' p2, p3, bf' p4, p5, em, s1, s2, ws, t1, t2, t3, ej, numV, nv, nr, ne, hh]
          split
          · exact f1 (by omega)
          · exact f2 (by omega)
        · rw [if_pos (by omega)] at hr
          have p2 : ¬ (x : Int) = 1 := by omega
          subst hr
          unfold billingref07_Number_l1b
          simp [go_sem, q10, hil, bf' q1, B_nth _ _ hil, hxe, wx, bt' p1, nt' p2, numV, nv, nr, ne, hh, B_nil]
      · have p1 : ¬ (i : Int) = 9 := by omega
        obtain ⟨s1, s2⟩ := hstep (fun h => (c1 h).elim)
        obtain ⟨s3, s4⟩ := hstep2 (fun h => (c1 h).elim)
        obtain ⟨f1, f2⟩ := fin s3
        have wp := wp (by omega)
        obtain ⟨n, rfl⟩ : ∃ n', n = n' + 1 := ⟨n - 1, by omega⟩
        by_cases c2 : 0 < i
        · by_cases c3 : x = 0
          · rw [if_pos (by omega)] at hr
            have p4 : (x : Int) = 0 := by omega
            subst hr
            unfold billingref07_Number_l1b
            simp [go_sem, q10, hil, bf' q1, B_nth _ _ hil, hxe, wx, bf' p1, c2, bt' p4, numV, nv, nr, ne, hh, B_nil]
          · have p4 : ¬ (x : Int) = 0 := by omega
            rw [if_neg (by omega)] at hr
            by_cases c4 : x < 128
            · rw [if_pos c4] at hr
              have p5 : ¬ (128 : Int) ≤ x := by omega
              subst hr
              unfold billingref07_Number_l1b
              simp [go_sem, q10, hil, bf' q1, B_nth _ _ hil, hxe, wx, bf' p1, c2, bf' p4, p5, em, s1, s2, ws, t1, t2, t3, ej, numV, nv, nr, ne, hh]
              split
              · exact f1 (by omega)
              · exact f2 (by omega)
            · rw [if_neg c4] at hr
              have p5 : (128 : Int) ≤ x := by omega
              have ih := l_rnum b h h' n0 k r hb hh n (i + 1) v (p * 128) (by omega) (by omega) (s4 (by omega)) (by rw [hp, Nat.pow_succ]) hr
              unfold billingref07_Number_l1b
              simp [go_sem, q10, hil, bf' q1, B_nth _ _ hil, hxe, wx, bf' p1, c2, bf' p4, p5, em, s1, s2, ws, wp, hh]
              exact ih
        · rw [if_neg (by omega)] at hr
          by_cases c4 : x < 128
          · rw [if_pos c4] at hr
            have p5 : ¬ (128 : Int) ≤ x := by omega
            subst hr
            unfold billingref07_Number_l1b
            simp [go_sem, q10, hil, bf' q1, B_nth _ _ hil, hxe, wx, bf' p1, c2, p5, em, s1, s2, ws, t1, t2, t3, ej, numV, nv, nr, ne, hh]
            split
            · exact f1 (by omega)
            · exact f2 (by omega)
          · rw [if_neg c4] at hr
            have p5 : (128 : Int) ≤ x := by omega
            have ih := l_rnum b h h' n0 k r hb hh n (i + 1) v (p * 128) (by omega) (by omega) (s4 (by omega)) (by rw [hp, Nat.pow_succ]) hr
            unfold billingref07_Number_l1b
            simp [go_sem, q10, hil, bf' q1, B_nth _ _ hil, hxe, wx, bf' p1, c2, p5, em, s1, s2, ws, wp, hh]
            exact ih

theorem e_rNumber (b : List UInt8) (h : Heap) (hb : b.length ≤ 100000000) : acall mach n_billingref07_Number [.sl false 1 (B b)] h = some (.ret (numV (dec 0 0 b)) h) := by
  refine acall_fn rfl (af := a_billingref07_Number) rfl rfl ?_
  simp [List.replicate, go_sem]
  exact l_rnum b h h h.length _ _ hb (by simp) 9 0 0 1 rfl (by omega) (by simp) (by simp) rfl
end Go.Am
