/- Equations of the functions that decode numbers. -/
import Derived.Test.YtbnjembcmddjoaaE1
set_option linter.unusedSimpArgs false
namespace Go.Am
open Go Go.Pu

/-- What scanning comes to. -/
def scanV (n : Nat) : Dec → V
  | .ok u r => .tup [.int .i64 (unzz u), .int .i64 ((n - r.length : Nat) : Int), .int .i64 0]
  | .bad e => .tup [.int .i64 0, .int .i64 0, .int .i64 e]

theorem pow7 (i : Nat) : 2 ^ (7 * i) = 128 ^ i := by rw [Nat.pow_mul]

theorem dec_drop_rest : ∀ (b : List UInt8) (i u v : Nat) (r : List UInt8), dec i u b = .ok v r → r.length < b.length
  | [], i, u, v, r, h => by simp [dec] at h
  | x :: xs, i, u, v, r, h => by
    simp only [dec] at h
    split at h
    · cases h
    · split at h
      · simp only [Dec.ok.injEq] at h; rw [← h.2]; simp
      · have := dec_drop_rest xs _ _ v r h; simp; omega

/-- One byte's part of a number. -/
theorem scan_step {i u x : Nat} (hi : i ≤ 9) (hu : u < 128 ^ i) (hx : x < 256) (h9 : i = 9 → x = 1) :
    bits .or .u64 (u : Int) (IntKind.wrap .u64 (IntKind.wrap .u64 (bits .and .u8 (x : Int) 127) * 2 ^ (7 * i))) = ((u + x % 128 * 128 ^ i : Nat) : Int) ∧ u + x % 128 * 128 ^ i < 18446744073709551616 ∧ (i < 9 → u + x % 128 * 128 ^ i < 128 ^ (i + 1)) := by
  have hp : 128 ^ i ≤ 128 ^ 9 := Nat.pow_le_pow_right (by omega) hi
  have hb : x % 128 * 128 ^ i < 18446744073709551616 ∧ u + x % 128 * 128 ^ i < 18446744073709551616 := by
    by_cases h : i = 9
    · subst h
      have := h9 rfl
      subst this
      simp at hu ⊢
      omega
    · have hp8 : 128 ^ i ≤ 128 ^ 8 := Nat.pow_le_pow_right (by omega) (by omega)
      have h1 : x % 128 * 128 ^ i ≤ 127 * 128 ^ i := Nat.mul_le_mul_right _ (by omega)
      simp at hp8
      omega
  have e1 : bits .and .u8 (x : Int) 127 = ((x % 128 : Nat) : Int) := by
    have := bits_and8 x 127 hx (by omega)
    rw [and_127 hx] at this
    exact this
  have e2 : IntKind.wrap .u64 ((x % 128 : Nat) : Int) = ((x % 128 : Nat) : Int) := by rw [wrap_u64, Nat.mod_eq_of_lt (by omega)]
  have e3 : IntKind.wrap .u64 (((x % 128 : Nat) : Int) * 2 ^ (7 * i)) = ((x % 128 * 128 ^ i : Nat) : Int) := by
    have h1 : (((x % 128 : Nat) : Int) * 2 ^ (7 * i)) = ((x % 128 * 128 ^ i : Nat) : Int) := by
      rw [← pow7]; push_cast; rfl
    rw [h1, wrap_u64, Nat.mod_eq_of_lt hb.1]
  refine ⟨?_, hb.2, fun h => ?_⟩
  · rw [e1, e2, e3, bits_or64 _ _ (by omega) hb.1]
    have := or_low (u := u) (x := x % 128) (k := 7 * i) (by rw [pow7]; exact hu)
    rw [pow7] at this
    rw [this]
  · have h1 : x % 128 * 128 ^ i ≤ 127 * 128 ^ i := Nat.mul_le_mul_right _ (by omega)
    rw [Nat.pow_succ]
    omega

theorem l_scan (b : List UInt8) (h h' : Heap) (n0 : Nat) (k : List It) (r : V) (hb : b.length ≤ 100000000) (hh : h.take n0 = h')
    (hk : ∀ u : Nat, r = scanV b.length (.bad 2) → Run mach k (.exit 0) ⟨(.sl false 1 (B b) :: .undef :: .undef :: .undef :: .undef :: .int .u64 u :: .int .i64 b.length :: .undef :: .int .i64 b.length :: .sl false 1 (B b) :: .int .i64 b.length :: .bool false :: .undef :: .undef :: .undef :: .undef :: .undef :: .undef :: .undef :: .undef :: .undef :: .undef :: .undef :: .undef :: .undef :: .undef :: .undef :: .undef :: .undef :: .undef :: .undef :: .undef :: .undef :: .undef :: .undef :: .undef :: .undef :: .undef :: .undef :: .undef :: .undef :: .undef :: .undef :: .undef :: .undef :: .undef :: []), h⟩ (FinQ [.tmp 2, .tmp 3, .tmp 4] n0 (.ret r h'))) :
    ∀ (n i u : Nat), i + n = b.length → i ≤ 9 ∨ n = 0 → u < 128 ^ i → r = scanV b.length (dec i u (b.drop i)) →
    Run mach (.c codec_scan_l1b :: .lp codec_scan_l1 :: k) .norm ⟨(.sl false 1 (B b) :: .undef :: .undef :: .undef :: .undef :: .int .u64 u :: .int .i64 i :: .undef :: .undef :: .undef :: .undef :: .undef :: .undef :: .undef :: .undef :: .undef :: .undef :: .undef :: .undef :: .undef :: .undef :: .undef :: .undef :: .undef :: .undef :: .undef :: .undef :: .undef :: .undef :: .undef :: .undef :: .undef :: .undef :: .undef :: .undef :: .undef :: .undef :: .undef :: .undef :: .undef :: .undef :: .undef :: .undef :: .undef :: .undef :: .undef :: []), h⟩ (FinQ [.tmp 2, .tmp 3, .tmp 4] n0 (.ret r h'))
  | 0, i, u, hi, h9, hu, hr => by
    obtain rfl : i = b.length := by omega
    have e : b.drop b.length = [] := by simp
    rw [e] at hr
    have := hk u hr
    unfold codec_scan_l1b
    simp [go_sem]
    exact this
  | n + 1, i, u, hi, h9, hu, hr => by
    have hil : i < b.length := by omega
    have hi9 : i ≤ 9 := by omega
    have hx := b[i].toNat_lt
    rw [List.drop_eq_getElem_cons hil] at hr
    simp only [dec] at hr
    have bt : ∀ {a b : Int}, a = b → (a == b) = true := fun h => beq_iff_eq.2 h
    have bf : ∀ {a b : Int}, ¬ a = b → (a == b) = false := fun h => beq_false_of_ne h
    have nt : ∀ {a b : Int}, ¬ a = b → (a != b) = true := fun h => by simpa using h
    have nf : ∀ {a b : Int}, a = b → (a != b) = false := fun h => by simpa using h
    have w7 : IntKind.wrap .i64 (7 * (i : Int)) = 7 * (i : Int) := wrap_i64 (by omega)
    have t7 : (7 * (i : Int)).toNat = 7 * i := by omega
    have m7 : min (7 * i) 64 = 7 * i := by omega
    have g7 : (0 : Int) ≤ 7 * (i : Int) := by omega
    have ws := wrap_succ (show i < 4611686018427387904 by omega)
    generalize hxe : b[i].toNat = x at *
    have hstep := fun c9 => scan_step hi9 hu hx c9
    generalize hve : u + x % 128 * 128 ^ i = v at *
    have hcont : x < 128 → ¬ (i = 9 ∧ x ≠ 1 ∨ 0 < i ∧ x = 0) → r = .tup [.int .i64 (unzz v), .int .i64 ((i : Int) + 1), .int .i64 0] := fun h1 h2 => by
      rw [if_neg h2, if_pos h1] at hr
      rw [hr]
      simp only [scanV, List.length_drop]
      congr 4
      omega
    by_cases c1 : i = 9
    · by_cases c2 : x = 1
      · obtain ⟨s1, s2, _⟩ := hstep (fun _ => c2)
        have hr' := hcont (by omega) (by omega)
        have p1 : (i : Int) = 9 := by omega
        have p2 : (x : Int) = 1 := by omega
        have p3 : 0 < i := by omega
        have p4 : ¬ (x : Int) = 0 := by omega
        have p5 : (x : Int) < 128 := by omega
        subst hr'
        unfold codec_scan_l1b
        simp [go_sem, hil, B_nth _ _ hil, hxe, bt p1, nf p2, p3, bf p4, p5, w7, t7, m7, g7, s1, e_back _ _ s2, ws, hh]
      · have hr' : r = scanV b.length (.bad 1) := by rw [if_pos (by omega)] at hr; exact hr
        have p1 : (i : Int) = 9 := by omega
        have p2 : ¬ (x : Int) = 1 := by omega
        subst hr'
        unfold codec_scan_l1b
        simp [go_sem, hil, B_nth _ _ hil, hxe, bt p1, nt p2, hh, scanV]
    · have p1 : ¬ (i : Int) = 9 := by omega
      obtain ⟨s1, s2, s3⟩ := hstep (fun h => (c1 h).elim)
      by_cases c2 : 0 < i
      · by_cases c3 : x = 0
        · have hr' : r = scanV b.length (.bad 1) := by rw [if_pos (by omega)] at hr; exact hr
          have p4 : (x : Int) = 0 := by omega
          subst hr'
          unfold codec_scan_l1b
          simp [go_sem, hil, B_nth _ _ hil, hxe, bf p1, c2, bt p4, hh, scanV]
        · have p4 : ¬ (x : Int) = 0 := by omega
          by_cases c4 : x < 128
          · have hr' := hcont c4 (by omega)
            have p5 : (x : Int) < 128 := by omega
            subst hr'
            unfold codec_scan_l1b
            simp [go_sem, hil, B_nth _ _ hil, hxe, bf p1, c2, bf p4, p5, w7, t7, m7, g7, s1, e_back _ _ s2, ws, hh]
          · rw [if_neg (by omega), if_neg c4] at hr
            have p5 : ¬ (x : Int) < 128 := by omega
            have ih := l_scan b h h' n0 k r hb hh hk n (i + 1) v (by omega) (by omega) (s3 (by omega)) hr
            unfold codec_scan_l1b
            simp [go_sem, hil, B_nth _ _ hil, hxe, bf p1, c2, bf p4, p5, w7, t7, m7, g7, s1, ws, hh]
            exact ih
      · by_cases c4 : x < 128
        · have hr' := hcont c4 (by omega)
          have p5 : (x : Int) < 128 := by omega
          subst hr'
          unfold codec_scan_l1b
          simp [go_sem, hil, B_nth _ _ hil, hxe, bf p1, c2, p5, w7, t7, m7, g7, s1, e_back _ _ s2, ws, hh]
        · rw [if_neg (by omega), if_neg c4] at hr
          have p5 : ¬ (x : Int) < 128 := by omega
          have ih := l_scan b h h' n0 k r hb hh hk n (i + 1) v (by omega) (by omega) (s3 (by omega)) hr
          unfold codec_scan_l1b
          simp [go_sem, hil, B_nth _ _ hil, hxe, bf p1, c2, p5, w7, t7, m7, g7, s1, ws, hh]
          exact ih

theorem e_scan (b : List UInt8) (h : Heap) (hb : b.length ≤ 100000000) : acall mach n_codec_scan [.sl false 1 (B b)] h = some (.ret (scanV b.length (dec 0 0 b)) h) := by
  refine acall_fn rfl (af := a_codec_scan) rfl rfl ?_
  simp [List.replicate, go_sem]
  refine l_scan b h h h.length _ _ hb (by simp) (fun u hr => ?_) b.length 0 0 (Nat.zero_add _) (.inl (by omega)) (by simp) rfl
  rw [hr]
  simp [go_sem, scanV]
end Go.Am
