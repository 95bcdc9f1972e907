/- The calendar's Day. -/
import Derived.Test.YtcjglgeamdfpmaaEL1
import Derived.Test.YtcjglgeamdfpmaaEPt
set_option linter.unusedSimpArgs false
set_option linter.unnecessarySimpa false
set_option linter.unusedVariables false
namespace Go.Am
open Go Go.Pu

theorem e_leap (y : Int) (h : Heap) (hy : 0 ≤ y) : acall mach0 n_calendar_leap [.int .i64 y] h = some (.ret (.bool (leap y)) h) := by
  refine acall_fn rfl (af := a_calendar_leap) rfl rfl ?_
  have m4 : y.tmod 4 = y % 4 := Int.tmod_eq_emod_of_nonneg hy
  have m100 : y.tmod 100 = y % 100 := Int.tmod_eq_emod_of_nonneg hy
  have m400 : y.tmod 400 = y % 400 := Int.tmod_eq_emod_of_nonneg hy
  unfold leap
  by_cases h1 : y % 4 = 0
  · by_cases h2 : y % 100 = 0
    · by_cases h3 : y % 400 = 0
      · simp [List.replicate, go_sem, m4, m100, m400, bt' h1, nf' h2, bt' h3, h1, h2, h3]
      · simp [List.replicate, go_sem, m4, m100, m400, bt' h1, nf' h2, bf' h3, h1, h2, h3]
    · simp [List.replicate, go_sem, m4, m100, m400, bt' h1, nt' h2, h1, h2]
  · have h3 : ¬ y % 400 = 0 := by omega
    simp [List.replicate, go_sem, m4, m100, m400, bf' h1, bf' h3, h1, h3]

theorem e_days (y m : Int) (h : Heap) (hy : 0 ≤ y) (h1 : 1 ≤ m) (h2 : m ≤ 12) : acall mach0 n_calendar_days [.int .i64 y, .int .i64 m] h = some (.ret (.int .i64 (dlen y m)) h) := by
  refine acall_fn rfl (af := a_calendar_days) rfl rfl ?_
  have hm : m = 1 ∨ m = 2 ∨ m = 3 ∨ m = 4 ∨ m = 5 ∨ m = 6 ∨ m = 7 ∨ m = 8 ∨ m = 9 ∨ m = 10 ∨ m = 11 ∨ m = 12 := by omega
  rcases hm with rfl | rfl | rfl | rfl | rfl | rfl | rfl | rfl | rfl | rfl | rfl | rfl
  case inr.inl => cases hl : leap y <;> simp [List.replicate, go_sem, dlen, e_leap y _ hy, hl, wrap_i64]
  all_goals simp [List.replicate, go_sem, dlen, wrap_i64]

def lenP (y m : Int) : Int := if y < 2000 ∨ 2399 < y ∨ m < 1 ∨ 12 < m then 0 else dlen y m

theorem e_Length (y m : Int) (h : Heap) : acall mach0 n_calendar_Length [.int .i64 y, .int .i64 m] h = some (.ret (.int .i64 (lenP y m)) h) := by
  refine acall_fn rfl (af := a_calendar_Length) rfl rfl ?_
  unfold lenP
  by_cases h1 : y < 2000
  · simp [List.replicate, go_sem, h1]
  by_cases h2 : 2399 < y
  · simp [List.replicate, go_sem, h1, h2]
  by_cases h3 : m < 1
  · simp [List.replicate, go_sem, h1, h2, h3]
  by_cases h4 : 12 < m
  · simp [List.replicate, go_sem, h1, h2, h3, h4]
  simp [List.replicate, go_sem, h1, h2, h3, h4, e_days y m _ (by omega) (by omega) (by omega)]

theorem e_before (y : Int) (h : Heap) (h1 : 2000 ≤ y) (h2 : y ≤ 2400) : acall mach0 n_calendar_before [.int .i64 y] h = some (.ret (.int .i64 (bef y)) h) := by
  refine acall_fn rfl (af := a_calendar_before) rfl rfl ?_
  have w0 : IntKind.wrap .i64 (y - 2000) = y - 2000 := wrap_i64 (by omega)
  have w1 : IntKind.wrap .i64 (365 * (y - 2000)) = 365 * (y - 2000) := wrap_i64 (by omega)
  have w2 : IntKind.wrap .i64 (y - 2000 - 1) = y - 2001 := by rw [wrap_i64 (by omega)]; omega
  unfold bef
  by_cases h3 : 2000 < y
  · have h4 : 0 < y - 2000 := by omega
    have d4 : (y - 2001).tdiv 4 = (y - 2001) / 4 := Int.tdiv_eq_ediv_of_nonneg (by omega)
    have d100 : (y - 2001).tdiv 100 = (y - 2001) / 100 := Int.tdiv_eq_ediv_of_nonneg (by omega)
    have d400 : (y - 2001).tdiv 400 = (y - 2001) / 400 := Int.tdiv_eq_ediv_of_nonneg (by omega)
    simp only [List.replicate, go_sem, w0, w1, w2, h3, h4, d4, d100, d400]
    simp [go_sem, w0, w1, w2, d4, d100, d400, h3]
    rw [wrap_i64 (n := (y - 2001) / 4) (by omega), wrap_i64 (n := (y - 2001) / 100) (by omega), wrap_i64 (n := (y - 2001) / 400) (by omega), wrap_i64 (n := (y - 2001) / 4 - (y - 2001) / 100) (by omega), wrap_i64 (n := (y - 2001) / 4 - (y - 2001) / 100 + (y - 2001) / 400) (by omega), wrap_i64 (n := (y - 2001) / 4 - (y - 2001) / 100 + (y - 2001) / 400 + 1) (by omega), wrap_i64 (by omega)]
  · have h4 : ¬ 0 < y - 2000 := by omega
    simp [List.replicate, go_sem, w0, w1, h3, h4]


def dayP (y m d : Int) : Int × Int := if d < 1 ∨ lenP y m < d then (0, 6) else (bef y + mcum y (m - 1).toNat + d - 1, 0)

theorem lenP_pos {y m d : Int} (h1 : ¬ d < 1) (h2 : ¬ lenP y m < d) : 2000 ≤ y ∧ y ≤ 2399 ∧ 1 ≤ m ∧ m ≤ 12 ∧ lenP y m = dlen y m ∧ 1 ≤ d ∧ d ≤ dlen y m := by
  unfold lenP at h2 ⊢
  split at h2
  · omega
  · rename_i h; rw [if_neg h]; omega

theorem lenP_in {y m : Int} (h1 : 2000 ≤ y) (h2 : y ≤ 2399) (h3 : 1 ≤ m) (h4 : m ≤ 12) : lenP y m = dlen y m := by unfold lenP; rw [if_neg (by omega)]

theorem l_day (y d N : Int) (M : Nat) (h h' : Heap) (n0 : Nat) (k : List It) (hM : M ≤ 11) (hy : 0 ≤ y) (hN : 0 ≤ N) (hN' : N ≤ 1000000)
    (hk : Run mach0 k (.exit 0) ⟨(.undef :: .rptr [.int .i64 y, .int .i64 ((M : Int) + 1), .int .i64 d] :: .undef :: .undef :: .int .i64 (N + mcum y M) :: .int .i64 ((M : Int) + 1) :: .undef :: .undef :: .undef :: .undef :: .undef :: .undef :: .undef :: .undef :: .undef :: .undef :: .undef :: .undef :: .undef :: .undef :: .undef :: .undef :: .undef :: .undef :: .undef :: .undef :: .int .i64 ((M : Int) + 1) :: .rptr [.int .i64 ((M : Int) + 1), .int .i64 d] :: .int .i64 ((M : Int) + 1) :: .bool false :: .undef :: .undef :: .undef :: .undef :: .undef :: .undef :: .undef :: .undef :: .undef :: []), h⟩ (FinQ [.tmp 2, .tmp 3] n0 (.ret (.tup [.int .i64 (N + mcum y M), .int .i64 0]) h'))) :
    ∀ (n i : Nat) (v c : Int), i + n = M → v = N + mcum y i → c = (i : Int) + 1 →
    Run mach0 (.c calendar_Day_l1b :: .lp calendar_Day_l1 :: k) .norm ⟨(.undef :: .rptr [.int .i64 y, .int .i64 ((M : Int) + 1), .int .i64 d] :: .undef :: .undef :: .int .i64 v :: .int .i64 c :: .undef :: .undef :: .undef :: .undef :: .undef :: .undef :: .undef :: .undef :: .undef :: .undef :: .undef :: .undef :: .undef :: .undef :: .undef :: .undef :: .undef :: .undef :: .undef :: .undef :: .undef :: .undef :: .undef :: .undef :: .undef :: .undef :: .undef :: .undef :: .undef :: .undef :: .undef :: .undef :: .undef :: []), h⟩ (FinQ [.tmp 2, .tmp 3] n0 (.ret (.tup [.int .i64 (N + mcum y M), .int .i64 0]) h'))
  | 0, i, v, c, hi, hv, hc => by
    obtain rfl : i = M := by omega
    subst hv; subst hc
    unfold calendar_Day_l1b
    simp [go_sem]
    exact hk
  | n + 1, i, v, c, hi, hv, hc => by
    subst hv; subst hc
    have ih := l_day y d N M h h' n0 k hM hy hN hN' hk n (i + 1) _ _ (by omega) rfl rfl
    have e := e_days y ((i : Int) + 1) [] hy (by omega) (by omega)
    have q : (i : Int) + 1 < (M : Int) + 1 := by omega
    have hm : mcum y (i + 1) = mcum y i + dlen y ((i : Int) + 1) := rfl
    have b1 := mcum_nonneg y (i + 1)
    have b2 := mcum_hi (y := y) (m := i + 1) (by omega)
    have w1 : IntKind.wrap .i64 (N + mcum y i + dlen y ((i : Int) + 1)) = N + mcum y (i + 1) := by rw [hm, ← Int.add_assoc]; exact wrap_i64 (by omega)
    have w2 : IntKind.wrap .i64 ((i : Int) + 1 + 1) = (i : Int) + 1 + 1 := wrap_i64 (by omega)
    have q' : i < M := by omega
    unfold calendar_Day_l1b
    simp [go_sem, q, q', e, w1, w2]
    exact ih

theorem e_Day (y m d : Int) (h : Heap) : acall mach0 n_calendar_Day [.agg [.int .i64 y, .int .i64 m, .int .i64 d]] h = some (.ret (.tup [.int .i64 (dayP y m d).1, .int .i64 (dayP y m d).2]) h) := by
  refine acall_fn rfl (af := a_calendar_Day) rfl rfl ?_
  unfold dayP
  by_cases h1 : d < 1
  · simp [List.replicate, go_sem, h1]
  by_cases h2 : lenP y m < d
  · simp [List.replicate, go_sem, e_Length, h1, h2]
  rw [if_neg (by omega)]
  obtain ⟨a1, a2, a3, a4, a5, a6, a7⟩ := lenP_pos h1 h2
  have b1 := bef_lo0 a1
  have b2 := bef_hi' a1 (by omega)
  have b3 := dlen_hi y m
  have w : IntKind.wrap .i64 (IntKind.wrap .i64 (bef y + d) - 1) = bef y + d - 1 := by rw [wrap_i64 (n := bef y + d) (by omega), wrap_i64 (by omega)]
  obtain ⟨M, hM⟩ : ∃ M : Nat, m = (M : Int) + 1 := ⟨(m - 1).toNat, by omega⟩
  subst hM
  have e1 : ((M : Int) + 1 - 1).toNat = M := by omega
  have e2 : bef y + mcum y M + d - 1 = bef y + d - 1 + mcum y M := by omega
  rw [e1, e2]
  simp [List.replicate, go_sem, e_Length, h1, h2, e_before y _ a1 (by omega), w]
  generalize bef y + d - 1 = N at *
  refine l_day y d N M h h h.length _ (by omega) (by omega) (by omega) (by omega) ?_ M 0 _ _ (Nat.zero_add _) (by simp [mcum]) (by simp)
  simp [go_sem, calendar_Day_k1]
  simp [go_sem, calendar_Day_k1b]

theorem lenP_lenQ (y m : Int) : lenP y m = lenQ y m := rfl
theorem dayP_dayQ (y m d : Int) : dayP y m d = match dayQ y m d with
    | some v => (v, 0)
    | none => (0, 6) := by
  unfold dayP dayQ
  rw [lenP_lenQ]
  split <;> rfl
end Go.Am
