/- Equations of days and dates. -/
import Derived.Test.YtndiiiapmnfhjaaE1
set_option linter.unusedSimpArgs false
namespace Go.Am
open Go Go.Pu

def dayP (y m d : Int) : Int × Int := if d < 1 ∨ lenP y m < d then (0, 6) else (bef y + mcum y (m - 1).toNat + d - 1, 0)

theorem lenP_pos {y m d : Int} (h1 : ¬ d < 1) (h2 : ¬ lenP y m < d) : 2000 ≤ y ∧ y ≤ 2399 ∧ 1 ≤ m ∧ m ≤ 12 ∧ lenP y m = dlen y m ∧ 1 ≤ d ∧ d ≤ dlen y m := by
  unfold lenP at h2 ⊢
  split at h2
  · omega
  · rename_i h; rw [if_neg h]; omega

theorem lenP_in {y m : Int} (h1 : 2000 ≤ y) (h2 : y ≤ 2399) (h3 : 1 ≤ m) (h4 : m ≤ 12) : lenP y m = dlen y m := by unfold lenP; rw [if_neg (by omega)]

theorem l_day (y d N : Int) (M : Nat) (h h' : Heap) (n0 : Nat) (k : List It) (hM : M ≤ 11) (hy : 0 ≤ y) (hN : 0 ≤ N) (hN' : N ≤ 1000000)
    (hk : Run mach k (.exit 0) ⟨(.undef :: .rptr [.int .i64 y, .int .i64 ((M : Int) + 1), .int .i64 d] :: .undef :: .undef :: .int .i64 (N + mcum y M) :: .int .i64 ((M : Int) + 1) :: .undef :: .undef :: .undef :: .undef :: .undef :: .undef :: .undef :: .undef :: .undef :: .undef :: .undef :: .undef :: .undef :: .undef :: .undef :: .undef :: .undef :: .undef :: .undef :: .undef :: .int .i64 ((M : Int) + 1) :: .rptr [.int .i64 ((M : Int) + 1), .int .i64 d] :: .int .i64 ((M : Int) + 1) :: .bool false :: .undef :: .undef :: .undef :: .undef :: .undef :: .undef :: .undef :: .undef :: .undef :: []), h⟩ (FinQ [.tmp 2, .tmp 3] n0 (.ret (.tup [.int .i64 (N + mcum y M), .int .i64 0]) h'))) :
    ∀ (n i : Nat) (v c : Int), i + n = M → v = N + mcum y i → c = (i : Int) + 1 →
    Run mach (.c calendar_Day_l1b :: .lp calendar_Day_l1 :: k) .norm ⟨(.undef :: .rptr [.int .i64 y, .int .i64 ((M : Int) + 1), .int .i64 d] :: .undef :: .undef :: .int .i64 v :: .int .i64 c :: .undef :: .undef :: .undef :: .undef :: .undef :: .undef :: .undef :: .undef :: .undef :: .undef :: .undef :: .undef :: .undef :: .undef :: .undef :: .undef :: .undef :: .undef :: .undef :: .undef :: .undef :: .undef :: .undef :: .undef :: .undef :: .undef :: .undef :: .undef :: .undef :: .undef :: .undef :: .undef :: .undef :: []), h⟩ (FinQ [.tmp 2, .tmp 3] n0 (.ret (.tup [.int .i64 (N + mcum y M), .int .i64 0]) h'))
  | 0, i, v, c, hi, hv, hc => by
    obtain rfl : i = M := by omega
    subst hv; subst hc
    unfold calendar_Day_l1b
    simp [go_sem]
    exact hk
  | n + 1, i, v, c, hi, hv, hc => by
    subst hv; subst hc
    have ih := l_day y d N M h h' n0 k hM hy hN hN' hk n (i + 1) _ _ (by omega) rfl rfl
    have e := e_days y ((i : Int) + 1) [] hy (by omega) (by omega)
    have q : (i : Int) + 1 < (M : Int) + 1 := by omega
    have hm : mcum y (i + 1) = mcum y i + dlen y ((i : Int) + 1) := rfl
    have b1 := mcum_nonneg y (i + 1)
    have b2 := mcum_hi (y := y) (m := i + 1) (by omega)
    have w1 : IntKind.wrap .i64 (N + mcum y i + dlen y ((i : Int) + 1)) = N + mcum y (i + 1) := by rw [hm, ← Int.add_assoc]; exact wrap_i64 (by omega)
    have w2 : IntKind.wrap .i64 ((i : Int) + 1 + 1) = (i : Int) + 1 + 1 := wrap_i64 (by omega)
    have q' : i < M := by omega
    unfold calendar_Day_l1b
    simp [go_sem, q, q', e, w1, w2]
    exact ih

theorem e_Day (y m d : Int) (h : Heap) : acall mach n_calendar_Day [.agg [.int .i64 y, .int .i64 m, .int .i64 d]] h = some (.ret (.tup [.int .i64 (dayP y m d).1, .int .i64 (dayP y m d).2]) h) := by
  refine acall_fn rfl (af := a_calendar_Day) rfl rfl ?_
  unfold dayP
  by_cases h1 : d < 1
  · simp [List.replicate, go_sem, h1]
  by_cases h2 : lenP y m < d
  · simp [List.replicate, go_sem, e_Length, h1, h2]
  rw [if_neg (by omega)]
  obtain ⟨a1, a2, a3, a4, a5, a6, a7⟩ := lenP_pos h1 h2
  have b1 := bef_lo0 a1
  have b2 := bef_hi' a1 (by omega)
  have b3 := dlen_hi y m
  have w : IntKind.wrap .i64 (IntKind.wrap .i64 (bef y + d) - 1) = bef y + d - 1 := by rw [wrap_i64 (n := bef y + d) (by omega), wrap_i64 (by omega)]
  obtain ⟨M, hM⟩ : ∃ M : Nat, m = (M : Int) + 1 := ⟨(m - 1).toNat, by omega⟩
  subst hM
  have e1 : ((M : Int) + 1 - 1).toNat = M := by omega
  have e2 : bef y + mcum y M + d - 1 = bef y + d - 1 + mcum y M := by omega
  rw [e1, e2]
  simp [List.replicate, go_sem, e_Length, h1, h2, e_before y _ a1 (by omega), w]
  generalize bef y + d - 1 = N at *
  refine l_day y d N M h h h.length _ (by omega) (by omega) (by omega) (by omega) ?_ M 0 _ _ (Nat.zero_add _) (by simp [mcum]) (by simp)
  simp [go_sem]
end Go.Am
