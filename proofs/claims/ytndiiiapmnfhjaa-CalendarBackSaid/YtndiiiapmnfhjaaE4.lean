/- Equations of the reference's days and dates; weekdays. -/
import Derived.Test.YtndiiiapmnfhjaaE3
set_option linter.unusedSimpArgs false
namespace Go.Am
open Go Go.Pu

theorem l_rbef1 (y m : Int) (h h' : Heap) (n0 : Nat) (k : List It) (r : V) (hy : 2000 ≤ y) (hy' : y ≤ 2399)
    (hk : Run mach k (.exit 0) ⟨(.int .i64 y :: .int .i64 m :: .undef :: .undef :: .undef :: .int .i64 (bef y) :: .int .i64 y :: .undef :: .int .i64 y :: .int .i64 y :: .bool false :: .undef :: .undef :: .undef :: .undef :: .undef :: .undef :: .undef :: .undef :: .undef :: .undef :: .undef :: .undef :: .undef :: .undef :: .undef :: .undef :: .undef :: []), h⟩ (FinQ [.tmp 4] n0 (.ret r h'))) :
    ∀ (n : Nat) (x v : Int), x + n = y → 2000 ≤ x → v = bef x →
    Run mach (.c billingref03_before_l1b :: .lp billingref03_before_l1 :: k) .norm ⟨(.int .i64 y :: .int .i64 m :: .undef :: .undef :: .undef :: .int .i64 v :: .int .i64 x :: .undef :: .undef :: .undef :: .undef :: .undef :: .undef :: .undef :: .undef :: .undef :: .undef :: .undef :: .undef :: .undef :: .undef :: .undef :: .undef :: .undef :: .undef :: .undef :: .undef :: .undef :: []), h⟩ (FinQ [.tmp 4] n0 (.ret r h'))
  | 0, x, v, hx, hx0, hv => by
    obtain rfl : x = y := by omega
    subst hv
    unfold billingref03_before_l1b
    simp [go_sem]
    exact hk
  | n + 1, x, v, hx, hx0, hv => by
    have hs := bef_succ hx0
    have b1 := bef_lo0 hx0
    have b2 := bef_hi' (y := x + 1) (by omega) (by omega)
    have ih := l_rbef1 y m h h' n0 k r hy hy' hk n (x + 1) (v + ylen x) (by omega) (by omega) (by omega)
    have hl := ylen_lo x
    have w1 : IntKind.wrap .i64 (v + ylen x) = v + ylen x := wrap_i64 (by omega)
    have w2 : IntKind.wrap .i64 (x + 1) = x + 1 := wrap_i64 (by omega)
    have q : x < y := by omega
    unfold billingref03_before_l1b
    simp [go_sem, q, e_year x [] (by omega), w1, w2]
    exact ih

theorem l_rbef2 (y N : Int) (M : Nat) (h h' : Heap) (n0 : Nat) (k : List It) (r : V) (hM : M ≤ 11) (hy : 2000 ≤ y) (hy' : y ≤ 2399) (hN : 0 ≤ N) (hN' : N ≤ 1000000)
    (hk : Run mach k (.exit 2) ⟨(.int .i64 y :: .int .i64 ((M : Int) + 1) :: .undef :: .undef :: .undef :: .int .i64 (N + mcum y M) :: .undef :: .int .i64 ((M : Int) + 1) :: .undef :: .undef :: .undef :: .undef :: .undef :: .undef :: .undef :: .undef :: .undef :: .int .i64 ((M : Int) + 1) :: .int .i64 ((M : Int) + 1) :: .bool false :: .undef :: .undef :: .undef :: .undef :: .undef :: .undef :: .undef :: .undef :: []), h⟩ (FinQ [.tmp 4] n0 (.ret r h'))) :
    ∀ (n i : Nat) (v c : Int), i + n = M → v = N + mcum y i → c = (i : Int) + 1 →
    Run mach (.c billingref03_before_l2b :: .lp billingref03_before_l2 :: k) .norm ⟨(.int .i64 y :: .int .i64 ((M : Int) + 1) :: .undef :: .undef :: .undef :: .int .i64 v :: .undef :: .int .i64 c :: .undef :: .undef :: .undef :: .undef :: .undef :: .undef :: .undef :: .undef :: .undef :: .undef :: .undef :: .undef :: .undef :: .undef :: .undef :: .undef :: .undef :: .undef :: .undef :: .undef :: []), h⟩ (FinQ [.tmp 4] n0 (.ret r h'))
  | 0, i, v, c, hi, hv, hc => by
    obtain rfl : i = M := by omega
    subst hv; subst hc
    unfold billingref03_before_l2b
    simp [go_sem]
    exact hk
  | n + 1, i, v, c, hi, hv, hc => by
    have hm : mcum y (i + 1) = mcum y i + dlen y ((i : Int) + 1) := rfl
    have ih := l_rbef2 y N M h h' n0 k r hM hy hy' hN hN' hk n (i + 1) (v + dlen y ((i : Int) + 1)) (c + 1) (by omega) (by omega) (by omega)
    have b1 := mcum_nonneg y i
    have b2 := mcum_hi (y := y) (m := i + 1) (by omega)
    have e := e_rLength y ((i : Int) + 1) []
    rw [lenP_in hy hy' (by omega) (by omega)] at e
    have hdl := dlen_lo y ((i : Int) + 1)
    have w1 : IntKind.wrap .i64 (v + dlen y ((i : Int) + 1)) = v + dlen y ((i : Int) + 1) := wrap_i64 (by omega)
    have w2 : IntKind.wrap .i64 (c + 1) = c + 1 := wrap_i64 (by omega)
    have q : i < M := by omega
    subst hc
    unfold billingref03_before_l2b
    simp [go_sem, q, e, w1, w2]
    exact ih

theorem e_rbefore (y m : Int) (h : Heap) (hy : 2000 ≤ y) (hy' : y ≤ 2399) (hm : 1 ≤ m) (hm' : m ≤ 12) : acall mach n_billingref03_before [.int .i64 y, .int .i64 m] h = some (.ret (.int .i64 (bef y + mcum y (m - 1).toNat)) h) := by
  refine acall_fn rfl (af := a_billingref03_before) rfl rfl ?_
  obtain ⟨M, hM⟩ : ∃ M : Nat, m = (M : Int) + 1 := ⟨(m - 1).toNat, by omega⟩
  subst hM
  have e1 : ((M : Int) + 1 - 1).toNat = M := by omega
  rw [e1]
  have b1 := bef_lo0 hy
  have b2 := bef_hi' hy (by omega)
  simp [List.replicate, go_sem]
  refine l_rbef1 y _ h h h.length _ _ hy hy' ?_ (y - 2000).toNat 2000 0 (by omega) (by omega) bef_zero.symm
  simp [go_sem]
  refine l_rbef2 y (bef y) M h h h.length _ _ (by omega) hy hy' b1 (by omega) ?_ M 0 _ _ (Nat.zero_add _) (by simp [mcum]) (by simp)
  simp [go_sem]

theorem e_rDay (y m d : Int) (h : Heap) : acall mach n_billingref03_Day [.agg [.int .i64 y, .int .i64 m, .int .i64 d]] h = some (.ret (.tup [.int .i64 (dayP y m d).1, .int .i64 (dayP y m d).2]) h) := by
  refine acall_fn rfl (af := a_billingref03_Day) rfl rfl ?_
  unfold dayP
  by_cases h1 : d < 1
  · simp [List.replicate, go_sem, h1]
  by_cases h2 : lenP y m < d
  · simp [List.replicate, go_sem, e_rLength, h1, h2]
  rw [if_neg (by omega)]
  obtain ⟨a1, a2, a3, a4, a5, a6, a7⟩ := lenP_pos h1 h2
  have b1 := bef_lo0 a1
  have b2 := bef_hi' a1 (by omega)
  have b3 := dlen_hi y m
  have b4 := mcum_nonneg y (m - 1).toNat
  have b5 := mcum_hi (y := y) (m := (m - 1).toNat) (by omega)
  have e := e_rbefore y m [] a1 a2 a3 a4
  generalize mcum y (m - 1).toNat = c at *
  have w : IntKind.wrap .i64 (IntKind.wrap .i64 (bef y + c + d) - 1) = bef y + c + d - 1 := by rw [wrap_i64 (n := bef y + c + d) (by omega), wrap_i64 (by omega)]
  simp [List.replicate, go_sem, e_rLength, h1, h2, e, w]

theorem l_rdate1 (day Y : Int) (h h' : Heap) (n0 : Nat) (k : List It) (r : V) (hY : 2000 ≤ Y) (hY' : Y ≤ 2399) (h1 : bef Y ≤ day) (h2 : day < bef (Y + 1))
    (hk : Run mach k (.exit 0) ⟨(.undef :: .undef :: .box [.int .i64 0, .int .i64 0, .int .i64 0] :: .int .i64 Y :: .int .i64 1 :: .int .i64 (day - bef Y) :: .undef :: .undef :: .undef :: .undef :: .undef :: .undef :: .undef :: .undef :: .int .i64 (day - bef Y) :: .int .i64 Y :: .int .i64 (ylen Y) :: .bool false :: .undef :: .undef :: .undef :: .undef :: .undef :: .undef :: .undef :: .undef :: .undef :: .undef :: .undef :: .undef :: .undef :: .undef :: .undef :: .undef :: .undef :: .undef :: .undef :: .undef :: .undef :: .undef :: .undef :: []), h⟩ (FinQ [.cell 2 (some 3)] n0 (.ret r h'))) :
    ∀ (n : Nat) (y v : Int), y + n = Y → 2000 ≤ y → v = day - bef y →
    Run mach (.c billingref03_Date_l1b :: .lp billingref03_Date_l1 :: k) .norm ⟨(.undef :: .undef :: .box [.int .i64 0, .int .i64 0, .int .i64 0] :: .int .i64 y :: .int .i64 1 :: .int .i64 v :: .undef :: .undef :: .undef :: .undef :: .undef :: .undef :: .undef :: .undef :: .undef :: .undef :: .undef :: .undef :: .undef :: .undef :: .undef :: .undef :: .undef :: .undef :: .undef :: .undef :: .undef :: .undef :: .undef :: .undef :: .undef :: .undef :: .undef :: .undef :: .undef :: .undef :: .undef :: .undef :: .undef :: .undef :: .undef :: []), h⟩ (FinQ [.cell 2 (some 3)] n0 (.ret r h'))
  | 0, y, v, hy, hy0, hv => by
    obtain rfl : y = Y := by omega
    subst hv
    have hs := bef_succ hy0
    have q : ¬ ylen y ≤ day - bef y := by omega
    unfold billingref03_Date_l1b
    simp [go_sem, e_year y [] (by omega), q]
    exact hk
  | n + 1, y, v, hy, hy0, hv => by
    have hs := bef_succ hy0
    have hle := bef_le (a := y + 1) (b := Y) (by omega) (by omega)
    have b1 := bef_lo0 hy0
    have b2 := bef_hi' (y := Y + 1) (by omega) (by omega)
    have q : ylen y ≤ v := by omega
    have hl := ylen_lo y
    have ih := l_rdate1 day Y h h' n0 k r hY hY' h1 h2 hk n (y + 1) (v - ylen y) (by omega) (by omega) (by omega)
    have w1 : IntKind.wrap .i64 (v - ylen y) = v - ylen y := wrap_i64 (by omega)
    have w2 : IntKind.wrap .i64 (y + 1) = y + 1 := wrap_i64 (by omega)
    unfold billingref03_Date_l1b
    simp [go_sem, e_year y [] (by omega), q, w1, w2]
    exact ih

theorem l_rdate2 (Y : Int) (M D : Nat) (h h' : Heap) (n0 : Nat) (k : List It) (r : V) (hY : 2000 ≤ Y) (hY' : Y ≤ 2399) (hM : M ≤ 11) (hD : (D : Int) < dlen Y ((M : Int) + 1))
    (hk : Run mach k (.exit 2) ⟨(.undef :: .undef :: .box [.int .i64 0, .int .i64 0, .int .i64 0] :: .int .i64 Y :: .int .i64 ((M : Int) + 1) :: .int .i64 D :: .undef :: .undef :: .undef :: .undef :: .undef :: .undef :: .undef :: .undef :: .undef :: .undef :: .undef :: .undef :: .undef :: .undef :: .undef :: .undef :: .undef :: .undef :: .int .i64 D :: .int .i64 Y :: .int .i64 ((M : Int) + 1) :: .int .i64 (dlen Y ((M : Int) + 1)) :: .bool false :: .undef :: .undef :: .undef :: .undef :: .undef :: .undef :: .undef :: .undef :: .undef :: .undef :: .undef :: .undef :: []), h⟩ (FinQ [.cell 2 (some 3)] n0 (.ret r h'))) :
    ∀ (n i : Nat) (v c : Int), i + n = M → v = D + mcum Y M - mcum Y i → c = (i : Int) + 1 →
    Run mach (.c billingref03_Date_l2b :: .lp billingref03_Date_l2 :: k) .norm ⟨(.undef :: .undef :: .box [.int .i64 0, .int .i64 0, .int .i64 0] :: .int .i64 Y :: .int .i64 c :: .int .i64 v :: .undef :: .undef :: .undef :: .undef :: .undef :: .undef :: .undef :: .undef :: .undef :: .undef :: .undef :: .undef :: .undef :: .undef :: .undef :: .undef :: .undef :: .undef :: .undef :: .undef :: .undef :: .undef :: .undef :: .undef :: .undef :: .undef :: .undef :: .undef :: .undef :: .undef :: .undef :: .undef :: .undef :: .undef :: .undef :: []), h⟩ (FinQ [.cell 2 (some 3)] n0 (.ret r h'))
  | 0, i, v, c, hi, hv, hc => by
    obtain rfl : i = M := by omega
    have hv : v = D := by omega
    subst hv; subst hc
    have e := e_rLength Y ((i : Int) + 1) []
    rw [lenP_in hY hY' (by omega) (by omega)] at e
    have q : ¬ dlen Y ((i : Int) + 1) ≤ D := by omega
    unfold billingref03_Date_l2b
    simp [go_sem, e, q]
    exact hk
  | n + 1, i, v, c, hi, hv, hc => by
    have e := e_rLength Y ((i : Int) + 1) []
    rw [lenP_in hY hY' (by omega) (by omega)] at e
    have hm : mcum Y (i + 1) = mcum Y i + dlen Y ((i : Int) + 1) := rfl
    have hmono := mcum_mono Y (a := i + 1) (b := M) (by omega)
    have hlo := mcum_nonneg Y i
    have hhi := mcum_hi (y := Y) (m := M) (by omega)
    have hd := dlen_hi Y ((M : Int) + 1)
    have q : dlen Y ((i : Int) + 1) ≤ v := by omega
    have ih := l_rdate2 Y M D h h' n0 k r hY hY' hM hD hk n (i + 1) (v - dlen Y ((i : Int) + 1)) (c + 1) (by omega) (by omega) (by omega)
    have hdl := dlen_lo Y ((i : Int) + 1)
    have w1 : IntKind.wrap .i64 (v - dlen Y ((i : Int) + 1)) = v - dlen Y ((i : Int) + 1) := wrap_i64 (by omega)
    have w2 : IntKind.wrap .i64 (c + 1) = c + 1 := wrap_i64 (by omega)
    subst hc
    unfold billingref03_Date_l2b
    simp [go_sem, e, q, w1, w2]
    exact ih

theorem e_rDate {day y m d : Int} (hd : IsDate day y m d) (h : Heap) : acall mach n_billingref03_Date [.int .i64 day] h = some (.ret (.agg [.int .i64 y, .int .i64 m, .int .i64 d]) h) := by
  refine acall_fn rfl (af := a_billingref03_Date) rfl rfl ?_
  have hlo := hd.lo
  have hhi := hd.hi
  have h1 : ¬ day < 0 := by omega
  have h2 : ¬ 146097 ≤ day := by omega
  have hy1 := hd.y1
  have hy2 := hd.y2
  have hm1 := hd.m1
  have hm2 := hd.m2
  have hd1 := hd.d1
  have hd2 := hd.d2
  have hdl := dlen_hi y m
  simp [List.replicate, go_sem, h1, h2]
  refine l_rdate1 day y h h h.length _ _ hy1 hy2 hd.year.1 hd.year.2 ?_ (y - 2000).toNat 2000 _ (by omega) (by omega) (by rw [bef_zero]; omega)
  obtain ⟨M, hM⟩ : ∃ M : Nat, m = (M : Int) + 1 := ⟨(m - 1).toNat, by omega⟩
  obtain ⟨D, hD⟩ : ∃ D : Nat, d = (D : Int) + 1 := ⟨(d - 1).toNat, by omega⟩
  subst hM
  subst hD
  have heq := hd.eq
  have e1 : ((M : Int) + 1 - 1).toNat = M := by omega
  rw [e1] at heq
  have w3 : IntKind.wrap .i64 ((D : Int) + 1) = (D : Int) + 1 := wrap_i64 (by omega)
  simp [go_sem]
  refine l_rdate2 y M D h h h.length _ _ hy1 hy2 (by omega) (by omega) ?_ M 0 _ _ (Nat.zero_add _) (by simp [mcum]; omega) (by simp)
  simp [go_sem, w3]

theorem e_rDate_out {day : Int} (hd : day < 0 ∨ 146097 ≤ day) (h : Heap) : acall mach n_billingref03_Date [.int .i64 day] h = some (.ret (.agg [.int .i64 0, .int .i64 0, .int .i64 0]) h) := by
  refine acall_fn rfl (af := a_billingref03_Date) rfl rfl ?_
  by_cases h1 : day < 0
  · simp [List.replicate, go_sem, h1]
  · have h2 : 146097 ≤ day := by omega
    simp [List.replicate, go_sem, h1, h2]

def wday (day : Int) : Int := if day < 0 ∨ 146097 ≤ day then -1 else (day + 5) % 7

theorem e_Weekday (day : Int) (h : Heap) : acall mach n_calendar_Weekday [.int .i64 day] h = some (.ret (.int .i64 (wday day)) h) := by
  refine acall_fn rfl (af := a_calendar_Weekday) rfl rfl ?_
  unfold wday
  by_cases h1 : day < 0
  · simp [List.replicate, go_sem, h1]
  by_cases h2 : 146097 ≤ day
  · simp [List.replicate, go_sem, h1, h2]
  have w : IntKind.wrap .i64 (day + 5) = day + 5 := wrap_i64 (by omega)
  have t : (day + 5).tmod 7 = (day + 5) % 7 := Int.tmod_eq_emod_of_nonneg (by omega)
  simp [List.replicate, go_sem, h1, h2, w, t]
theorem e_rWeekday (day : Int) (h : Heap) : acall mach n_billingref03_Weekday [.int .i64 day] h = some (.ret (.int .i64 (wday day)) h) := by
  refine acall_fn rfl (af := a_billingref03_Weekday) rfl rfl ?_
  unfold wday
  by_cases h1 : day < 0
  · simp [List.replicate, go_sem, h1]
  by_cases h2 : 146097 ≤ day
  · simp [List.replicate, go_sem, h1, h2]
  have w : IntKind.wrap .i64 (day + 5) = day + 5 := wrap_i64 (by omega)
  have t : (day + 5).tmod 7 = (day + 5) % 7 := Int.tmod_eq_emod_of_nonneg (by omega)
  simp [List.replicate, go_sem, h1, h2, w, t]
end Go.Am
