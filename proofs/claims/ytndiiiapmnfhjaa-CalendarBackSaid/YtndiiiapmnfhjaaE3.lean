/- Equations of the dates of days. -/
import Derived.Test.YtndiiiapmnfhjaaE2
set_option linter.unusedSimpArgs false
namespace Go.Am
open Go Go.Pu

theorem l_date1 (day Y : Int) (h h' : Heap) (n0 : Nat) (k : List It) (r : V) (hY : 2000 ≤ Y) (hY' : Y ≤ 2399) (h1 : bef Y ≤ day) (h2 : day < bef (Y + 1))
    (hk : ∀ x : V, x.owner = false → Run mach k (.exit 0) ⟨(.int .i64 day :: .undef :: .box [.int .i64 0, .int .i64 0, .int .i64 0] :: .box [.int .i64 Y, .int .i64 1, .int .i64 0] :: .undef :: .undef :: .undef :: .undef :: .undef :: .undef :: .undef :: .undef :: .undef :: .undef :: .undef :: .bref 3 0 :: .int .i64 Y :: .int .i64 (Y + 1) :: .int .i64 (bef (Y + 1)) :: .int .i64 day :: .bool false :: .undef :: .undef :: .undef :: .undef :: .undef :: .undef :: .undef :: .undef :: .undef :: .undef :: .undef :: .undef :: .undef :: .undef :: .undef :: .undef :: .undef :: .undef :: .undef :: .undef :: .undef :: .undef :: .undef :: .undef :: .undef :: .undef :: .undef :: .undef :: .undef :: .undef :: .undef :: []), h⟩ (FinQ [.cell 2 (some 3)] n0 (.ret r h'))) :
    ∀ (n : Nat) (y : Int), y + n = Y → 2000 ≤ y →
    Run mach (.c calendar_Date_l1b :: .lp calendar_Date_l1 :: k) .norm ⟨(.int .i64 day :: .undef :: .box [.int .i64 0, .int .i64 0, .int .i64 0] :: .box [.int .i64 y, .int .i64 1, .int .i64 0] :: .undef :: .undef :: .undef :: .undef :: .undef :: .undef :: .undef :: .undef :: .undef :: .undef :: .undef :: .undef :: .undef :: .undef :: .undef :: .undef :: .undef :: .undef :: .undef :: .undef :: .undef :: .undef :: .undef :: .undef :: .undef :: .undef :: .undef :: .undef :: .undef :: .undef :: .undef :: .undef :: .undef :: .undef :: .undef :: .undef :: .undef :: .undef :: .undef :: .undef :: .undef :: .undef :: .undef :: .undef :: .undef :: .undef :: .undef :: .undef :: []), h⟩ (FinQ [.cell 2 (some 3)] n0 (.ret r h'))
  | 0, y, hy, hy0 => by
    obtain rfl : y = Y := by omega
    have w : IntKind.wrap .i64 (y + 1) = y + 1 := wrap_i64 (by omega)
    have e := e_before (y + 1) [] (by omega) (by omega)
    have q : ¬ bef (y + 1) ≤ day := by omega
    unfold calendar_Date_l1b
    simp [go_sem, w, e, q]
    exact hk .undef rfl
  | n + 1, y, hy, hy0 => by
    have w : IntKind.wrap .i64 (y + 1) = y + 1 := wrap_i64 (by omega)
    have e := e_before (y + 1) [] (by omega) (by omega)
    have q : bef (y + 1) ≤ day := by have := bef_le (a := y + 1) (b := Y) (by omega) (by omega); omega
    have ih := l_date1 day Y h h' n0 k r hY hY' h1 h2 hk n (y + 1) (by omega) (by omega)
    unfold calendar_Date_l1b
    simp [go_sem, w, e, q]
    exact ih

theorem l_date2 (Y : Int) (M D : Nat) (h h' : Heap) (n0 : Nat) (k : List It) (r : V) (hY : 2000 ≤ Y) (hM : M ≤ 11) (hD : (D : Int) < dlen Y ((M : Int) + 1))
    (hk : Run mach k (.exit 2) ⟨(.int .i64 D :: .undef :: .box [.int .i64 0, .int .i64 0, .int .i64 0] :: .box [.int .i64 Y, .int .i64 ((M : Int) + 1), .int .i64 0] :: .undef :: .undef :: .undef :: .undef :: .undef :: .undef :: .undef :: .undef :: .undef :: .undef :: .undef :: .undef :: .undef :: .undef :: .undef :: .undef :: .undef :: .undef :: .undef :: .undef :: .undef :: .undef :: .undef :: .undef :: .undef :: .undef :: .int .i64 D :: .bref 3 0 :: .int .i64 Y :: .bref 3 1 :: .int .i64 ((M : Int) + 1) :: .int .i64 (dlen Y ((M : Int) + 1)) :: .bool false :: .undef :: .undef :: .undef :: .undef :: .undef :: .undef :: .undef :: .undef :: .undef :: .undef :: .undef :: .undef :: .undef :: .undef :: .undef :: []), h⟩ (FinQ [.cell 2 (some 3)] n0 (.ret r h'))) :
    ∀ (n i : Nat) (v c : Int), i + n = M → v = D + mcum Y M - mcum Y i → c = (i : Int) + 1 →
    Run mach (.c calendar_Date_l2b :: .lp calendar_Date_l2 :: k) .norm ⟨(.int .i64 v :: .undef :: .box [.int .i64 0, .int .i64 0, .int .i64 0] :: .box [.int .i64 Y, .int .i64 c, .int .i64 0] :: .undef :: .undef :: .undef :: .undef :: .undef :: .undef :: .undef :: .undef :: .undef :: .undef :: .undef :: .undef :: .undef :: .undef :: .undef :: .undef :: .undef :: .undef :: .undef :: .undef :: .undef :: .undef :: .undef :: .undef :: .undef :: .undef :: .undef :: .undef :: .undef :: .undef :: .undef :: .undef :: .undef :: .undef :: .undef :: .undef :: .undef :: .undef :: .undef :: .undef :: .undef :: .undef :: .undef :: .undef :: .undef :: .undef :: .undef :: .undef :: []), h⟩ (FinQ [.cell 2 (some 3)] n0 (.ret r h'))
  | 0, i, v, c, hi, hv, hc => by
    obtain rfl : i = M := by omega
    have hv : v = D := by omega
    subst hv; subst hc
    have e := e_days Y ((i : Int) + 1) [] (by omega) (by omega) (by omega)
    have q : ¬ dlen Y ((i : Int) + 1) ≤ D := by omega
    unfold calendar_Date_l2b
    simp [go_sem, e, q]
    exact hk
  | n + 1, i, v, c, hi, hv, hc => by
    have e := e_days Y ((i : Int) + 1) [] (by omega) (by omega) (by omega)
    have hm : mcum Y (i + 1) = mcum Y i + dlen Y ((i : Int) + 1) := rfl
    have hmono := mcum_mono Y (a := i + 1) (b := M) (by omega)
    have hlo := mcum_nonneg Y i
    have hhi := mcum_hi (y := Y) (m := M) (by omega)
    have hd := dlen_hi Y ((M : Int) + 1)
    have q : dlen Y ((i : Int) + 1) ≤ v := by omega
    have ih := l_date2 Y M D h h' n0 k r hY hM hD hk n (i + 1) (v - dlen Y ((i : Int) + 1)) (c + 1) (by omega) (by omega) (by omega)
    have hdl := dlen_lo Y ((i : Int) + 1)
    have w1 : IntKind.wrap .i64 (v - dlen Y ((i : Int) + 1)) = v - dlen Y ((i : Int) + 1) := wrap_i64 (by omega)
    have w2 : IntKind.wrap .i64 (c + 1) = c + 1 := wrap_i64 (by omega)
    subst hc
    unfold calendar_Date_l2b
    simp [go_sem, e, q, w1, w2]
    exact ih

theorem e_Date {day y m d : Int} (hd : IsDate day y m d) (h : Heap) : acall mach n_calendar_Date [.int .i64 day] h = some (.ret (.agg [.int .i64 y, .int .i64 m, .int .i64 d]) h) := by
  refine acall_fn rfl (af := a_calendar_Date) rfl rfl ?_
  have hlo := hd.lo
  have hhi := hd.hi
  have h1 : ¬ day < 0 := by omega
  have h2 : ¬ 146097 ≤ day := by omega
  have hy1 := hd.y1
  have hy2 := hd.y2
  have hm1 := hd.m1
  have hm2 := hd.m2
  have hd1 := hd.d1
  have hd2 := hd.d2
  have hdl := dlen_hi y m
  have hf := hd.first
  have t : day.tdiv 366 = day / 366 := Int.tdiv_eq_ediv_of_nonneg hlo
  have w : IntKind.wrap .i64 (2000 + IntKind.wrap .i64 (day / 366)) = 2000 + day / 366 := by rw [wrap_i64 (n := day / 366) (by omega), wrap_i64 (by omega)]
  simp [List.replicate, go_sem, h1, h2, t, w]
  refine l_date1 day y h h h.length _ _ hy1 hy2 hd.year.1 hd.year.2 (fun _ _ => ?_) (y - (2000 + day / 366)).toNat _ (by omega) (by omega)
  obtain ⟨M, hM⟩ : ∃ M : Nat, m = (M : Int) + 1 := ⟨(m - 1).toNat, by omega⟩
  obtain ⟨D, hD⟩ : ∃ D : Nat, d = (D : Int) + 1 := ⟨(d - 1).toNat, by omega⟩
  subst hM
  subst hD
  have heq := hd.eq
  have e1 : ((M : Int) + 1 - 1).toNat = M := by omega
  rw [e1] at heq
  have b1 := bef_lo0 hy1
  have b2 := bef_hi' hy1 (by omega)
  have hmlo := mcum_nonneg y M
  have hmhi := mcum_hi (y := y) (m := M) (by omega)
  have w2 : IntKind.wrap .i64 (day - bef y) = day - bef y := wrap_i64 (by omega)
  have w3 : IntKind.wrap .i64 ((D : Int) + 1) = (D : Int) + 1 := wrap_i64 (by omega)
  simp [go_sem, e_before y [] hy1 (by omega), w2]
  refine l_date2 y M D h h h.length _ _ hy1 (by omega) (by omega) ?_ M 0 _ _ (Nat.zero_add _) (by simp [mcum]; omega) (by simp)
  simp [go_sem, w3]

theorem e_Date_out {day : Int} (hd : day < 0 ∨ 146097 ≤ day) (h : Heap) : acall mach n_calendar_Date [.int .i64 day] h = some (.ret (.agg [.int .i64 0, .int .i64 0, .int .i64 0]) h) := by
  refine acall_fn rfl (af := a_calendar_Date) rfl rfl ?_
  by_cases h1 : day < 0
  · simp [List.replicate, go_sem, h1]
  · have h2 : 146097 ≤ day := by omega
    simp [List.replicate, go_sem, h1, h2]
end Go.Am
