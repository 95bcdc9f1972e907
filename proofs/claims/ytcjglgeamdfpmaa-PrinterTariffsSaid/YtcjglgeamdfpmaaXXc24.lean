/- How expressions and tariffs stand in the machine. -/
import Derived.Test.YtcjglgeamdfpmaaXFt
import Derived.Test.YtcjglgeamdfpmaaXXpure
import Derived.Test.YtcjglgeamdfpmaaXXc23
namespace Go.Am
open Go Go.Pu
mutual
def exprV : PE → V
 | .mk op num text args => .agg [.int .i64 op, .int .i64 num, .str text, .sl false 4 (exprVs args)]
def exprVs : List PE → List V
 | [] => []
 | a :: l => exprV a :: exprVs l
end
def exprC : PE → List V
 | .mk op num text args => [.int .i64 op, .int .i64 num, .str text, .sl false 4 (exprVs args)]
def slotV (s : SlotP) : V := .agg [.int .i64 s.days, .int .i64 s.lo, .int .i64 s.hi]
def stepV (s : StepP) : V := .agg [.int .i64 s.upto, .int .i64 s.quant, .int .i64 s.price]
def zoneV (z : ZoneP) : V := .agg [.str z.name, .sl false 1 (z.pref.map V.str)]
def slotsV (l : List SlotP) : V := match l with
 | [] => .sl false 0 []
 | l => .sl false 3 (l.map slotV)
def bandV (b : BandP) : V := .agg [.str b.name, slotsV b.slots]
def rateV (r : RateP) : V := .agg [.int .i64 r.kind, .str r.zone, .str r.band, .int .i64 r.setup, .sl false 3 (r.steps.map stepV)]
def discV (d : DiscP) : V := .agg (.str d.name :: (exprC d.cond ++ [.int .i64 d.points]))
def tariffV (t : TariffP) : V := .agg [.str t.name, .int .i64 t.start, .bool t.split, .sl false 2 (t.zones.map zoneV), .sl false 2 (t.bands.map bandV), .sl false 5 (t.rates.map rateV), .sl false 6 (t.discs.map discV)]
def slW (z : Nat) (l : List SlotP) : V := .sl false (if l = [] then z else 3) (l.map slotV)
def bandW (z : Nat) (b : BandP) : V := .agg [.str b.name, slW z b.slots]
def tariffW (z : Nat) (t : TariffP) : V := .agg [.str t.name, .int .i64 t.start, .bool t.split, .sl false 2 (t.zones.map zoneV), .sl false 2 (t.bands.map (bandW z)), .sl false 5 (t.rates.map rateV), .sl false 6 (t.discs.map discV)]
end Go.Am
set_option linter.unusedSimpArgs false
set_option linter.unnecessarySimpa false
set_option linter.unusedVariables false
namespace Go.Am
open Go Go.Pu
theorem e_leap (y : Int) (h : Heap) (hy : 0 ≤ y) : acall mach0 n_calendar_leap [.int .i64 y] h = some (.ret (.bool (leap y)) h) := by
 refine acall_fn rfl (af := a_calendar_leap) rfl rfl ?_
 have m4 : y.tmod 4 = y % 4 := Int.tmod_eq_emod_of_nonneg hy
 have m100 : y.tmod 100 = y % 100 := Int.tmod_eq_emod_of_nonneg hy
 have m400 : y.tmod 400 = y % 400 := Int.tmod_eq_emod_of_nonneg hy
 unfold leap
 by_cases h1 : y % 4 = 0
 ·by_cases h2 : y % 100 = 0
  ·by_cases h3 : y % 400 = 0
   ·simp [List.replicate, go_sem, m4, m100, m400, bt' h1, nf' h2, bt' h3, h1, h2, h3]
   ·simp [List.replicate, go_sem, m4, m100, m400, bt' h1, nf' h2, bf' h3, h1, h2, h3]
  ·simp [List.replicate, go_sem, m4, m100, m400, bt' h1, nt' h2, h1, h2]
 ·have h3 : ¬ y % 400 = 0 := by omega
  simp [List.replicate, go_sem, m4, m100, m400, bf' h1, bf' h3, h1, h3]
theorem e_days (y m : Int) (h : Heap) (hy : 0 ≤ y) (h1 : 1 ≤ m) (h2 : m ≤ 12) : acall mach0 n_calendar_days [.int .i64 y, .int .i64 m] h = some (.ret (.int .i64 (dlen y m)) h) := by
 refine acall_fn rfl (af := a_calendar_days) rfl rfl ?_
 have hm : m = 1 ∨ m = 2 ∨ m = 3 ∨ m = 4 ∨ m = 5 ∨ m = 6 ∨ m = 7 ∨ m = 8 ∨ m = 9 ∨ m = 10 ∨ m = 11 ∨ m = 12 := by omega
 rcases hm with rfl | rfl | rfl | rfl | rfl | rfl | rfl | rfl | rfl | rfl | rfl | rfl
 case inr.inl => cases hl : leap y <;> simp [List.replicate, go_sem, dlen, e_leap y _ hy, hl, wrap_i64]
 all_goals simp [List.replicate, go_sem, dlen, wrap_i64]
def lenP (y m : Int) : Int := if y < 2000 ∨ 2399 < y ∨ m < 1 ∨ 12 < m then 0 else dlen y m
theorem e_before (y : Int) (h : Heap) (h1 : 2000 ≤ y) (h2 : y ≤ 2400) : acall mach0 n_calendar_before [.int .i64 y] h = some (.ret (.int .i64 (bef y)) h) := by
 refine acall_fn rfl (af := a_calendar_before) rfl rfl ?_
 have w0 : IntKind.wrap .i64 (y - 2000) = y - 2000 := wrap_i64 (by omega)
 have w1 : IntKind.wrap .i64 (365 * (y - 2000)) = 365 * (y - 2000) := wrap_i64 (by omega)
 have w2 : IntKind.wrap .i64 (y - 2000 - 1) = y - 2001 := by rw [wrap_i64 (by omega)]; omega
 unfold bef
 by_cases h3 : 2000 < y
 ·have h4 : 0 < y - 2000 := by omega
  have d4 : (y - 2001).tdiv 4 = (y - 2001) / 4 := Int.tdiv_eq_ediv_of_nonneg (by omega)
  have d100 : (y - 2001).tdiv 100 = (y - 2001) / 100 := Int.tdiv_eq_ediv_of_nonneg (by omega)
  have d400 : (y - 2001).tdiv 400 = (y - 2001) / 400 := Int.tdiv_eq_ediv_of_nonneg (by omega)
  simp only [List.replicate, go_sem, w0, w1, w2, h3, h4, d4, d100, d400]
  simp [go_sem, w0, w1, w2, d4, d100, d400, h3]
  rw [wrap_i64 (n := (y - 2001) / 4) (by omega), wrap_i64 (n := (y - 2001) / 100) (by omega), wrap_i64 (n := (y - 2001) / 400) (by omega), wrap_i64 (n := (y - 2001) / 4 - (y - 2001) / 100) (by omega), wrap_i64 (n := (y - 2001) / 4 - (y - 2001) / 100 + (y - 2001) / 400) (by omega), wrap_i64 (n := (y - 2001) / 4 - (y - 2001) / 100 + (y - 2001) / 400 + 1) (by omega), wrap_i64 (by omega)]
 ·have h4 : ¬ 0 < y - 2000 := by omega
  simp [List.replicate, go_sem, w0, w1, h3, h4]
def dayP (y m d : Int) : Int × Int := if d < 1 ∨ lenP y m < d then (0, 6) else (bef y + mcum y (m - 1).toNat + d - 1, 0)
end Go.Am
