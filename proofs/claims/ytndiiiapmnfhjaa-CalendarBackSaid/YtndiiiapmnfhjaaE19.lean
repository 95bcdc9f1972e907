/- Parse; the law CalendarPrints on the machine. -/
import Derived.Test.YtndiiiapmnfhjaaE18
import Derived.Test.YtndiiiapmnfhjaaE5
set_option linter.unusedSimpArgs false
namespace Go.Am
open Go Go.Pu

theorem numD_none : ∀ (l : List UInt8) (v : Nat), (∃ x ∈ l, bad x) → numD v l = none
  | [], v, h => by obtain ⟨x, hx, _⟩ := h; cases hx
  | y :: l, v, h => by
    simp only [numD]
    split
    · rfl
    · rename_i hy
      refine numD_none l _ ?_
      obtain ⟨x, hx, hb⟩ := h
      rcases List.mem_cons.1 hx with rfl | hx
      · exact (hy hb).elim
      · exact ⟨x, hx, hb⟩
theorem three1 {a b c : Option Nat} (h : a = none) : three a b c = (0, 1) := by subst h; rfl
theorem three2 {a b c : Option Nat} (h : b = none) : three a b c = (0, 1) := by subst h; cases a <;> rfl
theorem three3 {a b c : Option Nat} (h : c = none) : three a b c = (0, 1) := by subst h; cases a <;> cases b <;> rfl

section
variable {a0 a1 a2 a3 a4 a5 a6 a7 a8 a9 : UInt8}
theorem pP1 (h : ∃ x ∈ [a0, a1, a2, a3], bad x) : parseP [a0, a1, a2, a3, a4, a5, a6, a7, a8, a9] = (0, 1) := by
  simp only [parseP]; split
  · exact three1 (numD_none _ _ h)
  · rfl
theorem pP2 (h : ∃ x ∈ [a5, a6], bad x) : parseP [a0, a1, a2, a3, a4, a5, a6, a7, a8, a9] = (0, 1) := by
  simp only [parseP]; split
  · exact three2 (numD_none _ _ h)
  · rfl
theorem pP3 (h : ∃ x ∈ [a8, a9], bad x) : parseP [a0, a1, a2, a3, a4, a5, a6, a7, a8, a9] = (0, 1) := by
  simp only [parseP]; split
  · exact three3 (numD_none _ _ h)
  · rfl
theorem pP4 (h : ¬ a4 = 45) : parseP [a0, a1, a2, a3, a4, a5, a6, a7, a8, a9] = (0, 1) := by
  simp only [parseP]; rw [if_neg (fun q => h q.1)]
theorem pP7 (h : ¬ a7 = 45) : parseP [a0, a1, a2, a3, a4, a5, a6, a7, a8, a9] = (0, 1) := by
  simp only [parseP]; rw [if_neg (fun q => h q.2)]
end

theorem e_Parse (s : List UInt8) (h : Heap) : acall mach n_calendar_Parse [.str s] h = some (.ret (.tup [.int .i64 (parseP s).1, .int .i64 (parseP s).2]) h) := by
  refine acall_fn rfl (af := a_calendar_Parse) rfl rfl ?_
  by_cases hl : s.length = 10
  rotate_left
  · have q : ¬ ((s.length : Int) = 10) := by omega
    rw [parseP_len hl]
    simp [List.replicate, go_sem, q, nt' q]
  obtain ⟨a0, a1, a2, a3, a4, a5, a6, a7, a8, a9, rfl⟩ := ten hl
  simp [List.replicate, go_sem]
  by_cases g0 : bad a0
  · rw [pP1 ⟨a0, by simp, g0⟩]; exact pb0 (p0 := 0) (p1 := 0) (p2 := 0) (by simp) g0
  by_cases g1 : bad a1
  · rw [pP1 ⟨a1, by simp, g1⟩]; refine pd0 (p0 := 0) (p1 := 0) (p2 := 0) (by omega) g0 ?_; exact pb1 (by simp) g1
  by_cases g2 : bad a2
  · rw [pP1 ⟨a2, by simp, g2⟩]; refine pd0 (p0 := 0) (p1 := 0) (p2 := 0) (by omega) g0 (pd1 ?_ g1 (pb2 (by simp) g2)); unfold bad at *; omega
  by_cases g3 : bad a3
  · rw [pP1 ⟨a3, by simp, g3⟩]; refine pd0 (p0 := 0) (p1 := 0) (p2 := 0) (by omega) g0 (pd1 ?_ g1 (pd2 ?_ g2 (pb3 (by simp) g3))) <;> (unfold bad at *; omega)
  have b0 : 10 * 0 + (a0.toNat - 48) ≤ 9 := by unfold bad at *; omega
  have b1 : 10 * (10 * 0 + (a0.toNat - 48)) + (a1.toNat - 48) ≤ 99 := by unfold bad at *; omega
  have b2 : 10 * (10 * (10 * 0 + (a0.toNat - 48)) + (a1.toNat - 48)) + (a2.toNat - 48) ≤ 999 := by unfold bad at *; omega
  refine pd0 (p0 := 0) (p1 := 0) (p2 := 0) (by omega) g0 (pd1 (by omega) g1 (pd2 (by omega) g2 (pd3 (by omega) g3 ?_)))
  have e1 : numD 0 [a0, a1, a2, a3] = some (10 * (10 * (10 * (10 * 0 + (a0.toNat - 48)) + (a1.toNat - 48)) + (a2.toNat - 48)) + (a3.toNat - 48)) := by
    unfold bad at *
    simp only [numD, if_neg g0, if_neg g1, if_neg g2, if_neg g3]
  generalize 10 * (10 * (10 * (10 * 0 + (a0.toNat - 48)) + (a1.toNat - 48)) + (a2.toNat - 48)) + (a3.toNat - 48) = Y at *
  by_cases g4 : a4 = 45
  rotate_left
  · rw [pP4 g4]; exact pb4 (by simp) g4
  refine pd4 g4 ?_
  by_cases g5 : bad a5
  · rw [pP2 ⟨a5, by simp, g5⟩]; exact pb5 (p1 := 0) (by simp) g5
  by_cases g6 : bad a6
  · rw [pP2 ⟨a6, by simp, g6⟩]; refine pd5 (p1 := 0) (by omega) g5 ?_; exact pb6 (by simp) g6
  have b5 : 10 * 0 + (a5.toNat - 48) ≤ 9 := by unfold bad at *; omega
  refine pd5 (p1 := 0) (by omega) g5 (pd6 (by omega) g6 ?_)
  have e2 : numD 0 [a5, a6] = some (10 * (10 * 0 + (a5.toNat - 48)) + (a6.toNat - 48)) := by
    unfold bad at *
    simp only [numD, if_neg g5, if_neg g6]
  generalize 10 * (10 * 0 + (a5.toNat - 48)) + (a6.toNat - 48) = M at *
  by_cases g7 : a7 = 45
  rotate_left
  · rw [pP7 g7]; exact pb7 (by simp) g7
  refine pd7 g7 ?_
  by_cases g8 : bad a8
  · rw [pP3 ⟨a8, by simp, g8⟩]; exact pb8 (p2 := 0) (by simp) g8
  by_cases g9 : bad a9
  · rw [pP3 ⟨a9, by simp, g9⟩]; refine pd8 (p2 := 0) (by omega) g8 ?_; exact pb9 (by simp) g9
  have b8 : 10 * 0 + (a8.toNat - 48) ≤ 9 := by unfold bad at *; omega
  refine pd8 (p2 := 0) (by omega) g8 (pd9 (by omega) g9 ?_)
  have e3 : numD 0 [a8, a9] = some (10 * (10 * 0 + (a8.toNat - 48)) + (a9.toNat - 48)) := by
    unfold bad at *
    simp only [numD, if_neg g8, if_neg g9]
  generalize 10 * (10 * 0 + (a8.toNat - 48)) + (a9.toNat - 48) = D at *
  have ep : parseP [a0, a1, a2, a3, a4, a5, a6, a7, a8, a9] = dayP Y M D := by
    simp only [parseP, e1, e2, e3, three]
    rw [if_pos ⟨g4, g7⟩]
  rw [ep]
  unfold calendar_Parse_l1b
  simp [go_sem, e_Day]

theorem nat_date {day y m d : Int} (hd : IsDate day y m d) : ∃ Y M D : Nat, y = Y ∧ m = M ∧ d = D ∧ Y ≤ 2399 ∧ M ≤ 12 ∧ D ≤ 31 ∧ 2000 ≤ Y ∧ 1 ≤ M ∧ 1 ≤ D := by
  have q1 := hd.y1; have q2 := hd.y2; have q3 := hd.m1; have q4 := hd.m2; have q5 := hd.d1; have q6 := hd.d2
  have := dlen_hi y m
  exact ⟨y.toNat, m.toNat, d.toNat, by omega, by omega, by omega, by omega, by omega, by omega, by omega, by omega, by omega⟩

theorem law_prints (day : Int) (s : List UInt8) : acall mach n_billinglaw03_CalendarPrints [.int .i64 day, .str s] [] = some (.ret (.bool true) []) := by
  refine acall_fn rfl (af := a_billinglaw03_CalendarPrints) rfl rfl ?_
  by_cases h : day < 0 ∨ 146097 ≤ day
  · simp [List.replicate, go_sem, e_Parse, e_rParse, e_Print_out h, e_rPrint_out h, e_awake]
  · obtain ⟨y, m, d, hd⟩ := exists_date (day := day) (by omega) (by omega)
    obtain ⟨Y, M, D, rfl, rfl, rfl, b1, b2, b3, _⟩ := nat_date hd
    have e1 := fun h => e_Print hd (by omega) (by omega) (by omega) (by omega) (by omega) h
    have e2 := fun h => e_rPrint hd (by omega) (by omega) (by omega) h
    simp [List.replicate, go_sem, e_Parse, e_rParse, e1, e2, e_awake]

theorem all_calendarPrints (us : List V) (h : TyArgs Go.Proofs.Try.prog Go.Proofs.Try.f8.params.toList us) : acall mach 8 us [] = some (.ret (.bool true) []) := by
  obtain ⟨u, v, rfl, h1, h2⟩ := TyArgs.two h
  obtain ⟨n, rfl, _⟩ := arg_int u3 h1
  obtain ⟨s, rfl, _⟩ := arg_string u9 h2
  exact law_prints n s
end Go.Am
