/- The law CalendarBack on the machine. -/
import Derived.Test.YtndiiiapmnfhjaaE19
set_option linter.unusedSimpArgs false
namespace Go.Am
open Go Go.Pu

theorem dayP_date {day y m d : Int} (hd : IsDate day y m d) : dayP y m d = (day, 0) := by
  unfold dayP
  have := hd.d1; have := hd.d2
  rw [lenP_in hd.y1 hd.y2 hd.m1 hd.m2, if_neg (by omega), ← hd.eq]
theorem dayP_ok {y m d : Int} (h : (dayP y m d).2 = 0) : IsDate (dayP y m d).1 y m d := by
  unfold dayP at h ⊢
  by_cases q : d < 1 ∨ lenP y m < d
  · rw [if_pos q] at h; simp at h
  · rw [if_neg q]
    obtain ⟨a1, a2, a3, a4, a5, a6, a7⟩ := lenP_pos (fun z => q (.inl z)) (fun z => q (.inr z))
    exact ⟨a1, a2, a3, a4, a6, a7, rfl⟩

theorem four {l : List UInt8} (h : l.length = 4) : ∃ a b c d, l = [a, b, c, d] := by
  match l, h with
  | [a, b, c, d], _ => exact ⟨_, _, _, _, rfl⟩
theorem two {l : List UInt8} (h : l.length = 2) : ∃ a b, l = [a, b] := by
  match l, h with
  | [a, b], _ => exact ⟨_, _, rfl⟩

theorem parse_print {Y M D : Nat} (h1 : Y < 10000) (h2 : M < 100) (h3 : D < 100) : parseP (prD Y M D) = dayP Y M D := by
  unfold prD
  have n1 := numD_digs 4 Y 0
  have n2 := numD_digs 2 M 0
  have n3 := numD_digs 2 D 0
  obtain ⟨a0, a1, a2, a3, e1⟩ := four (digs_length 4 Y)
  obtain ⟨a5, a6, e2⟩ := two (digs_length 2 M)
  obtain ⟨a8, a9, e3⟩ := two (digs_length 2 D)
  rw [e1] at n1 ⊢
  rw [e2] at n2 ⊢
  rw [e3] at n3 ⊢
  have m1 : 0 * 10 ^ 4 + Y % 10 ^ 4 = Y := by omega
  have m2 : 0 * 10 ^ 2 + M % 10 ^ 2 = M := by omega
  have m3 : 0 * 10 ^ 2 + D % 10 ^ 2 = D := by omega
  rw [m1] at n1
  rw [m2] at n2
  rw [m3] at n3
  simp [parseP, n1, n2, n3, three]

theorem three_ok {a b c : Option Nat} (h : (three a b c).2 = 0) : ∃ y m d, a = some y ∧ b = some m ∧ c = some d ∧ three a b c = dayP y m d := by
  cases a with
  | none => simp [three] at h
  | some y =>
    cases b with
    | none => simp [three] at h
    | some m =>
      cases c with
      | none => simp [three] at h
      | some d => exact ⟨y, m, d, rfl, rfl, rfl, rfl⟩

theorem parse_ok {s : List UInt8} (h : (parseP s).2 = 0) : ∃ Y M D : Nat, IsDate (parseP s).1 Y M D ∧ prD Y M D = s := by
  by_cases hl : s.length = 10
  rotate_left
  · rw [parseP_len hl] at h; simp at h
  obtain ⟨a0, a1, a2, a3, a4, a5, a6, a7, a8, a9, rfl⟩ := ten hl
  simp only [parseP] at h ⊢
  split at h
  · rename_i q
    obtain ⟨y, m, d, e1, e2, e3, e4⟩ := three_ok h
    rw [if_pos q, e4]
    rw [e4] at h
    refine ⟨y, m, d, dayP_ok h, ?_⟩
    have f1 := (digs_numD _ _ e1).1
    have f2 := (digs_numD _ _ e2).1
    have f3 := (digs_numD _ _ e3).1
    simp only [List.length_cons, List.length_nil] at f1 f2 f3
    simp only [prD]
    rw [f1, f2, f3, q.1, q.2]
    rfl
  · simp at h

theorem wday_next {day : Int} (h0 : 0 ≤ day) (h1 : day + 1 < 146097) : wday (day + 1) = (wday day + 1) % 7 ∧ 0 ≤ wday day ∧ wday day < 7 := by
  unfold wday
  rw [if_neg (by omega), if_neg (by omega)]
  omega

/-- The date that is recovered, and the text. -/
theorem back1 {day : Int} (h0 : 0 ≤ day) (h1 : day < 146097) : ∃ Y M D : Nat, IsDate day Y M D ∧ (∀ h, acall mach n_calendar_Print [.int .i64 day] h = some (.ret (.str (prD Y M D)) h)) ∧ parseP (prD Y M D) = (day, 0) := by
  obtain ⟨y, m, d, hd⟩ := exists_date h0 h1
  obtain ⟨Y, M, D, rfl, rfl, rfl, b1, b2, b3, _⟩ := nat_date hd
  refine ⟨Y, M, D, hd, fun h => e_Print hd (by omega) (by omega) (by omega) (by omega) (by omega) h, ?_⟩
  rw [parse_print (by omega) (by omega) (by omega), dayP_date hd]

set_option maxRecDepth 8000
theorem back_a {day y m d u1 u2 v1 v2 : Int} {s : List UInt8} (p1 : ∀ h, acall mach n_calendar_Day [.agg [.int .i64 y, .int .i64 m, .int .i64 d]] h = some (.ret (.tup [.int .i64 u1, .int .i64 u2]) h)) (p2 : ∀ h, acall mach n_calendar_Parse [.str s] h = some (.ret (.tup [.int .i64 v1, .int .i64 v2]) h))
    (r1 : u2 = 0 → ∀ h, acall mach n_calendar_Date [.int .i64 u1] h = some (.ret (.agg [.int .i64 y, .int .i64 m, .int .i64 d]) h)) (r2 : v2 = 0 → ∀ h, acall mach n_calendar_Print [.int .i64 v1] h = some (.ret (.str s) h)) (c1 : 0 ≤ day) (c2 : day < 146097) (c3 : day + 1 < 146097) : acall mach n_billinglaw03_CalendarBack [.int .i64 day, .agg [.int .i64 y, .int .i64 m, .int .i64 d], .str s] [] = some (.ret (.bool true) []) := by
  refine acall_fn rfl (af := a_billinglaw03_CalendarBack) rfl rfl ?_
  obtain ⟨Y, M, D, hd, q1, q2⟩ := back1 c1 c2
  have q3 := fun h => e_Date hd h
  have q4 := fun h => e_Day Y M D h
  have q5 := fun h => e_Parse (prD Y M D) h
  rw [dayP_date hd] at q4
  rw [q2] at q5
  simp only at q4 q5
  have w : IntKind.wrap .i64 (day + 1) = day + 1 := wrap_i64 (by omega)
  generalize prD Y M D = X at *
  obtain ⟨k1, k2, k3⟩ := wday_next c1 c3
  have k4 := fun h => e_Weekday (day + 1) h
  have k5 := fun h => e_Weekday day h
  rw [k1] at k4
  have w2 : IntKind.wrap .i64 (wday day + 1) = wday day + 1 := wrap_i64 (by omega)
  have t : (wday day + 1).tmod 7 = (wday day + 1) % 7 := Int.tmod_eq_emod_of_nonneg (by omega)
  generalize wday day = W at *
  by_cases z1 : u2 = 0
  · have r1 := r1 z1
    by_cases z2 : v2 = 0
    · have r2 := r2 z2
      simp [List.replicate, go_sem, p1, p2, c1, c2, c3, q1, q3, q4, q5, w, k4, k5, w2, t, z1, z2, r1, r2, eqL, eq1, e_awake]
    · simp [List.replicate, go_sem, p1, p2, c1, c2, c3, q1, q3, q4, q5, w, k4, k5, w2, t, z1, z2, r1, nt' z2, eqL, eq1, e_awake]
  · by_cases z2 : v2 = 0
    · have r2 := r2 z2
      simp [List.replicate, go_sem, p1, p2, c1, c2, c3, q1, q3, q4, q5, w, k4, k5, w2, t, bf' z1, z2, r2, eqL, eq1, e_awake]
    · simp [List.replicate, go_sem, p1, p2, c1, c2, c3, q1, q3, q4, q5, w, k4, k5, w2, t, bf' z1, nt' z2, eqL, eq1, e_awake]
theorem back_b {day y m d u1 u2 v1 v2 : Int} {s : List UInt8} (p1 : ∀ h, acall mach n_calendar_Day [.agg [.int .i64 y, .int .i64 m, .int .i64 d]] h = some (.ret (.tup [.int .i64 u1, .int .i64 u2]) h)) (p2 : ∀ h, acall mach n_calendar_Parse [.str s] h = some (.ret (.tup [.int .i64 v1, .int .i64 v2]) h))
    (r1 : u2 = 0 → ∀ h, acall mach n_calendar_Date [.int .i64 u1] h = some (.ret (.agg [.int .i64 y, .int .i64 m, .int .i64 d]) h)) (r2 : v2 = 0 → ∀ h, acall mach n_calendar_Print [.int .i64 v1] h = some (.ret (.str s) h)) (c1 : 0 ≤ day) (c2 : day < 146097) (c3 : ¬ day + 1 < 146097) : acall mach n_billinglaw03_CalendarBack [.int .i64 day, .agg [.int .i64 y, .int .i64 m, .int .i64 d], .str s] [] = some (.ret (.bool true) []) := by
  refine acall_fn rfl (af := a_billinglaw03_CalendarBack) rfl rfl ?_
  obtain ⟨Y, M, D, hd, q1, q2⟩ := back1 c1 c2
  have q3 := fun h => e_Date hd h
  have q4 := fun h => e_Day Y M D h
  have q5 := fun h => e_Parse (prD Y M D) h
  rw [dayP_date hd] at q4
  rw [q2] at q5
  simp only at q4 q5
  have w : IntKind.wrap .i64 (day + 1) = day + 1 := wrap_i64 (by omega)
  generalize prD Y M D = X at *
  by_cases z1 : u2 = 0
  · have r1 := r1 z1
    by_cases z2 : v2 = 0
    · have r2 := r2 z2
      simp [List.replicate, go_sem, p1, p2, c1, c2, c3, q1, q3, q4, q5, w, z1, z2, r1, r2, eqL, eq1, e_awake]
    · simp [List.replicate, go_sem, p1, p2, c1, c2, c3, q1, q3, q4, q5, w, z1, z2, r1, nt' z2, eqL, eq1, e_awake]
  · by_cases z2 : v2 = 0
    · have r2 := r2 z2
      simp [List.replicate, go_sem, p1, p2, c1, c2, c3, q1, q3, q4, q5, w, bf' z1, z2, r2, eqL, eq1, e_awake]
    · simp [List.replicate, go_sem, p1, p2, c1, c2, c3, q1, q3, q4, q5, w, bf' z1, nt' z2, eqL, eq1, e_awake]
theorem back_c {day y m d u1 u2 v1 v2 : Int} {s : List UInt8} (p1 : ∀ h, acall mach n_calendar_Day [.agg [.int .i64 y, .int .i64 m, .int .i64 d]] h = some (.ret (.tup [.int .i64 u1, .int .i64 u2]) h)) (p2 : ∀ h, acall mach n_calendar_Parse [.str s] h = some (.ret (.tup [.int .i64 v1, .int .i64 v2]) h))
    (r1 : u2 = 0 → ∀ h, acall mach n_calendar_Date [.int .i64 u1] h = some (.ret (.agg [.int .i64 y, .int .i64 m, .int .i64 d]) h)) (r2 : v2 = 0 → ∀ h, acall mach n_calendar_Print [.int .i64 v1] h = some (.ret (.str s) h)) (c1 : 0 ≤ day) (c2 : ¬ day < 146097) : acall mach n_billinglaw03_CalendarBack [.int .i64 day, .agg [.int .i64 y, .int .i64 m, .int .i64 d], .str s] [] = some (.ret (.bool true) []) := by
  refine acall_fn rfl (af := a_billinglaw03_CalendarBack) rfl rfl ?_
  by_cases z1 : u2 = 0
  · have r1 := r1 z1
    by_cases z2 : v2 = 0
    · have r2 := r2 z2
      simp [List.replicate, go_sem, p1, p2, c1, c2, z1, z2, r1, r2, eqL, eq1, e_awake]
    · simp [List.replicate, go_sem, p1, p2, c1, c2, z1, z2, r1, nt' z2, eqL, eq1, e_awake]
  · by_cases z2 : v2 = 0
    · have r2 := r2 z2
      simp [List.replicate, go_sem, p1, p2, c1, c2, bf' z1, z2, r2, eqL, eq1, e_awake]
    · simp [List.replicate, go_sem, p1, p2, c1, c2, bf' z1, nt' z2, eqL, eq1, e_awake]
theorem back_d {day y m d u1 u2 v1 v2 : Int} {s : List UInt8} (p1 : ∀ h, acall mach n_calendar_Day [.agg [.int .i64 y, .int .i64 m, .int .i64 d]] h = some (.ret (.tup [.int .i64 u1, .int .i64 u2]) h)) (p2 : ∀ h, acall mach n_calendar_Parse [.str s] h = some (.ret (.tup [.int .i64 v1, .int .i64 v2]) h))
    (r1 : u2 = 0 → ∀ h, acall mach n_calendar_Date [.int .i64 u1] h = some (.ret (.agg [.int .i64 y, .int .i64 m, .int .i64 d]) h)) (r2 : v2 = 0 → ∀ h, acall mach n_calendar_Print [.int .i64 v1] h = some (.ret (.str s) h)) (c1 : ¬ 0 ≤ day) : acall mach n_billinglaw03_CalendarBack [.int .i64 day, .agg [.int .i64 y, .int .i64 m, .int .i64 d], .str s] [] = some (.ret (.bool true) []) := by
  refine acall_fn rfl (af := a_billinglaw03_CalendarBack) rfl rfl ?_
  by_cases z1 : u2 = 0
  · have r1 := r1 z1
    by_cases z2 : v2 = 0
    · have r2 := r2 z2
      simp [List.replicate, go_sem, p1, p2, c1, z1, z2, r1, r2, eqL, eq1, e_awake]
    · simp [List.replicate, go_sem, p1, p2, c1, z1, z2, r1, nt' z2, eqL, eq1, e_awake]
  · by_cases z2 : v2 = 0
    · have r2 := r2 z2
      simp [List.replicate, go_sem, p1, p2, c1, bf' z1, z2, r2, eqL, eq1, e_awake]
    · simp [List.replicate, go_sem, p1, p2, c1, bf' z1, nt' z2, eqL, eq1, e_awake]

theorem law_back (day y m d : Int) (s : List UInt8) : acall mach n_billinglaw03_CalendarBack [.int .i64 day, .agg [.int .i64 y, .int .i64 m, .int .i64 d], .str s] [] = some (.ret (.bool true) []) := by
  have p1 : ∀ h, acall mach n_calendar_Day [.agg [.int .i64 y, .int .i64 m, .int .i64 d]] h = _ := fun h => e_Day y m d h
  have p2 := fun h => e_Parse s h
  have r1 : (dayP y m d).2 = 0 → ∀ h, acall mach n_calendar_Date [.int .i64 (dayP y m d).1] h = some (.ret (.agg [.int .i64 y, .int .i64 m, .int .i64 d]) h) := fun hq h => e_Date (dayP_ok hq) h
  have r2 : (parseP s).2 = 0 → ∀ h, acall mach n_calendar_Print [.int .i64 (parseP s).1] h = some (.ret (.str s) h) := fun hq h => by
    obtain ⟨Y, M, D, hd, hs⟩ := parse_ok hq
    obtain ⟨Y', M', D', y1, y2, y3, b1, b2, b3, _⟩ := nat_date hd
    rw [e_Print hd hd.lo hd.hi (by omega) (by omega) (by omega), hs]
  by_cases c1 : 0 ≤ day
  · by_cases c2 : day < 146097
    · by_cases c3 : day + 1 < 146097
      · exact back_a p1 p2 r1 r2 c1 c2 c3
      · exact back_b p1 p2 r1 r2 c1 c2 c3
    · exact back_c p1 p2 r1 r2 c1 c2
  · exact back_d p1 p2 r1 r2 c1

theorem all_calendarBack (us : List V) (h : TyArgs Go.Proofs.Try.prog Go.Proofs.Try.f5.params.toList us) : acall mach 5 us [] = some (.ret (.bool true) []) := by
  obtain ⟨u, v, w, rfl, h1, h2, h3⟩ := TyArgs.three h
  obtain ⟨n, rfl, _⟩ := arg_int u3 h1
  obtain ⟨y, m, d, rfl, _⟩ := arg_date h2
  obtain ⟨s, rfl, _⟩ := arg_string u9 h3
  exact law_back n y m d s
end Go.Am
