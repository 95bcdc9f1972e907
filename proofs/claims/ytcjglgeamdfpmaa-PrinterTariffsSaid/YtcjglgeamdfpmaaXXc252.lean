/- The reference's texts of dates, clocks and steps. -/
import Derived.Test.YtcjglgeamdfpmaaXXc251
set_option linter.unusedSimpArgs false
set_option linter.unnecessarySimpa false
set_option linter.unusedVariables false
set_option maxRecDepth 10000
namespace Go.Am
open Go Go.Pu
theorem two_all : ∀ n : Fin 100, (if n.val < 10 then 48 :: dec n.val else dec n.val) = k2 (n.val : Int) := by decide +kernel
theorem e_rTwo (n : Nat) (h : n < 100) : acall mach0 n_billingref25_Two [.int .i64 n] [] = some (.ret (.str (k2 n)) []) := by
 have hk := two_all ⟨n, h⟩
 have e := e_rDecimal n (by omega)
 have hl : (k2 (n : Int)).length = 2 := digs_length 2 _
 refine acall_fn rfl (af := a_billingref25_Two) rfl rfl ?_
 dsimp only at hk
 rw [← hk] at hl ⊢
 by_cases h' : n < 10
 ·rw [if_pos h'] at hl ⊢
  have hi : (n : Int) < 10 := by omega
  simp only [List.length_cons] at hl
  generalize dec n = x at *
  simp (disch := omega) [List.replicate, go_sem, hi, e, leA]
 ·rw [if_neg h'] at hl ⊢
  have hi : ¬ (n : Int) < 10 := by omega
  simp [List.replicate, go_sem, hi, e]
theorem e_rMinute (m : Nat) (h : m ≤ 1440) : acall mach0 n_billingref25_Minute [.int .i64 m] [] = some (.ret (.str (minuteB m)) []) := by
 refine acall_fn rfl (af := a_billingref25_Minute) rfl rfl ?_
 have e1 := e_rTwo (m / 60) (by omega)
 have e2 := e_rTwo (m % 60) (by omega)
 have t1 : (m : Int).tdiv 60 = ((m / 60 : Nat) : Int) := rfl
 have t2 : (m : Int).tmod 60 = ((m % 60 : Nat) : Int) := rfl
 have w1 : IntKind.wrap .i64 ((m / 60 : Nat) : Int) = ((m / 60 : Nat) : Int) := wrap_i64 (by omega)
 have w2 : IntKind.wrap .i64 ((m % 60 : Nat) : Int) = ((m % 60 : Nat) : Int) := wrap_i64 (by omega)
 have hl1 : (k2 ((m / 60 : Nat) : Int)).length = 2 := digs_length 2 _
 have hl2 : (k2 ((m % 60 : Nat) : Int)).length = 2 := digs_length 2 _
 have hm : minuteB (m : Int) = k2 ((m / 60 : Nat) : Int) ++ ([58] ++ k2 ((m % 60 : Nat) : Int)) := rfl
 rw [hm]
 generalize k2 ((m / 60 : Nat) : Int) = x at *
 generalize k2 ((m % 60 : Nat) : Int) = y at *
 generalize m / 60 = a at *
 generalize m % 60 = b at *
 simp (disch := omega) [List.replicate, go_sem, t1, t2, w1, w2, e1, e2, leA]
theorem e_rClock (s : Nat) (h : s < 86400) : acall mach0 n_billingref25_Clock [.int .i64 s] [] = some (.ret (.str (clockB s)) []) := by
 refine acall_fn rfl (af := a_billingref25_Clock) rfl rfl ?_
 have e1 := e_rMinute (s / 60) (by omega)
 have e2 := e_rTwo (s % 60) (by omega)
 have t1 : (s : Int).tdiv 60 = ((s / 60 : Nat) : Int) := rfl
 have t2 : (s : Int).tmod 60 = ((s % 60 : Nat) : Int) := rfl
 have w1 : IntKind.wrap .i64 ((s / 60 : Nat) : Int) = ((s / 60 : Nat) : Int) := wrap_i64 (by omega)
 have w2 : IntKind.wrap .i64 ((s % 60 : Nat) : Int) = ((s % 60 : Nat) : Int) := wrap_i64 (by omega)
 have hl1 := minute_lenA ((s / 60 : Nat) : Int)
 have hl2 : (k2 ((s % 60 : Nat) : Int)).length = 2 := digs_length 2 _
 have hm : clockB (s : Int) = minuteB ((s / 60 : Nat) : Int) ++ ([58] ++ k2 ((s % 60 : Nat) : Int)) := rfl
 rw [hm]
 generalize minuteB ((s / 60 : Nat) : Int) = x at *
 generalize k2 ((s % 60 : Nat) : Int) = y at *
 generalize s / 60 = a at *
 generalize s % 60 = b at *
 simp (disch := omega) [List.replicate, go_sem, t1, t2, w1, w2, e1, e2, leA]
theorem e_rany (s : Bs) : acall mach0 n_billingref25_any [.str s] [] = some (.ret (.str (anyB s)) []) := by
 refine acall_fn rfl (af := a_billingref25_any) rfl rfl ?_
 unfold anyB
 by_cases h : s = []
 ·subst h; simp [List.replicate, go_sem, kAny]
 ·have h' : (s == []) = false := by simpa using h
  simp [List.replicate, go_sem, h, h']
theorem e_rdec {n : Int} (h : numOk n) : acall mach0 n_billingref25_Decimal [.int .i64 n] [] = some (.ret (.str (decZ n)) []) := by
 obtain ⟨h1, h2⟩ := h
 obtain ⟨m, rfl⟩ := Int.eq_ofNat_of_zero_le h1
 rw [decZ_nat]
 exact e_rDecimal m (by unfold mostN at h2; omega)
theorem e_rstep (s : StepP) (h : StepOk s) : acall mach0 n_billingref25_step [stepV s] [] = some (.ret (.str (tierB s)) []) := by
 have eq := e_rdec h.q
 have ep := e_rdec h.p
 have lq := decZ_len h.q
 have lp := decZ_len h.p
 rw [tierB_eq]
 refine acall_fn rfl (af := a_billingref25_step) rfl rfl ?_
 simp only [stepV]
 by_cases h0 : s.upto = 0
 ·have hu : uptoB s.upto = [] := by rw [h0]; rfl
  rw [hu]
  generalize decZ s.quant = dq at *
  generalize decZ s.price = dp at *
  simp (disch := omega) [List.replicate, go_sem, h0, eq, ep, leA]
 ·have hu := uptoB_pos h0
  rw [hu]
  have eu := e_rdec h.u
  have lu := decZ_len h.u
  generalize decZ s.upto = du at *
  generalize decZ s.quant = dq at *
  generalize decZ s.price = dp at *
  simp (disch := omega) [List.replicate, go_sem, nt' h0, eq, ep, eu, leA]
theorem e_rLength (y m : Int) (hy : 0 ≤ y) : acall mach0 n_billingref24_Length [.int .i64 y, .int .i64 m] [] = some (.ret (.int .i64 (dlen y m)) []) := by
 refine acall_fn rfl (af := a_billingref24_Length) rfl rfl ?_
 have t4 : y.tmod 4 = y % 4 := Int.tmod_eq_emod_of_nonneg hy
 have t1 : y.tmod 100 = y % 100 := Int.tmod_eq_emod_of_nonneg hy
 have t0 : y.tmod 400 = y % 400 := Int.tmod_eq_emod_of_nonneg hy
 have w4 : IntKind.wrap .i64 (y % 4) = y % 4 := wrap_i64 (by omega)
 have w1 : IntKind.wrap .i64 (y % 100) = y % 100 := wrap_i64 (by omega)
 have w0 : IntKind.wrap .i64 (y % 400) = y % 400 := wrap_i64 (by omega)
 unfold dlen leap
 by_cases h2 : m = 2
 ·subst h2
  by_cases a0 : y % 400 = 0
  ·have a4 : y % 4 = 0 := by omega
   have a1 : y % 100 = 0 := by omega
   simp [List.replicate, go_sem, t0, t1, t4, w0, w1, w4, a0, a1, a4]
  ·by_cases a4 : y % 4 = 0
   ·by_cases a1 : y % 100 = 0
    ·simp [List.replicate, go_sem, t0, t1, t4, w0, w1, w4, a0, a1, a4, bf' a0]
    ·simp [List.replicate, go_sem, t0, t1, t4, w0, w1, w4, a0, a1, a4, bf' a0, nt' a1]
   ·simp [List.replicate, go_sem, t0, t1, t4, w0, w1, w4, a0, a4, bf' a0, bf' a4]
 ·by_cases c4 : m = 4
  ·subst c4; simp [List.replicate, go_sem]
  by_cases c6 : m = 6
  ·subst c6; simp [List.replicate, go_sem]
  by_cases c9 : m = 9
  ·subst c9; simp [List.replicate, go_sem]
  by_cases c11 : m = 11
  ·subst c11; simp [List.replicate, go_sem]
  simp [List.replicate, go_sem, h2, c4, c6, c9, c11, bf' h2, bf' c4, bf' c6, bf' c9, bf' c11]
theorem ylen_two (y : Int) : ylen y = 337 + dlen y 2 := by unfold ylen dlen; simp; split <;> rfl
theorem rdate_l1 (day Y : Int) (k : List It) (r : Rt) (h0 : 0 ≤ day) (h9 : day < 146097) (hY : 2000 ≤ Y) (hY' : Y ≤ 2399) (h1 : bef Y ≤ day) (h2 : day < bef (Y + 1))
    (hk : Run mach0 (.c billingref25_Date_k2b :: k) .norm ⟨(.int .i64 (day - bef Y) :: .undef :: .undef :: .int .i64 Y :: .int .i64 1 :: .undef :: .undef :: .undef :: .undef :: .undef :: .undef :: .undef :: .undef :: .undef :: .undef :: .undef :: .undef :: .undef :: .undef :: .undef :: .undef :: .undef :: .undef :: .undef :: .undef :: .undef :: .undef :: .undef :: .undef :: .undef :: .undef :: .undef :: .undef :: .undef :: .undef :: .undef :: .undef :: .undef :: .undef :: .undef :: []), []⟩ (FinQ [.tmp 2] 0 r)) :
    ∀ (n : Nat) (y v : Int), y + n = Y → 2000 ≤ y → v = day - bef y →
    Run mach0 (.c billingref25_Date_l1b :: .lp billingref25_Date_l1 :: .endB 0 :: .c billingref25_Date_k2 :: k) .norm ⟨(.int .i64 v :: .undef :: .undef :: .int .i64 y :: .int .i64 1 :: .undef :: .undef :: .undef :: .undef :: .undef :: .undef :: .undef :: .undef :: .undef :: .undef :: .undef :: .undef :: .undef :: .undef :: .undef :: .undef :: .undef :: .undef :: .undef :: .undef :: .undef :: .undef :: .undef :: .undef :: .undef :: .undef :: .undef :: .undef :: .undef :: .undef :: .undef :: .undef :: .undef :: .undef :: .undef :: []), []⟩ (FinQ [.tmp 2] 0 r)
  | 0, y, v, hy, hy0, hv => by
    obtain rfl : y = Y := by omega
    subst hv
    have e := e_rLength y 2 (by omega)
    have hs := bef_succ hy0
    have ht := ylen_two y
    have hlo := dlen_lo y 2
    have hhi := dlen_hi y 2
    have w : IntKind.wrap .i64 (337 + dlen y 2) = 337 + dlen y 2 := wrap_i64 (by omega)
    have q : ¬ 337 + dlen y 2 ≤ day - bef y := by omega
    unfold billingref25_Date_l1b
    simp [go_sem, e, w, q, billingref25_Date_k2]
    exact hk
  | n + 1, y, v, hy, hy0, hv => by
    have e := e_rLength y 2 (by omega)
    have hs := bef_succ hy0
    have ht := ylen_two y
    have hlo := dlen_lo y 2
    have hhi := dlen_hi y 2
    have hb := bef_le (a := y + 1) (b := Y) (by omega) (by omega)
    have b1 := bef_lo0 hy0
    have ih := rdate_l1 day Y k r h0 h9 hY hY' h1 h2 hk n (y + 1) (v - 337 - dlen y 2) (by omega) (by omega) (by omega)
    have w : IntKind.wrap .i64 (337 + dlen y 2) = 337 + dlen y 2 := wrap_i64 (by omega)
    have q : 337 + dlen y 2 ≤ v := by omega
    have w1 : IntKind.wrap .i64 (v - 337) = v - 337 := wrap_i64 (by omega)
    have w2 : IntKind.wrap .i64 (v - 337 - dlen y 2) = v - 337 - dlen y 2 := wrap_i64 (by omega)
    have w3 : IntKind.wrap .i64 (y + 1) = y + 1 := wrap_i64 (by omega)
    unfold billingref25_Date_l1b
    simp [go_sem, e, w, q, w1, w2, w3]
    exact ih
theorem rdate_l2 (Y : Int) (M D : Nat) (k : List It) (r : Rt) (hY : 2000 ≤ Y) (hM : M ≤ 11) (hD : (D : Int) < dlen Y ((M : Int) + 1))
    (hk : Run mach0 (.c billingref25_Date_k1b :: k) .norm ⟨(.int .i64 D :: .undef :: .undef :: .int .i64 Y :: .int .i64 ((M : Int) + 1) :: .undef :: .undef :: .undef :: .undef :: .undef :: .undef :: .undef :: .undef :: .undef :: .undef :: .undef :: .undef :: .undef :: .undef :: .undef :: .undef :: .undef :: .undef :: .undef :: .undef :: .undef :: .undef :: .undef :: .undef :: .undef :: .undef :: .undef :: .undef :: .undef :: .undef :: .undef :: .undef :: .undef :: .undef :: .undef :: []), []⟩ (FinQ [.tmp 2] 0 r)) :
    ∀ (n i : Nat) (v c : Int), i + n = M → v = D + mcum Y M - mcum Y i → c = (i : Int) + 1 →
    Run mach0 (.c billingref25_Date_l2b :: .lp billingref25_Date_l2 :: .endB 2 :: .c billingref25_Date_k1 :: k) .norm ⟨(.int .i64 v :: .undef :: .undef :: .int .i64 Y :: .int .i64 c :: .undef :: .undef :: .undef :: .undef :: .undef :: .undef :: .undef :: .undef :: .undef :: .undef :: .undef :: .undef :: .undef :: .undef :: .undef :: .undef :: .undef :: .undef :: .undef :: .undef :: .undef :: .undef :: .undef :: .undef :: .undef :: .undef :: .undef :: .undef :: .undef :: .undef :: .undef :: .undef :: .undef :: .undef :: .undef :: []), []⟩ (FinQ [.tmp 2] 0 r)
  | 0, i, v, c, hi, hv, hc => by
    obtain rfl : i = M := by omega
    have hv : v = D := by omega
    subst hv; subst hc
    have e := e_rLength Y ((i : Int) + 1) (by omega)
    have q : ¬ dlen Y ((i : Int) + 1) ≤ D := by omega
    unfold billingref25_Date_l2b
    simp [go_sem, e, q, billingref25_Date_k1]
    exact hk
  | n + 1, i, v, c, hi, hv, hc => by
    have e := e_rLength Y ((i : Int) + 1) (by omega)
    have hm : mcum Y (i + 1) = mcum Y i + dlen Y ((i : Int) + 1) := rfl
    have hmono := mcum_mono Y (a := i + 1) (b := M) (by omega)
    have hlo := mcum_nonneg Y i
    have hhi := mcum_hi (y := Y) (m := M) (by omega)
    have hd := dlen_hi Y ((M : Int) + 1)
    have q : dlen Y ((i : Int) + 1) ≤ v := by omega
    have ih := rdate_l2 Y M D k r hY hM hD hk n (i + 1) (v - dlen Y ((i : Int) + 1)) (c + 1) (by omega) (by omega) (by omega)
    have hdl := dlen_lo Y ((i : Int) + 1)
    have w1 : IntKind.wrap .i64 (v - dlen Y ((i : Int) + 1)) = v - dlen Y ((i : Int) + 1) := wrap_i64 (by omega)
    have w2 : IntKind.wrap .i64 (c + 1) = c + 1 := wrap_i64 (by omega)
    subst hc
    unfold billingref25_Date_l2b
    simp [go_sem, e, q, w1, w2]
    exact ih
theorem dec_year : ∀ n : Fin 400, dec (2000 + n.val) = digs (2000 + n.val) 4 := by decide +kernel
theorem e_rDate {day : Int} (h0 : 0 ≤ day) (h1 : day < 146097) : acall mach0 n_billingref25_Date [.int .i64 day] [] = some (.ret (.str (dayB day)) []) := by
 have hd := ymd_ok h0 h1
 unfold dayB
 generalize (ymd day).1 = y at *
 generalize (ymd day).2.1 = m at *
 generalize (ymd day).2.2 = d at *
 have hy1 := hd.y1
 have hy2 := hd.y2
 have hm1 := hd.m1
 have hm2 := hd.m2
 have hd1 := hd.d1
 have hd2 := hd.d2
 have hdl := dlen_hi y m
 have hf := hd.first
 obtain ⟨M, hM⟩ : ∃ M : Nat, m = (M : Int) + 1 := ⟨(m - 1).toNat, by omega⟩
 obtain ⟨D, hD⟩ : ∃ D : Nat, d = (D : Int) + 1 := ⟨(d - 1).toNat, by omega⟩
 obtain ⟨Y, hYn⟩ : ∃ Y : Nat, y = (Y : Int) := ⟨y.toNat, by omega⟩
 have hyr := hd.year
 have heq := hd.eq
 subst hM
 subst hD
 subst hYn
 have e1 : ((M : Int) + 1 - 1).toNat = M := by omega
 rw [e1] at heq
 have hdy := dec_year ⟨Y - 2000, by omega⟩
 simp only at hdy
 have e2000 : 2000 + (Y - 2000) = Y := by omega
 rw [e2000] at hdy
 have n1 : ((Y : Int)).toNat = Y := by omega
 have n2 : ((M : Int) + 1).toNat = M + 1 := by omega
 have n3 : ((D : Int) + 1).toNat = D + 1 := by omega
 rw [n1, n2, n3]
 have w3 : IntKind.wrap .i64 ((D : Int) + 1) = (D : Int) + 1 := wrap_i64 (by omega)
 have c1 := e_rDecimal Y (by omega)
 have c2 := e_rTwo (M + 1) (by omega)
 have c3 := e_rTwo (D + 1) (by omega)
 have f2 : k2 ((M + 1 : Nat) : Int) = digs (M + 1) 2 := rfl
 have f3 : k2 ((D + 1 : Nat) : Int) = digs (D + 1) 2 := rfl
 have g2 : ((M + 1 : Nat) : Int) = (M : Int) + 1 := by omega
 have g3 : ((D + 1 : Nat) : Int) = (D : Int) + 1 := by omega
 rw [hdy] at c1
 rw [f2, g2] at c2
 rw [f3, g3] at c3
 have l4 : (digs Y 4).length = 4 := digs_length 4 _
 have lm : (digs (M + 1) 2).length = 2 := digs_length 2 _
 have ld : (digs (D + 1) 2).length = 2 := digs_length 2 _
 have last : Run mach0 (.c billingref25_Date_k1b :: []) .norm ⟨(.int .i64 D :: .undef :: .undef :: .int .i64 Y :: .int .i64 ((M : Int) + 1) :: .undef :: .undef :: .undef :: .undef :: .undef :: .undef :: .undef :: .undef :: .undef :: .undef :: .undef :: .undef :: .undef :: .undef :: .undef :: .undef :: .undef :: .undef :: .undef :: .undef :: .undef :: .undef :: .undef :: .undef :: .undef :: .undef :: .undef :: .undef :: .undef :: .undef :: .undef :: .undef :: .undef :: .undef :: .undef :: []), []⟩ (FinQ [.tmp 2] 0 (.ret (.str (dateB Y (M + 1) (D + 1))) [])) := by
  unfold dateB
  generalize digs Y 4 = x at *
  generalize digs (M + 1) 2 = y at *
  generalize digs (D + 1) 2 = z at *
  unfold billingref25_Date_k1b
  simp (disch := omega) [go_sem, c1, c2, c3, w3, leA]
 have l2 := rdate_l2 Y M D [] _ hy1 (by omega) (by omega) last M 0 (day - bef Y) 1 (Nat.zero_add _) (by simp [mcum]; omega) (by simp)
 have l1 := rdate_l1 day Y [] _ h0 h1 hy1 hy2 hyr.1 hyr.2 (by
  unfold billingref25_Date_k2b
  simp [go_sem]
  simpa using l2) (Y - 2000) 2000 day (by omega) (by omega) (by rw [bef_zero]; omega)
 refine acall_fn rfl (af := a_billingref25_Date) rfl rfl ?_
 simp [List.replicate, go_sem]
 simpa using l1
end Go.Am
namespace Go.Am
open Go Go.Pu
theorem joinB_snoc (b : Bs) (m : List Bs) (a : Bs) : joinB (b :: m ++ [a]) = joinB (b :: m) ++ 44 :: 32 :: a := by simp [joinB]
theorem rjoin_l (l : List Bs) (hn : l.length ≤ 1000000) (hs : sumL l ≤ 1000000000000) : ∀ (l2 l1 : List Bs), l1 ++ l2 = l →
  Run mach0 (.c billingref25_Joined_l1b :: .lp billingref25_Joined_l1 :: .endB 0 :: .c billingref25_Joined_k1 :: []) .norm
   ⟨(.sl false 1 (l.map V.str) :: .undef :: .undef :: .str (joinB l1) :: .int .i64 l1.length :: .undef :: .undef :: .undef :: .undef :: .undef :: .undef :: .undef :: .undef :: .undef :: .undef :: .undef :: .undef :: .undef :: .undef :: .undef :: .undef :: .undef :: []), []⟩ (FinQ [.tmp 2] 0 (.ret (.str (joinB l)) []))
 | [], l1, he => by
  have q : ¬ ((l1.length : Int) < l.length) := by rw [← he]; simp
  rw [List.append_nil] at he
  subst he
  unfold billingref25_Joined_l1b
  simp [go_sem, q, billingref25_Joined_k1]
  simp [go_sem, billingref25_Joined_k1b]
 | a :: l2, l1, he => by
  have ih := rjoin_l l hn hs l2 (l1 ++ [a]) (by rw [← he]; simp)
  have len : l.length = l1.length + (l2.length + 1) := by rw [← he]; simp
  have hs2 : sumL l = sumL l1 + (a.length + sumL l2) := by rw [← he, sumL_app]; rfl
  have q : (l1.length : Int) < l.length := by omega
  have q' : l1.length < l.length := by omega
  have w : IntKind.wrap .i64 ((l1.length : Int) + 1) = l1.length + 1 := wrap_i64 (by omega)
  have hnth : nth (l.map V.str) l1.length = .str a := by rw [← he]; exact nth_strs _ _ _
  have hj := join_len l1
  simp only [List.length_append, List.length_cons, List.length_nil, Nat.zero_add] at ih
  unfold billingref25_Joined_l1b
  cases l1 with
  | nil =>
   have e : joinB ([] ++ [a]) = a := by simp [joinB]
   rw [e] at ih
   have ha : a.length ≤ 1000000000000 := by omega
   simp [go_sem, joinB] at ih q q' w hnth ⊢
   simp (disch := omega) [go_sem, q, q', hnth, w, leA]
   simpa using ih
  | cons b m =>
   rw [joinB_snoc] at ih
   have hp : (0 : Int) < ((b :: m).length : Int) := by simp
   have hpn : 0 < (b :: m).length := by simp
   generalize joinB (b :: m) = x at *
   generalize (b :: m).length = y at *
   simp (disch := omega) [go_sem, q, q', hnth, w, hp, hpn, leA]
   simpa using ih
theorem e_rJoined (l : List Bs) (hn : l.length ≤ 1000000) (hs : sumL l ≤ 1000000000000) : acall mach0 n_billingref25_Joined [.sl false 1 (l.map V.str)] [] = some (.ret (.str (joinB l)) []) := by
 have run := rjoin_l l hn hs l [] rfl
 refine acall_fn rfl (af := a_billingref25_Joined) rfl rfl ?_
 simp [List.replicate, go_sem]
 simpa [joinB] using run
theorem b_Days : acall mach0 n_billingref24_Days [] [] = some (.ret (.sl true 1 dayVs) []) := (acall_iff _).2 ⟨60, by kernel_rfl⟩
theorem bit_rem : ∀ (d : Fin 256) (i : Fin 8), ((d.val : Int).fdiv (2 ^ i.val)).tmod 2 = ((d.val / 2 ^ i.val % 2 : Nat) : Int) := by decide +kernel
theorem bit_rem2 : ∀ (d : Fin 256) (i : Fin 8), ((d.val : Int).fdiv (2 ^ (min i.val 64))).tmod 2 = ((d.val / 2 ^ i.val % 2 : Nat) : Int) := by decide +kernel
theorem rslot_l (d : Nat) (hd : d < 256) (lo hi : Int) (r : Rt) (R : Bs)
    (hk : Run mach0 (.c billingref25_slot_k1b :: []) .norm ⟨(.undef :: .rptr [.int .i64 d, .int .i64 lo, .int .i64 hi] :: .undef :: .str R :: .undef :: .undef :: .undef :: .undef :: .undef :: .undef :: .undef :: .undef :: .undef :: .undef :: .undef :: .undef :: .undef :: .undef :: .undef :: .undef :: .undef :: .undef :: .undef :: .undef :: .undef :: .undef :: .undef :: .undef :: .undef :: .undef :: .undef :: .undef :: .undef :: .undef :: .undef :: .undef :: .undef :: .undef :: .undef :: .undef :: []), []⟩ (FinQ [.tmp 2] 0 r)) :
    ∀ (n i : Nat) (acc : Bs), i + n = 8 → acc.length ≤ 10 * i → dayF d n i acc = R →
    Run mach0 (.c billingref25_slot_l1b :: .lp billingref25_slot_l1 :: .endB 0 :: .c billingref25_slot_k1 :: []) .norm
      ⟨(.undef :: .rptr [.int .i64 d, .int .i64 lo, .int .i64 hi] :: .undef :: .str acc :: .sl false 1 dayVs :: .int .i64 i :: .undef :: .undef :: .undef :: .undef :: .undef :: .undef :: .undef :: .undef :: .undef :: .undef :: .undef :: .undef :: .undef :: .undef :: .undef :: .undef :: .undef :: .undef :: .undef :: .undef :: .undef :: .undef :: .undef :: .undef :: .undef :: .undef :: .undef :: .undef :: .undef :: .undef :: .undef :: .undef :: .undef :: .undef :: []), []⟩ (FinQ [.tmp 2] 0 r)
  | 0, i, acc, hi8, hl, he => by
    obtain rfl : i = 8 := by omega
    have he : acc = R := he
    subst he
    unfold billingref25_slot_l1b
    simp [go_sem, dayVs_len, billingref25_slot_k1]
    exact hk
  | n + 1, i, acc, hi8, hl, he => by
    have i8 : i < 8 := by omega
    have hb := bit_rem ⟨d, hd⟩ ⟨i, i8⟩
    have hb2 := bit_rem2 ⟨d, hd⟩ ⟨i, i8⟩
    simp only at hb hb2
    have hw := dayVs_nth i8
    have wl : (dayW i).length ≤ 7 := by
      match i, i8 with
      | 0, _ => decide
      | 1, _ => decide
      | 2, _ => decide
      | 3, _ => decide
      | 4, _ => decide
      | 5, _ => decide
      | 6, _ => decide
      | 7, _ => decide
      | n + 8, h => omega
    have w : IntKind.wrap .i64 ((i : Int) + 1) = i + 1 := wrap_i64 (by omega)
    have he : dayF d n (i + 1) (if d / 2 ^ i % 2 = 0 then acc else if acc = [] then dayW i else acc ++ 43 :: dayW i) = R := he
    have ih := rslot_l d hd lo hi r R hk n (i + 1) _ (by omega) (by
      split
      · omega
      · split
        · omega
        · simp; omega) he
    have q : (i : Int) < 8 := by omega
    have i7 : i ≤ 7 := by omega
    generalize hM : d / 2 ^ i % 2 = M at *
    have hM2 : M = 0 ∨ M = 1 := by omega
    unfold billingref25_slot_l1b
    rcases hM2 with rfl | rfl
    · simp only [if_true] at ih
      simp [go_sem, q, i8, i7, hb, hb2, hw, w, dayVs_len]
      simpa using ih
    · rw [if_neg (by decide)] at ih
      by_cases ha : acc = []
      · subst ha
        rw [if_pos rfl] at ih
        simp (disch := omega) [go_sem, q, i8, i7, hb, hb2, hw, w, dayVs_len, leA]
        simpa using ih
      · rw [if_neg ha] at ih
        have hb' : (acc != []) = true := by simpa using ha
        simp (disch := omega) [go_sem, q, i8, i7, hb, hb2, hb', hw, w, dayVs_len, leA]
        simpa using ih
theorem e_rslot (s : SlotP) (h : SlotOk s) : acall mach0 n_billingref25_slot [slotV s] [] = some (.ret (.str (slotB s)) []) := by
 obtain ⟨d1, d2, a1, a2, b1, b2⟩ := h
 obtain ⟨days, lo, hi⟩ := s
 simp only at d1 d2 a1 a2 b1 b2
 obtain ⟨d, rfl⟩ := Int.eq_ofNat_of_zero_le (show 0 ≤ days by omega)
 obtain ⟨a, rfl⟩ := Int.eq_ofNat_of_zero_le a1
 obtain ⟨b, rfl⟩ := Int.eq_ofNat_of_zero_le b1
 have ea := e_rMinute a (by omega)
 have eb := e_rMinute b (by omega)
 have hD := dayF_all ⟨d, by omega⟩
 simp only at hD
 have hDl := dayF_len d 8 0 [] (by omega) (by simp)
 have la := minute_lenA (a : Int)
 have lb := minute_lenA (b : Int)
 have hsb : slotB ⟨d, a, b⟩ = dayF d 8 0 [] ++ ([32] ++ (minuteB a ++ ([45] ++ minuteB b))) := by
  simp only [slotB, daysB, Int.toNat_natCast, hD]
  simp
 have run := rslot_l d (by omega) a b (.ret (.str (slotB ⟨d, a, b⟩)) []) _ (by
  rw [hsb]
  generalize dayF d 8 0 [] = D at *
  generalize minuteB a = ma at *
  generalize minuteB b = mb at *
  unfold billingref25_slot_k1b
  simp (disch := omega) [go_sem, ea, eb, leA]) 8 0 [] rfl (by simp) rfl
 have eD := b_Days
 generalize dayVs = dv at *
 refine acall_fn rfl (af := a_billingref25_slot) rfl rfl ?_
 simp only [slotV]
 simp [List.replicate, go_sem, eD]
 simpa using run
theorem name_lenB {s : Bs} (h : nameOk s = true) : s.length ≤ 24 := by
 simp only [nameOk, Bool.and_eq_true, decide_eq_true_eq] at h; exact h.1.2
theorem slotB_lenB {s : SlotP} (h : SlotOk s) : (slotB s).length ≤ 100 := by
 obtain ⟨d1, d2, _⟩ := h
 have h2 := dayF_len s.days.toNat 8 0 [] (by omega) (by simp)
 have h3 := dayF_all ⟨s.days.toNat, by omega⟩
 simp only at h3
 rw [h3] at h2
 simp only [slotB, daysB, List.length_append, List.length_cons, minute_lenA]; omega
theorem sum_slotsB : ∀ m : List SlotP, (∀ s ∈ m, SlotOk s) → sumL (m.map slotB) ≤ 100 * m.length
 | [], _ => by simp [sumL]
 | s :: m, hm => by
  have h1 := sum_slotsB m (fun x hx => hm x (by simp [hx]))
  have h4 := slotB_lenB (hm s (by simp))
  simp only [List.map_cons, sumL, List.length_cons]
  omega
theorem rbl_l (b : BandP) (hb : BandOk b) (hn : b.slots.length ≤ 100000) (h0 : b.slots ≠ []) : ∀ (l2 l1 : List SlotP), l1 ++ l2 = b.slots →
  Run mach0 (.c billingref25_bandLine_l1b :: .lp billingref25_bandLine_l1 :: .endB 0 :: .c billingref25_bandLine_k1 :: []) .norm
   ⟨(.undef :: .rptr [.str b.name, .sl false 3 (b.slots.map slotV)] :: .undef :: .sl true 1 ((l1.map slotB).map V.str) :: .int .i64 l1.length :: .undef :: .undef :: .undef :: .undef :: .undef :: .undef :: .undef :: .undef :: .undef :: .undef :: .undef :: .undef :: .undef :: .undef :: .undef :: .undef :: .undef :: .undef :: .undef :: .undef :: .undef :: .undef :: .undef :: .undef :: .undef :: .undef :: .undef :: .undef :: .undef :: .undef :: .undef :: .undef :: []), []⟩ (FinQ [.tmp 2] 0 (.ret (.str (bandB b)) []))
 | [], l1, he => by
  have q : ¬ ((l1.length : Int) < b.slots.length) := by rw [← he]; simp
  rw [List.append_nil] at he
  have hs := sum_slotsB b.slots hb.slots
  have hj := join_len (b.slots.map slotB)
  rw [List.length_map] at hj
  have el := e_rJoined (b.slots.map slotB) (by simp; omega) (by omega)
  have hnm := name_lenB hb.name
  rw [bandB_eq]
  unfold slotsB
  rw [if_neg h0]
  subst he
  simp only [List.map_map] at el
  generalize joinB (b.slots.map slotB) = jj at *
  unfold billingref25_bandLine_l1b
  simp [go_sem, q, billingref25_bandLine_k1]
  simp (disch := omega) [go_sem, billingref25_bandLine_k1b, el, leA]
 | s :: l2, l1, he => by
  have ih := rbl_l b hb hn h0 l2 (l1 ++ [s]) (by rw [← he]; simp)
  have len : b.slots.length = l1.length + (l2.length + 1) := by rw [← he]; simp
  have q : (l1.length : Int) < b.slots.length := by omega
  have q' : l1.length < b.slots.length := by omega
  have w : IntKind.wrap .i64 ((l1.length : Int) + 1) = l1.length + 1 := wrap_i64 (by omega)
  have hnth : nth (b.slots.map slotV) l1.length = slotV s := by rw [← he]; exact nth_mapA _ _ _ _
  have e := e_rslot s (hb.slots s (by rw [← he]; simp))
  have o1 : (l1.length + 1) * 16 ≤ 140737488355328 := by omega
  simp only [List.length_append, List.length_cons, List.length_nil, Nat.zero_add, List.map_append, List.map_cons, List.map_nil] at ih
  simp only [slotV] at hnth e
  generalize slotB s = sb at *
  unfold billingref25_bandLine_l1b
  simp [go_sem, q, q', hnth, e, o1, w]
  simpa using ih
theorem e_rbandLine (z : Nat) (b : BandP) (hb : BandOk b) (hn : b.slots.length ≤ 100000) : acall mach0 n_billingref25_bandLine [bandW z b] [] = some (.ret (.str (bandB b)) []) := by
 refine acall_fn rfl (af := a_billingref25_bandLine) rfl rfl ?_
 simp only [bandW, slW]
 have hnm := name_lenB hb.name
 by_cases h0 : b.slots = []
 ·rw [bandB_eq]
  unfold slotsB
  rw [if_pos h0, h0]
  simp (disch := omega) [List.replicate, go_sem, kOther, leA]
 ·have run := rbl_l b hb hn h0 b.slots [] rfl
  have h1 : ¬ (b.slots.length : Int) = 0 := by
   intro h; apply h0; exact List.length_eq_zero_iff.1 (by omega)
  rw [if_neg h0]
  simp [List.replicate, go_sem, bf' h1]
  simpa using run
def kindVs : List V := [.str [118, 111, 105, 99, 101], .str [116, 101, 120, 116], .str [100, 97, 116, 97], .str [99, 111, 110, 116, 101, 110, 116]]
theorem b_Kinds : acall mach0 n_billingref24_Kinds [] [] = some (.ret (.sl false 1 kindVs) []) := (acall_iff _).2 ⟨60, by kernel_rfl⟩
theorem rrl_l (x : RateP) (hx : RateOk x) (hn : x.steps.length ≤ 100000) (T : Bs) (hT : T.length ≤ 1000) (hE : T ++ (joinB (x.steps.map tierB) ++ [32, 59, 10]) = rateB x) : ∀ (l2 l1 : List StepP), l1 ++ l2 = x.steps →
  Run mach0 (.c billingref25_rateLine_l1b :: .lp billingref25_rateLine_l1 :: .endB 0 :: .c billingref25_rateLine_k1 :: []) .norm
   ⟨(.undef :: .rptr [.int .i64 x.kind, .str x.zone, .str x.band, .int .i64 x.setup, .sl false 3 (x.steps.map stepV)] :: .undef :: .str T :: .sl true 1 ((l1.map tierB).map V.str) :: .int .i64 l1.length :: .undef :: .undef :: .undef :: .undef :: .undef :: .undef :: .undef :: .undef :: .undef :: .undef :: .undef :: .undef :: .undef :: .undef :: .undef :: .undef :: .undef :: .undef :: .undef :: .undef :: .undef :: .undef :: .undef :: .undef :: .undef :: .undef :: .undef :: .undef :: .undef :: .undef :: .undef :: .undef :: .undef :: .undef :: .undef :: .undef :: .undef :: .undef :: .undef :: .undef :: .undef :: .undef :: .undef :: .undef :: .undef :: .undef :: .undef :: .undef :: .undef :: []), []⟩ (FinQ [.tmp 2] 0 (.ret (.str (rateB x)) []))
 | [], l1, he => by
  have q : ¬ ((l1.length : Int) < x.steps.length) := by rw [← he]; simp
  rw [List.append_nil] at he
  have hs := sum_tiers x.steps hx.steps
  have hj := join_len (x.steps.map tierB)
  rw [List.length_map] at hj
  have el := e_rJoined (x.steps.map tierB) (by simp; omega) (by omega)
  rw [← hE]
  subst he
  simp only [List.map_map] at el
  generalize joinB (x.steps.map tierB) = jj at *
  unfold billingref25_rateLine_l1b
  simp [go_sem, q, billingref25_rateLine_k1]
  simp (disch := omega) [go_sem, billingref25_rateLine_k1b, el, leA]
 | s :: l2, l1, he => by
  have ih := rrl_l x hx hn T hT hE l2 (l1 ++ [s]) (by rw [← he]; simp)
  have len : x.steps.length = l1.length + (l2.length + 1) := by rw [← he]; simp
  have q : (l1.length : Int) < x.steps.length := by omega
  have q' : l1.length < x.steps.length := by omega
  have w : IntKind.wrap .i64 ((l1.length : Int) + 1) = l1.length + 1 := wrap_i64 (by omega)
  have hnth : nth (x.steps.map stepV) l1.length = stepV s := by rw [← he]; exact nth_mapA _ _ _ _
  have e := e_rstep s (hx.steps s (by rw [← he]; simp))
  have o1 : (l1.length + 1) * 16 ≤ 140737488355328 := by omega
  simp only [List.length_append, List.length_cons, List.length_nil, Nat.zero_add, List.map_append, List.map_cons, List.map_nil] at ih
  simp only [stepV] at hnth e
  generalize tierB s = sb at *
  unfold billingref25_rateLine_l1b
  simp [go_sem, q, q', hnth, e, o1, w]
  simpa using ih
theorem kindVs_nth {k : Int} (h1 : 1 ≤ k) (h2 : k ≤ 4) : nth kindVs (k.toNat - 1) = .str (kindW k) := by
 have : k = 1 ∨ k = 2 ∨ k = 3 ∨ k = 4 := by omega
 rcases this with rfl | rfl | rfl | rfl <;> rfl
theorem kindVs_len : kindVs.length = 4 := rfl
theorem e_rrateLine (x : RateP) (hx : RateOk x) (hn : x.steps.length ≤ 100000) : acall mach0 n_billingref25_rateLine [rateV x] [] = some (.ret (.str (rateB x)) []) := by
 have run := rrl_l x hx hn
 have ez := e_rany x.zone
 have eb := e_rany x.band
 have l1' := any_len hx.zone
 have l2' := any_len hx.band
 have l3' := kind_lenA hx.k1 hx.k2
 have hkn := kindVs_nth hx.k1 hx.k2
 have k1 := hx.k1
 have k2 := hx.k2
 have w : IntKind.wrap .i64 (x.kind - 1) = x.kind - 1 := wrap_i64 (by omega)
 have q0 : 0 ≤ x.kind - 1 := by omega
 have q4 : x.kind - 1 < 4 := by omega
 have ek := b_Kinds
 have hE := rateB_eq x
 have hkl := kindVs_len
 refine acall_fn rfl (af := a_billingref25_rateLine) rfl rfl ?_
 simp only [rateV]
 generalize kindVs = kv at *
 generalize kindW x.kind = kk at *
 generalize anyB x.zone = zz at *
 generalize anyB x.band = bb at *
 by_cases h0 : x.setup = 0
 ·have hu : setupB x.setup = [] := by rw [h0]; rfl
  rw [hu] at hE
  have r := run ([114, 97, 116, 101, 32] ++ (kk ++ ([32, 116, 111, 32] ++ (zz ++ ([32, 105, 110, 32] ++ (bb ++ [32])))))) (by simp only [List.length_append, List.length_cons, List.length_nil]; omega) (by rw [hE]; simp) x.steps [] rfl
  simp only [h0] at r
  simp (disch := omega) [List.replicate, go_sem, h0, ek, ez, eb, w, hkn, hkl, k1, q4, leA]
  simpa using r
 ·have hu := setupB_eq h0
  rw [hu] at hE
  have es := e_rdec hx.setup
  have ls := decZ_len hx.setup
  generalize decZ x.setup = ss at *
  have r := run ([114, 97, 116, 101, 32] ++ (kk ++ ([32, 116, 111, 32] ++ (zz ++ ([32, 105, 110, 32] ++ (bb ++ ([32, 115, 101, 116, 117, 112, 32] ++ (ss ++ [32])))))))) (by simp only [List.length_append, List.length_cons, List.length_nil]; omega) (by rw [hE]; simp) x.steps [] rfl
  simp (disch := omega) [List.replicate, go_sem, nt' h0, ek, ez, eb, es, w, hkn, hkl, k1, q4, leA]
  simpa using r
end Go.Am
namespace Go.Am
open Go Go.Pu
theorem e_rhead (z : Nat) (t : TariffP) (h : WholeOk t) : acall mach0 n_billingref25_head [tariffW z t] [] = some (.ret (.str (headB t)) []) := by
 have hnm := name_lenB h.name
 obtain ⟨n, hn⟩ := Int.eq_ofNat_of_zero_le h.s1
 have hn2 := h.s2
 have t1 : t.start.tdiv 86400 = t.start / 86400 := Int.tdiv_eq_ediv_of_nonneg h.s1
 have t2 : t.start.tmod 86400 = t.start % 86400 := Int.tmod_eq_emod_of_nonneg h.s1
 have w1 : IntKind.wrap .i64 (t.start / 86400) = t.start / 86400 := wrap_i64 (by omega)
 have ed := e_rDate (day := t.start / 86400) (by omega) (by omega)
 have l1 := dayB_lenA (t.start / 86400)
 obtain ⟨s, hs⟩ : ∃ s : Nat, t.start % 86400 = (s : Int) := ⟨(t.start % 86400).toNat, by omega⟩
 have hs2 : s < 86400 := by omega
 have w2 : IntKind.wrap .i64 (s : Int) = s := wrap_i64 (by omega)
 rw [headB_eq]
 rw [hs] at t2 ⊢
 refine acall_fn rfl (af := a_billingref25_head) rfl rfl ?_
 simp only [tariffW]
 generalize dayB (t.start / 86400) = D at *
 by_cases h0 : s = 0
 ·subst h0
  have hc0 : clockO ((0 : Nat) : Int) = [] := rfl
  rw [hc0]
  simp at t2
  cases hsp : t.split with
  | false =>
   have hs0 : splitO false = [] := rfl
   rw [hs0]
   simp (disch := omega) [List.replicate, go_sem, t1, t2, w1, ed, leA]
  | true =>
   have hs0 : splitO true = [32, 115, 112, 108, 105, 116] := rfl
   rw [hs0]
   simp (disch := omega) [List.replicate, go_sem, t1, t2, w1, ed, leA]
 ·have hs1 : ¬ (s : Int) = 0 := by omega
  have hc1 : clockO (s : Int) = 32 :: clockB (s : Int) := by unfold clockO; rw [if_neg (by omega)]
  rw [hc1]
  have ec := e_rClock s hs2
  have lc : (clockB (s : Int)).length = 8 := by simp [clockB_eq, k2_lenA]
  generalize clockB (s : Int) = C at *
  cases hsp : t.split with
  | false =>
   have hs0 : splitO false = [] := rfl
   rw [hs0]
   simp (disch := omega) [List.replicate, go_sem, t1, t2, w1, w2, ed, ec, nt' hs1, h0, leA]
  | true =>
   have hs0 : splitO true = [32, 115, 112, 108, 105, 116] := rfl
   rw [hs0]
   simp (disch := omega) [List.replicate, go_sem, t1, t2, w1, w2, ed, ec, nt' hs1, h0, leA]
theorem rt_zones (z : Nat) (t : TariffP) (h : WholeOk t) (hB : TB t) (X : Bs) (hX : X.length ≤ 100000000000) (r : Rt)
    (hk : Run mach0 (.c billingref25_Tariff_k4b :: []) .norm ⟨(.undef :: .rptr (tariffW z t).cells :: .undef :: .undef :: .str X :: .undef :: .undef :: .undef :: .undef :: .undef :: .undef :: .undef :: .undef :: .undef :: .undef :: .undef :: .undef :: .undef :: .undef :: .undef :: .undef :: .undef :: .undef :: .undef :: .undef :: .undef :: .undef :: .undef :: .undef :: .undef :: .undef :: .undef :: .undef :: .undef :: .undef :: .undef :: .undef :: .undef :: .undef :: .undef :: .undef :: .undef :: .undef :: .undef :: .undef :: .undef :: .undef :: .undef :: .undef :: .undef :: .undef :: .undef :: .undef :: .undef :: .undef :: .undef :: .undef :: .undef :: .undef :: .undef :: .undef :: .undef :: .undef :: .undef :: .undef :: .undef :: .undef :: .undef :: .undef :: .undef :: .undef :: .undef :: .undef :: .undef :: .undef :: .undef :: .undef :: .undef :: .undef :: .undef :: .undef :: .undef :: .undef :: .undef :: .undef :: .undef :: .undef :: .undef :: .undef :: .undef :: .undef :: .undef :: .undef :: .undef :: .undef :: .undef :: .undef :: .undef :: .undef :: .undef :: .undef :: .undef :: .undef :: []), []⟩ (FinQ [.tmp 2, .tmp 3] 0 r)) : ∀ (l2 l1 : List ZoneP) (acc : Bs), l1 ++ l2 = t.zones → acc ++ l2.flatMap zoneB = X →
    Run mach0 (.c billingref25_Tariff_l1b :: .lp billingref25_Tariff_l1 :: .endB 0 :: .c billingref25_Tariff_k4 :: []) .norm
      ⟨(.undef :: .rptr (tariffW z t).cells :: .undef :: .undef :: .str acc :: .int .i64 l1.length :: .undef :: .undef :: .undef :: .undef :: .undef :: .undef :: .undef :: .undef :: .undef :: .undef :: .undef :: .undef :: .undef :: .undef :: .undef :: .undef :: .undef :: .undef :: .undef :: .undef :: .undef :: .undef :: .undef :: .undef :: .undef :: .undef :: .undef :: .undef :: .undef :: .undef :: .undef :: .undef :: .undef :: .undef :: .undef :: .undef :: .undef :: .undef :: .undef :: .undef :: .undef :: .undef :: .undef :: .undef :: .undef :: .undef :: .undef :: .undef :: .undef :: .undef :: .undef :: .undef :: .undef :: .undef :: .undef :: .undef :: .undef :: .undef :: .undef :: .undef :: .undef :: .undef :: .undef :: .undef :: .undef :: .undef :: .undef :: .undef :: .undef :: .undef :: .undef :: .undef :: .undef :: .undef :: .undef :: .undef :: .undef :: .undef :: .undef :: .undef :: .undef :: .undef :: .undef :: .undef :: .undef :: .undef :: .undef :: .undef :: .undef :: .undef :: .undef :: .undef :: .undef :: .undef :: .undef :: .undef :: .undef :: []), []⟩ (FinQ [.tmp 2, .tmp 3] 0 r)
  | [], l1, acc, he, hx => by
    have q : ¬ ((l1.length : Int) < t.zones.length) := by rw [← he]; simp
    have hx : acc = X := by simpa using hx
    subst hx
    simp only [tariffW, V.cells] at hk ⊢
    unfold billingref25_Tariff_l1b
    simp [go_sem, q, billingref25_Tariff_k4]
    exact hk
  | a :: l2, l1, acc, he, hx => by
    have ih := rt_zones z t h hB X hX r hk l2 (l1 ++ [a]) (acc ++ zoneB a) (by rw [← he]; simp) (by rw [← hx]; simp)
    have hle := one_le zoneB (l1 := l1) hx
    have hn := hB.zones
    have len : t.zones.length = l1.length + (l2.length + 1) := by rw [← he]; simp
    have q : (l1.length : Int) < t.zones.length := by omega
    have q' : l1.length < t.zones.length := by omega
    have w : IntKind.wrap .i64 ((l1.length : Int) + 1) = l1.length + 1 := wrap_i64 (by omega)
    have hnth : nth (t.zones.map zoneV) l1.length = zoneV a := by rw [← he]; exact nth_mapA _ _ _ _
    have hok := h.zones a (by rw [← he]; simp)
    clear hx hk
    simp only [List.length_append, List.length_cons, List.length_nil, Nat.zero_add, tariffW, V.cells] at ih ⊢
    unfold billingref25_Tariff_l1b
    have hs := sum_pref a.pref hok.pref
    have hpl := hB.pref a (by rw [← he]; simp)
    have el := e_rJoined a.pref (by omega) (by omega)
    rw [zoneB_eq] at hle ih
    simp only [List.length_append, List.length_cons, List.length_nil] at hle
    simp only [zoneV] at hnth
    generalize joinB a.pref = jj at *
    simp (disch := omega) [go_sem, q, q', hnth, el, w, leA]
    simpa using ih
theorem rt_bands (z : Nat) (t : TariffP) (h : WholeOk t) (hB : TB t) (X : Bs) (hX : X.length ≤ 100000000000) (r : Rt)
    (hk : Run mach0 (.c billingref25_Tariff_k3b :: []) .norm ⟨(.undef :: .rptr (tariffW z t).cells :: .undef :: .undef :: .str X :: .undef :: .undef :: .undef :: .undef :: .undef :: .undef :: .undef :: .undef :: .undef :: .undef :: .undef :: .undef :: .undef :: .undef :: .undef :: .undef :: .undef :: .undef :: .undef :: .undef :: .undef :: .undef :: .undef :: .undef :: .undef :: .undef :: .undef :: .undef :: .undef :: .undef :: .undef :: .undef :: .undef :: .undef :: .undef :: .undef :: .undef :: .undef :: .undef :: .undef :: .undef :: .undef :: .undef :: .undef :: .undef :: .undef :: .undef :: .undef :: .undef :: .undef :: .undef :: .undef :: .undef :: .undef :: .undef :: .undef :: .undef :: .undef :: .undef :: .undef :: .undef :: .undef :: .undef :: .undef :: .undef :: .undef :: .undef :: .undef :: .undef :: .undef :: .undef :: .undef :: .undef :: .undef :: .undef :: .undef :: .undef :: .undef :: .undef :: .undef :: .undef :: .undef :: .undef :: .undef :: .undef :: .undef :: .undef :: .undef :: .undef :: .undef :: .undef :: .undef :: .undef :: .undef :: .undef :: .undef :: .undef :: .undef :: []), []⟩ (FinQ [.tmp 2, .tmp 3] 0 r)) : ∀ (l2 l1 : List BandP) (acc : Bs), l1 ++ l2 = t.bands → acc ++ l2.flatMap bandB = X →
    Run mach0 (.c billingref25_Tariff_l2b :: .lp billingref25_Tariff_l2 :: .endB 2 :: .c billingref25_Tariff_k3 :: []) .norm
      ⟨(.undef :: .rptr (tariffW z t).cells :: .undef :: .undef :: .str acc :: .undef :: .int .i64 l1.length :: .undef :: .undef :: .undef :: .undef :: .undef :: .undef :: .undef :: .undef :: .undef :: .undef :: .undef :: .undef :: .undef :: .undef :: .undef :: .undef :: .undef :: .undef :: .undef :: .undef :: .undef :: .undef :: .undef :: .undef :: .undef :: .undef :: .undef :: .undef :: .undef :: .undef :: .undef :: .undef :: .undef :: .undef :: .undef :: .undef :: .undef :: .undef :: .undef :: .undef :: .undef :: .undef :: .undef :: .undef :: .undef :: .undef :: .undef :: .undef :: .undef :: .undef :: .undef :: .undef :: .undef :: .undef :: .undef :: .undef :: .undef :: .undef :: .undef :: .undef :: .undef :: .undef :: .undef :: .undef :: .undef :: .undef :: .undef :: .undef :: .undef :: .undef :: .undef :: .undef :: .undef :: .undef :: .undef :: .undef :: .undef :: .undef :: .undef :: .undef :: .undef :: .undef :: .undef :: .undef :: .undef :: .undef :: .undef :: .undef :: .undef :: .undef :: .undef :: .undef :: .undef :: .undef :: .undef :: .undef :: []), []⟩ (FinQ [.tmp 2, .tmp 3] 0 r)
  | [], l1, acc, he, hx => by
    have q : ¬ ((l1.length : Int) < t.bands.length) := by rw [← he]; simp
    have hx : acc = X := by simpa using hx
    subst hx
    simp only [tariffW, V.cells] at hk ⊢
    unfold billingref25_Tariff_l2b
    simp [go_sem, q, billingref25_Tariff_k3]
    exact hk
  | a :: l2, l1, acc, he, hx => by
    have ih := rt_bands z t h hB X hX r hk l2 (l1 ++ [a]) (acc ++ bandB a) (by rw [← he]; simp) (by rw [← hx]; simp)
    have hle := one_le bandB (l1 := l1) hx
    have hn := hB.bands
    have len : t.bands.length = l1.length + (l2.length + 1) := by rw [← he]; simp
    have q : (l1.length : Int) < t.bands.length := by omega
    have q' : l1.length < t.bands.length := by omega
    have w : IntKind.wrap .i64 ((l1.length : Int) + 1) = l1.length + 1 := wrap_i64 (by omega)
    have hnth : nth (t.bands.map (bandW z)) l1.length = (bandW z) a := by rw [← he]; exact nth_mapA _ _ _ _
    have hok := h.bands a (by rw [← he]; simp)
    clear hx hk
    simp only [List.length_append, List.length_cons, List.length_nil, Nat.zero_add, tariffW, V.cells] at ih ⊢
    unfold billingref25_Tariff_l2b
    have el := e_rbandLine z a hok (hB.slots a (by rw [← he]; simp))
    simp only [bandW, slW] at hnth el
    generalize bandB a = el2 at *
    generalize (if a.slots = [] then z else 3) = zz at *
    simp (disch := omega) [go_sem, q, q', hnth, el, w, leA]
    simpa using ih
theorem rt_rates (z : Nat) (t : TariffP) (h : WholeOk t) (hB : TB t) (X : Bs) (hX : X.length ≤ 100000000000) (r : Rt)
    (hk : Run mach0 (.c billingref25_Tariff_k2b :: []) .norm ⟨(.undef :: .rptr (tariffW z t).cells :: .undef :: .undef :: .str X :: .undef :: .undef :: .undef :: .undef :: .undef :: .undef :: .undef :: .undef :: .undef :: .undef :: .undef :: .undef :: .undef :: .undef :: .undef :: .undef :: .undef :: .undef :: .undef :: .undef :: .undef :: .undef :: .undef :: .undef :: .undef :: .undef :: .undef :: .undef :: .undef :: .undef :: .undef :: .undef :: .undef :: .undef :: .undef :: .undef :: .undef :: .undef :: .undef :: .undef :: .undef :: .undef :: .undef :: .undef :: .undef :: .undef :: .undef :: .undef :: .undef :: .undef :: .undef :: .undef :: .undef :: .undef :: .undef :: .undef :: .undef :: .undef :: .undef :: .undef :: .undef :: .undef :: .undef :: .undef :: .undef :: .undef :: .undef :: .undef :: .undef :: .undef :: .undef :: .undef :: .undef :: .undef :: .undef :: .undef :: .undef :: .undef :: .undef :: .undef :: .undef :: .undef :: .undef :: .undef :: .undef :: .undef :: .undef :: .undef :: .undef :: .undef :: .undef :: .undef :: .undef :: .undef :: .undef :: .undef :: .undef :: .undef :: []), []⟩ (FinQ [.tmp 2, .tmp 3] 0 r)) : ∀ (l2 l1 : List RateP) (acc : Bs), l1 ++ l2 = t.rates → acc ++ l2.flatMap rateB = X →
    Run mach0 (.c billingref25_Tariff_l3b :: .lp billingref25_Tariff_l3 :: .endB 4 :: .c billingref25_Tariff_k2 :: []) .norm
      ⟨(.undef :: .rptr (tariffW z t).cells :: .undef :: .undef :: .str acc :: .undef :: .undef :: .int .i64 l1.length :: .undef :: .undef :: .undef :: .undef :: .undef :: .undef :: .undef :: .undef :: .undef :: .undef :: .undef :: .undef :: .undef :: .undef :: .undef :: .undef :: .undef :: .undef :: .undef :: .undef :: .undef :: .undef :: .undef :: .undef :: .undef :: .undef :: .undef :: .undef :: .undef :: .undef :: .undef :: .undef :: .undef :: .undef :: .undef :: .undef :: .undef :: .undef :: .undef :: .undef :: .undef :: .undef :: .undef :: .undef :: .undef :: .undef :: .undef :: .undef :: .undef :: .undef :: .undef :: .undef :: .undef :: .undef :: .undef :: .undef :: .undef :: .undef :: .undef :: .undef :: .undef :: .undef :: .undef :: .undef :: .undef :: .undef :: .undef :: .undef :: .undef :: .undef :: .undef :: .undef :: .undef :: .undef :: .undef :: .undef :: .undef :: .undef :: .undef :: .undef :: .undef :: .undef :: .undef :: .undef :: .undef :: .undef :: .undef :: .undef :: .undef :: .undef :: .undef :: .undef :: .undef :: .undef :: .undef :: []), []⟩ (FinQ [.tmp 2, .tmp 3] 0 r)
  | [], l1, acc, he, hx => by
    have q : ¬ ((l1.length : Int) < t.rates.length) := by rw [← he]; simp
    have hx : acc = X := by simpa using hx
    subst hx
    simp only [tariffW, V.cells] at hk ⊢
    unfold billingref25_Tariff_l3b
    simp [go_sem, q, billingref25_Tariff_k2]
    exact hk
  | a :: l2, l1, acc, he, hx => by
    have ih := rt_rates z t h hB X hX r hk l2 (l1 ++ [a]) (acc ++ rateB a) (by rw [← he]; simp) (by rw [← hx]; simp)
    have hle := one_le rateB (l1 := l1) hx
    have hn := hB.rates
    have len : t.rates.length = l1.length + (l2.length + 1) := by rw [← he]; simp
    have q : (l1.length : Int) < t.rates.length := by omega
    have q' : l1.length < t.rates.length := by omega
    have w : IntKind.wrap .i64 ((l1.length : Int) + 1) = l1.length + 1 := wrap_i64 (by omega)
    have hnth : nth (t.rates.map rateV) l1.length = rateV a := by rw [← he]; exact nth_mapA _ _ _ _
    have hok := h.rates a (by rw [← he]; simp)
    clear hx hk
    simp only [List.length_append, List.length_cons, List.length_nil, Nat.zero_add, tariffW, V.cells] at ih ⊢
    unfold billingref25_Tariff_l3b
    have el := e_rrateLine a hok (hB.steps a (by rw [← he]; simp))
    simp only [rateV] at hnth el
    generalize rateB a = el2 at *
    simp (disch := omega) [go_sem, q, q', hnth, el, w, leA]
    simpa using ih
theorem rt_discs (z : Nat) (t : TariffP) (h : WholeOk t) (hB : TB t) (X : Bs) (hX : X.length ≤ 100000000000) (r : Rt)
    (hk : Run mach0 (.c billingref25_Tariff_k1b :: []) .norm ⟨(.undef :: .undef :: .undef :: .undef :: .str X :: .undef :: .undef :: .undef :: .undef :: .undef :: .undef :: .undef :: .undef :: .undef :: .undef :: .undef :: .undef :: .undef :: .undef :: .undef :: .undef :: .undef :: .undef :: .undef :: .undef :: .undef :: .undef :: .undef :: .undef :: .undef :: .undef :: .undef :: .undef :: .undef :: .undef :: .undef :: .undef :: .undef :: .undef :: .undef :: .undef :: .undef :: .undef :: .undef :: .undef :: .undef :: .undef :: .undef :: .undef :: .undef :: .undef :: .undef :: .undef :: .undef :: .undef :: .undef :: .undef :: .undef :: .undef :: .undef :: .undef :: .undef :: .undef :: .undef :: .undef :: .undef :: .undef :: .undef :: .undef :: .undef :: .undef :: .undef :: .undef :: .undef :: .undef :: .undef :: .undef :: .undef :: .undef :: .undef :: .undef :: .undef :: .undef :: .undef :: .undef :: .undef :: .undef :: .undef :: .undef :: .undef :: .undef :: .undef :: .undef :: .undef :: .undef :: .undef :: .undef :: .undef :: .undef :: .undef :: .undef :: .undef :: .undef :: []), []⟩ (FinQ [.tmp 2, .tmp 3] 0 r)) : ∀ (l2 l1 : List DiscP) (acc : Bs), l1 ++ l2 = t.discs → acc ++ l2.flatMap discB = X →
    Run mach0 (.c billingref25_Tariff_l4b :: .lp billingref25_Tariff_l4 :: .endB 6 :: .c billingref25_Tariff_k1 :: []) .norm
      ⟨(.undef :: .rptr (tariffW z t).cells :: .undef :: .undef :: .str acc :: .undef :: .undef :: .undef :: .int .i64 l1.length :: .undef :: .undef :: .undef :: .undef :: .undef :: .undef :: .undef :: .undef :: .undef :: .undef :: .undef :: .undef :: .undef :: .undef :: .undef :: .undef :: .undef :: .undef :: .undef :: .undef :: .undef :: .undef :: .undef :: .undef :: .undef :: .undef :: .undef :: .undef :: .undef :: .undef :: .undef :: .undef :: .undef :: .undef :: .undef :: .undef :: .undef :: .undef :: .undef :: .undef :: .undef :: .undef :: .undef :: .undef :: .undef :: .undef :: .undef :: .undef :: .undef :: .undef :: .undef :: .undef :: .undef :: .undef :: .undef :: .undef :: .undef :: .undef :: .undef :: .undef :: .undef :: .undef :: .undef :: .undef :: .undef :: .undef :: .undef :: .undef :: .undef :: .undef :: .undef :: .undef :: .undef :: .undef :: .undef :: .undef :: .undef :: .undef :: .undef :: .undef :: .undef :: .undef :: .undef :: .undef :: .undef :: .undef :: .undef :: .undef :: .undef :: .undef :: .undef :: .undef :: .undef :: .undef :: []), []⟩ (FinQ [.tmp 2, .tmp 3] 0 r)
  | [], l1, acc, he, hx => by
    have q : ¬ ((l1.length : Int) < t.discs.length) := by rw [← he]; simp
    have hx : acc = X := by simpa using hx
    subst hx
    simp only [tariffW, V.cells]
    unfold billingref25_Tariff_l4b
    simp [go_sem, q, billingref25_Tariff_k1]
    exact hk
  | a :: l2, l1, acc, he, hx => by
    have ih := rt_discs z t h hB X hX r hk l2 (l1 ++ [a]) (acc ++ discB a) (by rw [← he]; simp) (by rw [← hx]; simp)
    have hle := one_le discB (l1 := l1) hx
    have hn := hB.discs
    have len : t.discs.length = l1.length + (l2.length + 1) := by rw [← he]; simp
    have q : (l1.length : Int) < t.discs.length := by omega
    have q' : l1.length < t.discs.length := by omega
    have w : IntKind.wrap .i64 ((l1.length : Int) + 1) = l1.length + 1 := wrap_i64 (by omega)
    have hnth : nth (t.discs.map discV) l1.length = discV a := by rw [← he]; exact nth_mapA _ _ _ _
    have hok := h.discs a (by rw [← he]; simp)
    clear hx hk
    simp only [List.length_append, List.length_cons, List.length_nil, Nat.zero_add, tariffW, V.cells] at ih ⊢
    unfold billingref25_Tariff_l4b
    rw [discB_eq] at hle ih
    simp only [List.length_append, List.length_cons, List.length_nil] at hle
    have el := e_rshow a.cond hok.cond (by omega)
    have ed := e_rdec hok.points
    obtain ⟨name, points, cond⟩ := a
    obtain ⟨op2, num2, text2, args2⟩ := cond
    simp only [discV, exprC, List.cons_append, List.nil_append] at hnth
    simp only [exprV] at el ed
    dsimp only at hle ih
    generalize txtE (.mk op2 num2 text2 args2) = jj at *
    generalize decZ points = dd at *
    simp (disch := omega) [go_sem, q, q', hnth, el, ed, w, leA]
    simpa using ih
theorem rt_rest (z : Nat) (t : TariffP) (h : WholeOk t) (hB : TB t) (hX : (tariffB t).length ≤ 100000000000) :
    Run mach0 (.c billingref25_Tariff_l1b :: .lp billingref25_Tariff_l1 :: .endB 0 :: .c billingref25_Tariff_k4 :: []) .norm
      ⟨(.undef :: .rptr (tariffW z t).cells :: .undef :: .undef :: .str (headB t) :: .int .i64 0 :: .undef :: .undef :: .undef :: .undef :: .undef :: .undef :: .undef :: .undef :: .undef :: .undef :: .undef :: .undef :: .undef :: .undef :: .undef :: .undef :: .undef :: .undef :: .undef :: .undef :: .undef :: .undef :: .undef :: .undef :: .undef :: .undef :: .undef :: .undef :: .undef :: .undef :: .undef :: .undef :: .undef :: .undef :: .undef :: .undef :: .undef :: .undef :: .undef :: .undef :: .undef :: .undef :: .undef :: .undef :: .undef :: .undef :: .undef :: .undef :: .undef :: .undef :: .undef :: .undef :: .undef :: .undef :: .undef :: .undef :: .undef :: .undef :: .undef :: .undef :: .undef :: .undef :: .undef :: .undef :: .undef :: .undef :: .undef :: .undef :: .undef :: .undef :: .undef :: .undef :: .undef :: .undef :: .undef :: .undef :: .undef :: .undef :: .undef :: .undef :: .undef :: .undef :: .undef :: .undef :: .undef :: .undef :: .undef :: .undef :: .undef :: .undef :: .undef :: .undef :: .undef :: .undef :: .undef :: .undef :: .undef :: []), []⟩ (FinQ [.tmp 2, .tmp 3] 0 (.ret (PTV (tariffB t)) [])) := by
  have hX2 := hX
  simp only [tariffB, List.length_append] at hX2
  have e0 : tariffB t = ((headB t ++ t.zones.flatMap zoneB) ++ t.bands.flatMap bandB ++ t.rates.flatMap rateB) ++ t.discs.flatMap discB := by simp only [tariffB, List.append_assoc]
  have last : Run mach0 (.c billingref25_Tariff_k1b :: []) .norm ⟨(.undef :: .undef :: .undef :: .undef :: .str (tariffB t) :: .undef :: .undef :: .undef :: .undef :: .undef :: .undef :: .undef :: .undef :: .undef :: .undef :: .undef :: .undef :: .undef :: .undef :: .undef :: .undef :: .undef :: .undef :: .undef :: .undef :: .undef :: .undef :: .undef :: .undef :: .undef :: .undef :: .undef :: .undef :: .undef :: .undef :: .undef :: .undef :: .undef :: .undef :: .undef :: .undef :: .undef :: .undef :: .undef :: .undef :: .undef :: .undef :: .undef :: .undef :: .undef :: .undef :: .undef :: .undef :: .undef :: .undef :: .undef :: .undef :: .undef :: .undef :: .undef :: .undef :: .undef :: .undef :: .undef :: .undef :: .undef :: .undef :: .undef :: .undef :: .undef :: .undef :: .undef :: .undef :: .undef :: .undef :: .undef :: .undef :: .undef :: .undef :: .undef :: .undef :: .undef :: .undef :: .undef :: .undef :: .undef :: .undef :: .undef :: .undef :: .undef :: .undef :: .undef :: .undef :: .undef :: .undef :: .undef :: .undef :: .undef :: .undef :: .undef :: .undef :: .undef :: .undef :: []), []⟩ (FinQ [.tmp 2, .tmp 3] 0 (.ret (PTV (tariffB t)) [])) := by
    unfold PTV billingref25_Tariff_k1b
    generalize tariffB t = x at *
    by_cases hl : 65536 < x.length
    · have hl' : (65536 : Int) < x.length := by omega
      simp [go_sem, hl, hl']
    · have hl' : ¬ (65536 : Int) < x.length := by omega
      simp [go_sem, hl, hl']
  have d := rt_discs z t h hB (tariffB t) hX _ last t.discs [] ((headB t ++ t.zones.flatMap zoneB) ++ t.bands.flatMap bandB ++ t.rates.flatMap rateB) rfl e0.symm
  have r := rt_rates z t h hB ((headB t ++ t.zones.flatMap zoneB) ++ t.bands.flatMap bandB ++ t.rates.flatMap rateB) (by simp only [List.length_append]; omega) (.ret (PTV (tariffB t)) []) (by
    simp only [tariffW, V.cells] at d ⊢
    generalize ((headB t ++ t.zones.flatMap zoneB) ++ t.bands.flatMap bandB ++ t.rates.flatMap rateB) = y at *
    unfold billingref25_Tariff_k2b
    simp [go_sem]
    simpa using d) t.rates [] ((headB t ++ t.zones.flatMap zoneB) ++ t.bands.flatMap bandB) rfl rfl
  have b := rt_bands z t h hB ((headB t ++ t.zones.flatMap zoneB) ++ t.bands.flatMap bandB) (by simp only [List.length_append]; omega) (.ret (PTV (tariffB t)) []) (by
    simp only [tariffW, V.cells] at r ⊢
    generalize ((headB t ++ t.zones.flatMap zoneB) ++ t.bands.flatMap bandB) = y at *
    unfold billingref25_Tariff_k3b
    simp [go_sem]
    simpa using r) t.bands [] (headB t ++ t.zones.flatMap zoneB) rfl rfl
  have zz := rt_zones z t h hB (headB t ++ t.zones.flatMap zoneB) (by simp only [List.length_append]; omega) (.ret (PTV (tariffB t)) []) (by
    simp only [tariffW, V.cells] at b ⊢
    generalize (headB t ++ t.zones.flatMap zoneB) = y at *
    unfold billingref25_Tariff_k4b
    simp [go_sem]
    simpa using b) t.zones [] (headB t) rfl rfl
  exact zz
theorem e_rTariff (z : Nat) (t : TariffP) (hB : TB t) (hP : TP t) (hX : WholeOk t → (tariffB t).length ≤ 100000000000) : acall mach0 n_billingref25_Tariff [tariffW z t] [] = some (.ret (PTariffV t) []) := by
 have ew := e_Whole z t hB hP
 unfold PTariffV
 cases hw : wholeB t with
 | false =>
  rw [hw] at ew
  refine acall_fn rfl (af := a_billingref25_Tariff) rfl rfl ?_
  simp only [tariffW] at ew ⊢
  simp [List.replicate, go_sem, ew]
 | true =>
  rw [hw] at ew
  have h := wholeB_iff.1 hw
  have eh := e_rhead z t h
  have run := rt_rest z t h hB (hX h)
  refine acall_fn rfl (af := a_billingref25_Tariff) rfl rfl ?_
  rw [if_pos rfl]
  simp only [tariffW, V.cells] at ew eh run ⊢
  generalize tariffB t = X at *
  generalize headB t = hB0 at *
  simp [List.replicate, go_sem, ew, eh]
  simpa using run
end Go.Am
namespace Go.Am
open Go Go.Pu Go.RowKit
theorem smallT_tp {t : TariffP} (h : smallT t = true) : TP t := by
 intro z hz p hp
 simp only [smallT, Bool.and_eq_true, List.all_eq_true] at h
 have := h.2.1 z hz p hp
 simp only [short, decide_eq_true_eq] at this
 omega
theorem PTariffV_two (t : TariffP) : ∃ (s : Bs) (k : Int), PTariffV t = .tup [.str s, .int .i64 k] := by
 unfold PTariffV PTV
 repeat' split
 all_goals exact ⟨_, _, rfl⟩
theorem law_PrinterTariffs (t : TariffP) (hS : TS t) : acall mach n_billinglaw25_PrinterTariffs [tariffW 3 t] [] = some (.ret (.bool true) []) := by
 have es := up _ _ _ _ (e_Small 3 t hS)
 refine acall_fn rfl (af := a_billinglaw25_PrinterTariffs) rfl rfl ?_
 cases hs : smallT t with
 | false =>
  rw [hs] at es
  simp only [tariffW] at es ⊢
  simp [List.replicate, go_sem, es, m_awake25]
 | true =>
  rw [hs] at es
  have hl : WholeOk t → (tariffB t).length ≤ 100000000000 := fun hw => by have := small_len hs hw; omega
  have ep := m_PTariff 3 t (smallT_tb hs) hl
  have er := up _ _ _ _ (e_rTariff 3 t (smallT_tb hs) (smallT_tp hs) hl)
  obtain ⟨s, k, hk⟩ := PTariffV_two t
  rw [hk] at ep er
  simp only [tariffW] at es ep er ⊢
  simp [List.replicate, go_sem, es, ep, er, m_awake25]
theorem all_printerTariffs (us : List V) (h : TyArgs Go.Proofs.Try.prog [27] us) : acall mach n_billinglaw25_PrinterTariffs us [] = some (.ret (.bool true) []) := by
 obtain ⟨u, rfl, hu⟩ := h.one
 obtain ⟨t, rfl, hS⟩ := arg_tariff hu
 exact law_PrinterTariffs t hS
end Go.Am
