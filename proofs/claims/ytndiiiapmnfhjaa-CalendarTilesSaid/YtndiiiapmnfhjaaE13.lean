/- The cycles of periods. -/
import Derived.Test.YtndiiiapmnfhjaaE12
set_option linter.unusedSimpArgs false
namespace Go.Am
open Go Go.Pu

def pv (p : Int × Int) : V := .agg [.int .i64 p.1, .int .i64 p.2]
def pvs (l : List (Int × Int)) : List V := l.map pv
theorem pvs_length (l : List (Int × Int)) : (pvs l).length = l.length := by simp [pvs]
theorem pvs_snoc (l : List (Int × Int)) (x y : Int) : pvs (l ++ [(x, y)]) = pvs l ++ [.agg [.int .i64 x, .int .i64 y]] := by simp [pvs, pv]

theorem l_cycs {a p q : Int} {i j : Nat} (hp : InCyc a p i) (hq : InCyc a (q - 1) j) (h h' : Heap) (n0 : Nat) (k : List It) (r : V) (h0 : 0 ≤ p) (hpq : p < q) (h3 : q ≤ 12622780800)
    (hk : Run mach k (.exit 0) ⟨(.int .i64 a :: .undef :: .undef :: .rptr [.int .i64 p, .int .i64 q] :: .undef :: .sl true 2 (pvs (cycs a i (j + 1 - i))) :: .int .i64 j :: .undef :: .undef :: .undef :: .undef :: .undef :: .undef :: .undef :: .undef :: .undef :: .undef :: .undef :: .undef :: .undef :: .undef :: .undef :: .undef :: .undef :: .undef :: .undef :: .undef :: .undef :: .undef :: .undef :: .undef :: .undef :: .undef :: .undef :: .int .i64 j :: .int .i64 a :: .rptr [.int .i64 q] :: .int .i64 q :: .int .i64 (q - 1) :: .int .i64 ((j : Int) - 1) :: .bool false :: .undef :: .undef :: .undef :: .undef :: .undef :: .undef :: .undef :: .undef :: .undef :: []), h⟩ (FinQ [.tmp 4] n0 (.ret r h'))) :
    ∀ (n c : Nat), c + n = j + 1 → i ≤ c →
    Run mach (.c calendar_Cycles_l1b :: .lp calendar_Cycles_l1 :: k) .norm ⟨(.int .i64 a :: .undef :: .undef :: .rptr [.int .i64 p, .int .i64 q] :: .undef :: .sl true 2 (pvs (cycs a i (c - i))) :: .int .i64 ((c : Int) - 1) :: .undef :: .undef :: .undef :: .undef :: .undef :: .undef :: .undef :: .undef :: .undef :: .undef :: .undef :: .undef :: .undef :: .undef :: .undef :: .undef :: .undef :: .undef :: .undef :: .undef :: .undef :: .undef :: .undef :: .undef :: .undef :: .undef :: .undef :: .undef :: .undef :: .undef :: .undef :: .undef :: .undef :: .undef :: .undef :: .undef :: .undef :: .undef :: .undef :: .undef :: .undef :: .undef :: .undef :: []), h⟩ (FinQ [.tmp 4] n0 (.ret r h'))
  | 0, c, hc, hi => by
    obtain rfl : c = j + 1 := by omega
    have e := e_month hq [] (by omega) (by omega)
    have w : IntKind.wrap .i64 (q - 1) = q - 1 := wrap_i64 (by omega)
    have w' : ((j + 1 : Nat) : Int) - 1 = j := by omega
    have q1 : ¬ ((j : Int) ≤ (j : Int) - 1) := by omega
    simp only [w']
    unfold calendar_Cycles_l1b
    simp [go_sem, e, w, q1]
    exact hk
  | n + 1, c, hc, hi => by
    have e := e_month hq [] (by omega) (by omega)
    have w : IntKind.wrap .i64 (q - 1) = q - 1 := wrap_i64 (by omega)
    have hj := hq.j2
    have e2 := e_cycle a c [] hp.a1 hp.a2 (by omega)
    have w2 : IntKind.wrap .i64 ((c : Int) - 1 + 1) = (c : Int) := by rw [wrap_i64 (by omega)]; omega
    have ih := l_cycs hp hq h h' n0 k r h0 hpq h3 hk n (c + 1) (by omega) (by omega)
    have s1 : c + 1 - i = c - i + 1 := by omega
    have s2 : i + (c - i) = c := by omega
    rw [s1, cycs_snoc, s2, pvs_snoc] at ih
    have s3 : ((c + 1 : Nat) : Int) - 1 = c := by omega
    rw [s3] at ih
    have q1 : (c : Int) - 1 ≤ (j : Int) - 1 := by omega
    have q2 : (c : Int) ≤ j := by omega
    have hl : (pvs (cycs a i (c - i))).length ≤ 4801 := by rw [pvs_length, cycs_length]; omega
    generalize pvs (cycs a i (c - i)) = L at *
    have hm : ¬ 140737488355327 < L.length + 1 := by omega
    unfold calendar_Cycles_l1b
    have w0 : IntKind.wrap .i64 (c : Int) = (c : Int) := wrap_i64 (by omega)
    simp [go_sem, e, e2, w, w2, w0, q1, q2]
    exact ⟨by omega, ih⟩

theorem e_valid (p q : Int) (h : Heap) : acall mach n_billingref03_valid [.agg [.int .i64 p, .int .i64 q]] h = some (.ret (.bool (decide (0 ≤ p ∧ p < q ∧ q ≤ 12622780800))) h) := by
  refine acall_fn rfl (af := a_billingref03_valid) rfl rfl ?_
  by_cases c1 : 0 ≤ p
  · by_cases c2 : p < q
    · simp [List.replicate, go_sem, c1, c2]
    · simp [List.replicate, go_sem, c1, c2]
  · simp [List.replicate, go_sem, c1]

theorem l_rcycs {a p q : Int} (h1 : 1 ≤ a) (h2 : a ≤ 28) (h h' : Heap) (n0 : Nat) (k : List It) (r : V)
    (hk : ∀ x : Int, Run mach k (.exit 0) ⟨(.int .i64 a :: .undef :: .undef :: .rptr [.int .i64 p, .int .i64 q] :: .undef :: .sl true 2 (pvs (refL a p q 4801)) :: .int .i64 12622780800 :: .int .i64 x :: .int .i64 4801 :: .undef :: .undef :: .undef :: .undef :: .undef :: .undef :: .undef :: .undef :: .undef :: .undef :: .undef :: .undef :: .int .i64 4801 :: .bool false :: .undef :: .undef :: .undef :: .undef :: .undef :: .undef :: .undef :: .undef :: .undef :: .undef :: .undef :: .undef :: .undef :: .undef :: .undef :: .undef :: .undef :: .undef :: .undef :: .undef :: .undef :: .undef :: .undef :: .undef :: .undef :: .undef :: .undef :: .undef :: .undef :: .undef :: .undef :: .undef :: .undef :: .undef :: .undef :: .undef :: .undef :: .undef :: .undef :: .undef :: .undef :: []), h⟩ (FinQ [.tmp 4] n0 (.ret r h'))) :
    ∀ (n c : Nat), c + n = 4801 →
    Run mach (.c billingref03_Cycles_l1b :: .lp billingref03_Cycles_l1 :: k) .norm ⟨(.int .i64 a :: .undef :: .undef :: .rptr [.int .i64 p, .int .i64 q] :: .undef :: .sl true 2 (pvs (refL a p q c)) :: .int .i64 (edge a c) :: .int .i64 (mbeg (min c 4800)) :: .int .i64 c :: .undef :: .undef :: .undef :: .undef :: .undef :: .undef :: .undef :: .undef :: .undef :: .undef :: .undef :: .undef :: .undef :: .undef :: .undef :: .undef :: .undef :: .undef :: .undef :: .undef :: .undef :: .undef :: .undef :: .undef :: .undef :: .undef :: .undef :: .undef :: .undef :: .undef :: .undef :: .undef :: .undef :: .undef :: .undef :: .undef :: .undef :: .undef :: .undef :: .undef :: .undef :: .undef :: .undef :: .undef :: .undef :: .undef :: .undef :: .undef :: .undef :: .undef :: .undef :: .undef :: .undef :: .undef :: .undef :: []), h⟩ (FinQ [.tmp 4] n0 (.ret r h'))
  | 0, c, hc => by
    obtain rfl : c = 4801 := by omega
    have q1 : edge a 4801 = 12622780800 := edge_end a
    rw [q1]
    unfold billingref03_Cycles_l1b
    simp [go_sem]
    exact hk _
  | n + 1, c, hc => by
    have ih := l_rcycs h1 h2 h h' n0 k r hk n (c + 1) (by omega)
    have q1 : ((c : Nat) : Int) ≤ 4800 := by omega
    have q1' : c ≤ 4800 := by omega
    have w5 : IntKind.wrap .i64 ((c : Int) + 1) = ((c + 1 : Nat) : Int) := by rw [wrap_i64 (by omega)]; omega
    have hl : ∀ c, (refL a p q c).length ≤ c := fun c => by
      induction c with
      | zero => simp [refL]
      | succ c ih =>
        rw [refL]
        split
        · simp; omega
        · omega
    have hl := hl c
    rw [← pvs_length] at hl
    by_cases hc' : c < 4800
    · have d : (c : Int).tdiv 12 = ((c / 12 : Nat) : Int) := rfl
      have rr : (c : Int).tmod 12 = ((c % 12 : Nat) : Int) := rfl
      have w1 : IntKind.wrap .i64 ((c / 12 : Nat) : Int) = ((c / 12 : Nat) : Int) := wrap_i64 (by omega)
      have w2 : IntKind.wrap .i64 (2000 + ((c / 12 : Nat) : Int)) = 2000 + ((c / 12 : Nat) : Int) := wrap_i64 (by omega)
      have w3 : IntKind.wrap .i64 (((c % 12 : Nat) : Int) + 1) = ((c % 12 : Nat) : Int) + 1 := wrap_i64 (by omega)
      have b1 := mbeg_lt hc'
      have b2 := mbeg_lo c
      have w4 : IntKind.wrap .i64 ((mbeg c + a - 1) * 86400) = edge a (c + 1) := by rw [edge_in hc']; exact wrap_i64 (by omega)
      have w6 : IntKind.wrap .i64 (mbeg c + a) = mbeg c + a := wrap_i64 (by omega)
      have w7 : IntKind.wrap .i64 (mbeg c + a - 1) = mbeg c + a - 1 := wrap_i64 (by omega)
      have el := e_rLength (2000 + (c / 12 : Nat)) ((c % 12 : Nat) + 1) []
      rw [lenP_in (by omega) (by omega) (by omega) (by omega)] at el
      have m1 : min c 4800 = c := by omega
      have m2 : min (c + 1) 4800 = c + 1 := Nat.min_eq_left (by omega)
      have m3 : mbeg (c + 1) = mbeg c + dlen (2000 + (c / 12 : Nat)) ((c % 12 : Nat) + 1) := rfl
      have w8 : IntKind.wrap .i64 (mbeg c + dlen (2000 + (c / 12 : Nat)) ((c % 12 : Nat) + 1)) = mbeg (c + 1) := by
        have := dlen_lo (2000 + (c / 12 : Nat)) ((c % 12 : Nat) + 1)
        have := dlen_hi (2000 + (c / 12 : Nat)) ((c % 12 : Nat) + 1)
        rw [← m3]; exact wrap_i64 (by omega)
      rw [m1]
      rw [m2, refL] at ih
      clear m3
      generalize mbeg (c + 1) = M at *
      generalize mbeg c = N at *
      generalize edge a (c + 1) = E1 at *
      generalize edge a c = E0 at *
      generalize c / 12 = x at *
      generalize c % 12 = y at *
      generalize (c + 1 : Nat) = c1 at *
      have hm : ¬ 140737488355327 < (pvs (refL a p q c)).length + 1 := by omega
      have lt1 : (c : Int) < 4800 := by omega
      unfold billingref03_Cycles_l1b
      by_cases g1 : E0 < E1
      · by_cases g2 : E0 < q
        · by_cases g3 : p < E1
          · rw [if_pos ⟨g1, g2, g3⟩, pvs_snoc] at ih
            simp [go_sem, q1, q1', hc', lt1, d, rr, w1, w2, w3, w6, w7, w4, el, w8, w5, g1, g2, g3]
            exact ⟨by omega, ih⟩
          · rw [if_neg (by omega)] at ih
            simp [go_sem, q1, q1', hc', lt1, d, rr, w1, w2, w3, w6, w7, w4, el, w8, w5, g1, g2, g3]
            exact ih
        · rw [if_neg (by omega)] at ih
          simp [go_sem, q1, q1', hc', lt1, d, rr, w1, w2, w3, w6, w7, w4, el, w8, w5, g1, g2]
          exact ih
      · rw [if_neg (by omega)] at ih
        simp [go_sem, q1, q1', hc', lt1, d, rr, w1, w2, w3, w6, w7, w4, el, w8, w5, g1]
        exact ih
    · obtain rfl : c = 4800 := by omega
      have ee : edge a 4801 = 12622780800 := edge_end a
      rw [ee, refL, ee] at ih
      unfold billingref03_Cycles_l1b
      by_cases g1 : edge a 4800 < 12622780800
      · by_cases g2 : edge a 4800 < q
        · by_cases g3 : p < 12622780800
          · rw [if_pos ⟨g1, g2, g3⟩, pvs_snoc] at ih
            simp [go_sem, wrap_i64, g1, g2, g3]
            exact ⟨by omega, ih⟩
          · rw [if_neg (by omega)] at ih
            simp [go_sem, wrap_i64, g1, g2, g3]
            exact ih
        · rw [if_neg (by omega)] at ih
          simp [go_sem, wrap_i64, g1, g2]
          exact ih
      · rw [if_neg (by omega)] at ih
        simp [go_sem, wrap_i64, g1]
        exact ih
end Go.Am
