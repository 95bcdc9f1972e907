/- Plain laws of cycles, with no program in sight. -/
import Derived.Test.YtndiiiapmnfhjaaPd
namespace Go.Pu

/-- The edges of the cycles: E a j and E a (j + 1) are the ends of cycle j. -/
def edge (a : Int) : Nat → Int
  | 0 => 0
  | j + 1 => if j < 4800 then (mbeg j + a - 1) * 86400 else 12622780800

theorem edge_in {a : Int} {j : Nat} (h : j < 4800) : edge a (j + 1) = (mbeg j + a - 1) * 86400 := by simp only [edge, if_pos h]
theorem edge_end (a : Int) : edge a 4801 = 12622780800 := by simp [edge]

theorem mbeg_lt {j : Nat} (h : j < 4800) : mbeg j + 28 ≤ 146097 := by
  have := mbeg_mono (a := j) (b := 4800) (by omega)
  rw [mbeg_end] at this
  omega
theorem mbeg_lo (j : Nat) : 0 ≤ mbeg j := by
  have := mbeg_mono (Nat.zero_le j)
  simp only [mbeg] at this
  omega

theorem edge_lt {a : Int} (h1 : 1 ≤ a) (h2 : a ≤ 28) {j : Nat} (h : j < 4800) : edge a (j + 1) < edge a (j + 1 + 1) := by
  rw [edge_in h]
  by_cases h3 : j + 1 < 4800
  · rw [edge_in h3]
    have := mbeg_mono (a := j) (b := j + 1) (by omega)
    omega
  · have e : edge a (j + 1 + 1) = 12622780800 := by simp only [edge, if_neg h3]
    rw [e]
    have := mbeg_lt h
    omega
theorem edge_le1 {a : Int} (h1 : 1 ≤ a) : edge a 0 ≤ edge a 1 := by
  rw [edge_in (by omega)]
  simp only [edge, mbeg]
  omega
theorem edge_step {a : Int} (h1 : 1 ≤ a) (h2 : a ≤ 28) : ∀ {j : Nat}, j ≤ 4800 → edge a j ≤ edge a (j + 1)
  | 0, _ => edge_le1 h1
  | j + 1, h => by have := edge_lt h1 h2 (j := j) (by omega); omega
theorem edge_mono {a : Int} (h1 : 1 ≤ a) (h2 : a ≤ 28) {i j : Nat} (h : i ≤ j) (hj : j ≤ 4801) : edge a i ≤ edge a j := by
  induction h with
  | refl => omega
  | @step m _ ih =>
    have e := edge_step h1 h2 (j := m) (by simp only [Nat.succ_eq_add_one] at hj; omega)
    have := ih (by simp only [Nat.succ_eq_add_one] at hj; omega)
    exact Int.le_trans this e
theorem edge_lo {a : Int} (h1 : 1 ≤ a) (h2 : a ≤ 28) {j : Nat} (hj : j ≤ 4801) : 0 ≤ edge a j := by
  have := edge_mono h1 h2 (Nat.zero_le j) hj
  simpa [edge] using this
theorem edge_hi {a : Int} (h1 : 1 ≤ a) (h2 : a ≤ 28) {j : Nat} (hj : j ≤ 4801) : edge a j ≤ 12622780800 := by
  have := edge_mono h1 h2 hj (Nat.le_refl _)
  rw [edge_end] at this
  exact this

/-- Instant t is in cycle j. -/
structure InCyc (a t : Int) (j : Nat) : Prop where
  a1 : 1 ≤ a
  a2 : a ≤ 28
  j2 : j ≤ 4800
  lo : edge a j ≤ t
  hi : t < edge a (j + 1)

theorem InCyc.unique {a t : Int} {i j : Nat} (h : InCyc a t i) (h' : InCyc a t j) : i = j := by
  have := h.lo; have := h.hi; have := h'.lo; have := h'.hi; have := h.j2; have := h'.j2
  rcases Nat.lt_trichotomy i j with q | q | q
  · have := edge_mono h.a1 h.a2 (i := i + 1) (j := j) (by omega) (by omega); omega
  · exact q
  · have := edge_mono h.a1 h.a2 (i := j + 1) (j := i) (by omega) (by omega); omega

theorem InCyc.le {a t t' : Int} {i j : Nat} (h : InCyc a t i) (h' : InCyc a t' j) (hl : t ≤ t') : i ≤ j := by
  have := h.lo; have := h.hi; have := h'.lo; have := h'.hi; have := h.j2; have := h'.j2
  rcases Nat.lt_or_ge j i with q | q
  · have := edge_mono h.a1 h.a2 (i := j + 1) (j := i) (by omega) (by omega); omega
  · exact q
theorem InCyc.first {a t : Int} {j : Nat} (h : InCyc a t j) : InCyc a (edge a j) j := ⟨h.a1, h.a2, h.j2, by omega, by have := h.lo; have := h.hi; omega⟩
theorem InCyc.last {a t : Int} {j : Nat} (h : InCyc a t j) : InCyc a (edge a (j + 1) - 1) j := ⟨h.a1, h.a2, h.j2, by have := h.lo; have := h.hi; omega, by omega⟩
theorem InCyc.next {a t : Int} {j : Nat} (h : InCyc a t j) (hn : edge a (j + 1) < 12622780800) : InCyc a (edge a (j + 1)) (j + 1) := by
  have hj := h.j2
  have h4 : j < 4800 := by
    rcases Nat.lt_or_ge j 4800 with q | q
    · exact q
    · have e : j = 4800 := by omega
      subst e
      rw [edge_end] at hn
      omega
  exact ⟨h.a1, h.a2, by omega, by omega, edge_lt h.a1 h.a2 h4⟩
theorem InCyc.prev {a t : Int} {j : Nat} (h : InCyc a t j) (hn : 0 < edge a j) : ∃ i, j = i + 1 ∧ InCyc a (edge a j - 1) i := by
  match j, h, hn with
  | 0, h, hn => simp [edge] at hn
  | 1, h, hn => exact ⟨0, rfl, h.a1, h.a2, by omega, by simp only [edge] at hn ⊢; omega, by show edge a 1 - 1 < edge a 1; omega⟩
  | j + 2, h, hn =>
    have := h.j2
    have := edge_lt h.a1 h.a2 (j := j) (by omega)
    exact ⟨j + 1, rfl, h.a1, h.a2, by omega, by show edge a (j + 1) ≤ edge a (j + 1 + 1) - 1; omega, by show edge a (j + 1 + 1) - 1 < edge a (j + 1 + 1); omega⟩

/-- The cycle of an instant, from its date. -/
theorem inCyc_date {a t y m d : Int} (h1 : 1 ≤ a) (h2 : a ≤ 28) (h0 : 0 ≤ t) (hd : IsDate (t / 86400) y m d) :
    InCyc a t (if d < a then (12 * (y - 2000) + m - 1).toNat else (12 * (y - 2000) + m - 1).toNat + 1) := by
  have q1 := hd.y1; have q2 := hd.y2; have q3 := hd.m1; have q4 := hd.m2; have q5 := hd.d1; have q6 := hd.d2; have q7 := hd.eq
  obtain ⟨Y, hY⟩ : ∃ Y : Nat, y = 2000 + (Y : Int) := ⟨(y - 2000).toNat, by omega⟩
  obtain ⟨M, hM⟩ : ∃ M : Nat, m = (M : Int) + 1 := ⟨(m - 1).toNat, by omega⟩
  subst hY; subst hM
  have ek : (12 * (2000 + (Y : Int) - 2000) + ((M : Int) + 1) - 1).toNat = 12 * Y + M := by omega
  rw [ek]
  have e1 : ((M : Int) + 1 - 1).toNat = M := by omega
  rw [e1] at q7
  have e2 := mbeg_eq (12 * Y + M)
  have e3 : (12 * Y + M) / 12 = Y := by omega
  have e4 : (12 * Y + M) % 12 = M := by omega
  rw [e3, e4] at e2
  have e5 : mbeg (12 * Y + M + 1) = mbeg (12 * Y + M) + dlen (2000 + (Y : Int)) ((M : Int) + 1) := by
    rw [mbeg, e3, e4]
  have hk : 12 * Y + M < 4800 := by omega
  generalize 12 * Y + M = k at *
  generalize dlen (2000 + (Y : Int)) ((M : Int) + 1) = L at *
  have hday : t / 86400 = mbeg k + d - 1 := by omega
  split
  · rename_i hda
    refine ⟨h1, h2, by omega, ?_, ?_⟩
    · match k, hk, hday with
      | 0, hk, hday => simpa [edge] using h0
      | k + 1, hk, hday =>
        rw [edge_in (by omega)]
        have := mbeg_mono (a := k) (b := k + 1) (by omega)
        omega
    · rw [edge_in hk]; omega
  · rename_i hda
    refine ⟨h1, h2, by omega, ?_, ?_⟩
    · rw [edge_in hk]; omega
    · by_cases h3 : k + 1 < 4800
      · rw [edge_in h3]; omega
      · have e : edge a (k + 1 + 1) = 12622780800 := by simp only [edge, if_neg h3]
        rw [e]
        have := mbeg_lt hk
        have := hd.hi
        omega

theorem exists_cyc {a t : Int} (h1 : 1 ≤ a) (h2 : a ≤ 28) (h0 : 0 ≤ t) (h3 : t < 12622780800) : ∃ j, InCyc a t j := by
  obtain ⟨y, m, d, hd⟩ := exists_date (day := t / 86400) (by omega) (by omega)
  exact ⟨_, inCyc_date h1 h2 h0 hd⟩

/-- n cycles from cycle j on. -/
def cycs (a : Int) : Nat → Nat → List (Int × Int)
  | _, 0 => []
  | j, n + 1 => (edge a j, edge a (j + 1)) :: cycs a (j + 1) n

theorem cycs_length (a : Int) : ∀ (n j : Nat), (cycs a j n).length = n
  | 0, _ => rfl
  | n + 1, j => by simp [cycs, cycs_length a n]
theorem cycs_get (a : Int) : ∀ (n j i : Nat) (h : i < (cycs a j n).length), (cycs a j n)[i] = (edge a (j + i), edge a (j + i + 1))
  | 0, j, i, h => by simp [cycs] at h
  | n + 1, j, 0, h => rfl
  | n + 1, j, i + 1, h => by
    simp only [cycs, List.getElem_cons_succ]
    rw [cycs_get a n]
    have : j + 1 + i = j + (i + 1) := by omega
    rw [this]
theorem cycs_snoc (a : Int) : ∀ (n j : Nat), cycs a j (n + 1) = cycs a j n ++ [(edge a (j + n), edge a (j + n + 1))]
  | 0, j => rfl
  | n + 1, j => by
    rw [cycs, cycs_snoc a n (j + 1)]
    have : j + 1 + n = j + (n + 1) := by omega
    rw [this]
    rfl

/-- The reference's list after so many months. -/
def refL (a p q : Int) : Nat → List (Int × Int)
  | 0 => []
  | j + 1 => if edge a j < edge a (j + 1) ∧ edge a j < q ∧ p < edge a (j + 1) then refL a p q j ++ [(edge a j, edge a (j + 1))] else refL a p q j

theorem refL_eq {a p q : Int} {i j : Nat} (hp : InCyc a p i) (hq : InCyc a (q - 1) j) (hpq : p < q) : ∀ k, k ≤ 4801 → refL a p q k = cycs a i (min k (j + 1) - i)
  | 0, _ => by simp [refL, cycs]
  | k + 1, hk => by
    have hij := hp.le hq (by omega)
    have q1 := hp.lo; have q2 := hp.hi; have q3 := hq.lo; have q4 := hq.hi; have q5 := hp.j2; have q6 := hq.j2
    rw [refL, refL_eq hp hq hpq k (by omega)]
    by_cases h1 : k < i
    · have := edge_mono hp.a1 hp.a2 (i := k + 1) (j := i) (by omega) (by omega)
      rw [if_neg (by omega)]
      have e1 : min k (j + 1) - i = 0 := by omega
      have e2 : min (k + 1) (j + 1) - i = 0 := by omega
      rw [e1, e2]
    by_cases h2 : k ≤ j
    · have b1 := edge_mono hp.a1 hp.a2 (i := i + 1) (j := k + 1) (by omega) (by omega)
      have b2 := edge_mono hp.a1 hp.a2 (i := k) (j := j) (by omega) (by omega)
      have b3 : edge a k < edge a (k + 1) := by
        match k with
        | 0 =>
          have : i = 0 := by omega
          subst this
          omega
        | k + 1 => exact edge_lt hp.a1 hp.a2 (by omega)
      rw [if_pos (by omega)]
      have e1 : min k (j + 1) - i = k - i := by omega
      have e2 : min (k + 1) (j + 1) - i = k - i + 1 := by omega
      rw [e1, e2, cycs_snoc]
      have e3 : i + (k - i) = k := by omega
      rw [e3]
    · have := edge_mono hp.a1 hp.a2 (i := j + 1) (j := k) (by omega) (by omega)
      rw [if_neg (by omega)]
      have e1 : min k (j + 1) = min (k + 1) (j + 1) := by omega
      rw [e1]

theorem refL_all {a p q : Int} {i j : Nat} (hp : InCyc a p i) (hq : InCyc a (q - 1) j) (hpq : p < q) : refL a p q 4801 = cycs a i (j + 1 - i) := by
  rw [refL_eq hp hq hpq 4801 (by omega)]
  have := hq.j2
  have : min 4801 (j + 1) = j + 1 := by omega
  rw [this]
end Go.Pu
