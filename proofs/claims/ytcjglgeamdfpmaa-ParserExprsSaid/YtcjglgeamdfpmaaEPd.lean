/- Plain laws of dates, with no program in sight. -/
namespace Go.Pu

def leap (y : Int) : Bool := decide (y % 4 = 0) && (decide (y % 100 ≠ 0) || decide (y % 400 = 0))
def ylen (y : Int) : Int := if leap y then 366 else 365
def dlen (y m : Int) : Int := if m = 2 then (if leap y then 29 else 28) else if m = 4 ∨ m = 6 ∨ m = 9 ∨ m = 11 then 30 else 31
/-- The days before a year from 2000 on. -/
def bef (y : Int) : Int := 365 * (y - 2000) + if 2000 < y then (y - 2001) / 4 - (y - 2001) / 100 + (y - 2001) / 400 + 1 else 0

theorem bef_zero : bef 2000 = 0 := by simp [bef]
theorem bef_succ {y : Int} (h : 2000 ≤ y) : bef (y + 1) = bef y + ylen y := by
  unfold bef ylen leap
  by_cases h1 : y % 4 = 0 <;> by_cases h2 : y % 100 = 0 <;> by_cases h3 : y % 400 = 0 <;> simp [h1, h2, h3] <;> split <;> split <;> omega
theorem bef_end : bef 2400 = 146097 := by simp [bef]

theorem dlen_lo (y m : Int) : 28 ≤ dlen y m := by unfold dlen; repeat' split
                                                  all_goals omega
theorem dlen_hi (y m : Int) : dlen y m ≤ 31 := by unfold dlen; repeat' split
                                                  all_goals omega
theorem ylen_lo (y : Int) : 365 ≤ ylen y := by unfold ylen; split <;> omega
theorem ylen_hi (y : Int) : ylen y ≤ 366 := by unfold ylen; split <;> omega

/-- The days of the first so many months. -/
def mcum (y : Int) : Nat → Int
  | 0 => 0
  | m + 1 => mcum y m + dlen y (m + 1)

theorem mcum_12 (y : Int) : mcum y 12 = ylen y := by
  simp only [mcum, dlen, ylen]
  by_cases h : leap y = true <;> simp [h]

theorem mcum_mono (y : Int) {a b : Nat} (h : a ≤ b) : mcum y a + 28 * (b - a) ≤ mcum y b := by
  induction h with
  | refl => omega
  | step _ ih => simp only [mcum]; have := dlen_lo y (Nat.cast (R := Int) ‹Nat› + 1); omega

theorem bef_mono {a : Int} (h : 2000 ≤ a) : ∀ n : Nat, bef a + 365 * n ≤ bef (a + n)
  | 0 => by simp
  | n + 1 => by
    have := bef_mono h n
    have h2 := bef_succ (y := a + n) (by omega)
    have := ylen_lo (a + n)
    have e : a + ((n + 1 : Nat) : Int) = a + n + 1 := by omega
    rw [e]
    omega
theorem bef_le {a b : Int} (h : 2000 ≤ a) (hab : a ≤ b) : bef a ≤ bef b := by
  obtain ⟨n, rfl⟩ := Int.le.dest hab
  have := bef_mono h n
  omega
theorem bef_lt {a b : Int} (h : 2000 ≤ a) (hab : a < b) : bef a + ylen a ≤ bef b := by
  rw [← bef_succ h]
  exact bef_le (by omega) (by omega)

structure IsDate (day y m d : Int) : Prop where
  y1 : 2000 ≤ y
  y2 : y ≤ 2399
  m1 : 1 ≤ m
  m2 : m ≤ 12
  d1 : 1 ≤ d
  d2 : d ≤ dlen y m
  eq : day = bef y + mcum y (m - 1).toNat + d - 1

theorem mcum_nonneg (y : Int) (m : Nat) : 0 ≤ mcum y m := by have := mcum_mono y (Nat.zero_le m); simp only [mcum] at this; omega
theorem mcum_succ {y m : Int} (h : 1 ≤ m) : mcum y m.toNat = mcum y (m - 1).toNat + dlen y m := by
  have e : m.toNat = (m - 1).toNat + 1 := by omega
  rw [e, mcum]
  congr 2
  omega
theorem mcum_le12 {y : Int} {m : Nat} (h : m ≤ 12) : mcum y m ≤ ylen y := by
  rw [← mcum_12]
  have := mcum_mono y h
  omega

theorem IsDate.year {day y m d : Int} (h : IsDate day y m d) : bef y ≤ day ∧ day < bef (y + 1) := by
  have h1 := mcum_nonneg y (m - 1).toNat
  have h2 := mcum_succ (y := y) h.m1
  have h3 := mcum_le12 (y := y) (m := m.toNat) (by have := h.m2; omega)
  have h4 := bef_succ h.y1
  have := h.eq; have := h.d1; have := h.d2
  omega
theorem IsDate.month {day y m d : Int} (h : IsDate day y m d) : mcum y (m - 1).toNat ≤ day - bef y ∧ day - bef y < mcum y m.toNat := by
  have h2 := mcum_succ (y := y) h.m1
  have := h.eq; have := h.d1; have := h.d2
  omega
theorem IsDate.lo {day y m d : Int} (h : IsDate day y m d) : 0 ≤ day := by
  have := h.year.1
  have := bef_le (a := 2000) (b := y) (by omega) h.y1
  rw [bef_zero] at this
  omega
theorem IsDate.hi {day y m d : Int} (h : IsDate day y m d) : day < 146097 := by
  have h1 := h.year.2
  have := bef_le (a := y + 1) (b := 2400) (by have := h.y1; omega) (by have := h.y2; omega)
  rw [bef_end] at this
  omega

theorem year_unique {day y y' : Int} (h : 2000 ≤ y) (h' : 2000 ≤ y') (h1 : bef y ≤ day) (h2 : day < bef (y + 1)) (h3 : bef y' ≤ day) (h4 : day < bef (y' + 1)) : y = y' := by
  rcases Int.lt_trichotomy y y' with h5 | h5 | h5
  · have := bef_le (a := y + 1) (b := y') (by omega) (by omega); omega
  · exact h5
  · have := bef_le (a := y' + 1) (b := y) (by omega) (by omega); omega

theorem IsDate.unique {day y m d y' m' d' : Int} (h : IsDate day y m d) (h' : IsDate day y' m' d') : y = y' ∧ m = m' ∧ d = d' := by
  obtain rfl := year_unique h.y1 h'.y1 h.year.1 h.year.2 h'.year.1 h'.year.2
  have a := h.month
  have b := h'.month
  have := h.m1; have := h'.m1
  have hm : m = m' := by
    rcases Int.lt_trichotomy m m' with h5 | h5 | h5
    · have := mcum_mono y (a := m.toNat) (b := (m' - 1).toNat) (by omega); omega
    · exact h5
    · have := mcum_mono y (a := m'.toNat) (b := (m - 1).toNat) (by omega); omega
  subst hm
  have := h.eq; have := h'.eq
  exact ⟨rfl, rfl, by omega⟩

theorem exists_year {day : Int} (h0 : 0 ≤ day) : ∀ n : Nat, day < bef (2000 + n) → ∃ y : Int, 2000 ≤ y ∧ y < 2000 + n ∧ bef y ≤ day ∧ day < bef (y + 1)
  | 0, h => by rw [show (2000 : Int) + (0 : Nat) = 2000 by omega, bef_zero] at h; omega
  | n + 1, h => by
    by_cases hn : day < bef (2000 + n)
    · obtain ⟨y, h1, h2, h3⟩ := exists_year h0 n hn
      exact ⟨y, h1, by omega, h3⟩
    · exact ⟨2000 + n, by omega, by omega, by omega, by rw [show (2000 : Int) + n + 1 = 2000 + (n + 1 : Nat) by omega]; exact h⟩
theorem exists_month {y r : Int} (h0 : 0 ≤ r) : ∀ n : Nat, r < mcum y n → ∃ m : Nat, m < n ∧ mcum y m ≤ r ∧ r < mcum y (m + 1)
  | 0, h => by simp only [mcum] at h; omega
  | n + 1, h => by
    by_cases hn : r < mcum y n
    · obtain ⟨m, h1, h2⟩ := exists_month h0 n hn
      exact ⟨m, by omega, h2⟩
    · exact ⟨n, by omega, by omega, h⟩

theorem exists_date {day : Int} (h0 : 0 ≤ day) (h1 : day < 146097) : ∃ y m d, IsDate day y m d := by
  obtain ⟨y, a1, a2, a3, a4⟩ := exists_year h0 400 (by rw [show (2000 : Int) + (400 : Nat) = 2400 by omega, bef_end]; exact h1)
  have hy := bef_succ a1
  obtain ⟨m, b1, b2, b3⟩ := exists_month (y := y) (r := day - bef y) (by omega) 12 (by rw [mcum_12]; omega)
  refine ⟨y, m + 1, day - bef y - mcum y m + 1, a1, by omega, by omega, by omega, by omega, ?_, ?_⟩
  · simp only [mcum] at b3; omega
  · have : ((m : Int) + 1 - 1).toNat = m := by omega
    rw [this]; omega

/-- The day that begins a month (counted from 2000 on). -/
def mbeg : Nat → Int
  | 0 => 0
  | t + 1 => mbeg t + dlen (2000 + (t / 12 : Nat)) ((t % 12 : Nat) + 1)

theorem mbeg_eq : ∀ t : Nat, mbeg t = bef (2000 + (t / 12 : Nat)) + mcum (2000 + (t / 12 : Nat)) (t % 12)
  | 0 => by simp [mbeg, mcum, bef_zero]
  | t + 1 => by
    rw [mbeg, mbeg_eq t]
    by_cases h : t % 12 = 11
    · have h1 : (t + 1) / 12 = t / 12 + 1 := by omega
      have h2 : (t + 1) % 12 = 0 := by omega
      have h3 := bef_succ (y := 2000 + (t / 12 : Nat)) (by omega)
      have h4 := mcum_12 (2000 + (t / 12 : Nat))
      simp only [mcum] at h4
      rw [h1, h2, h]
      have e : (2000 : Int) + ((t / 12 + 1 : Nat) : Int) = 2000 + (t / 12 : Nat) + 1 := by omega
      rw [e, h3]
      simp only [mcum]
      omega
    · have h1 : (t + 1) / 12 = t / 12 := by omega
      have h2 : (t + 1) % 12 = t % 12 + 1 := by omega
      rw [h1, h2, mcum]
      omega
theorem mbeg_end : mbeg 4800 = 146097 := by
  rw [mbeg_eq]
  simp [mcum]
  exact bef_end
theorem mbeg_mono {a b : Nat} (h : a ≤ b) : mbeg a + 28 * (b - a) ≤ mbeg b := by
  induction h with
  | refl => omega
  | @step m _ ih => simp only [mbeg]; have := dlen_lo (2000 + (m / 12 : Nat)) ((m % 12 : Nat) + 1); omega

end Go.Pu
namespace Go.Pu
theorem bef_hi : ∀ n : Nat, bef (2000 + n) ≤ 366 * n
  | 0 => by simp [bef]
  | n + 1 => by
    have h := bef_hi n
    have h2 := bef_succ (y := 2000 + (n : Int)) (by omega)
    have h3 := ylen_hi (2000 + (n : Int))
    have e : (2000 : Int) + ((n + 1 : Nat) : Int) = 2000 + (n : Int) + 1 := by omega
    rw [e]
    omega
theorem bef_lo0 {y : Int} (h : 2000 ≤ y) : 0 ≤ bef y := by
  have := bef_le (a := 2000) (b := y) (by omega) h
  rw [bef_zero] at this
  exact this
theorem bef_hi' {y : Int} (h : 2000 ≤ y) (h' : y ≤ 2400) : bef y ≤ 146097 := by
  have := bef_le (a := y) (b := 2400) h h'
  rw [bef_end] at this
  exact this
theorem IsDate.first {day y m d : Int} (h : IsDate day y m d) : 2000 + day / 366 ≤ y := by
  have h1 := h.year.2
  obtain ⟨n, hn⟩ : ∃ n : Nat, y + 1 = 2000 + n := ⟨(y + 1 - 2000).toNat, by have := h.y1; omega⟩
  have h2 := bef_hi n
  rw [← hn] at h2
  omega
theorem mcum_hi {y : Int} {m : Nat} (h : m ≤ 12) : mcum y m ≤ 366 := by
  have := mcum_le12 (y := y) h
  have := ylen_hi y
  omega
end Go.Pu
namespace Go.Pu
/-- The last digits of a number that is not negative. -/
def digs : Nat → Nat → List UInt8
  | _, 0 => []
  | n, k + 1 => digs (n / 10) k ++ [UInt8.ofNat (48 + n % 10)]

theorem digs_length : ∀ (k n : Nat), (digs n k).length = k
  | 0, _ => rfl
  | k + 1, n => by simp [digs, digs_length k]

/-- The value of digits; nothing where a byte is none. -/
def numD : Nat → List UInt8 → Option Nat
  | v, [] => some v
  | v, x :: xs => if x.toNat < 48 ∨ 57 < x.toNat then none else numD (10 * v + (x.toNat - 48)) xs

theorem numD_append : ∀ (a b : List UInt8) (v : Nat), numD v (a ++ b) = match numD v a with | some w => numD w b | none => none
  | [], b, v => rfl
  | x :: a, b, v => by
    simp only [List.cons_append, numD]
    split
    · rfl
    · exact numD_append a b _

theorem numD_digs : ∀ (k n v : Nat), numD v (digs n k) = some (v * 10 ^ k + n % 10 ^ k)
  | 0, n, v => by simp [digs, numD, Nat.mod_one]
  | k + 1, n, v => by
    have e : (UInt8.ofNat (48 + n % 10)).toNat = 48 + n % 10 := by simp; omega
    simp only [digs, numD_append, numD_digs k, numD, e]
    rw [if_neg (by omega)]
    congr 1
    have h1 : n % 10 ^ (k + 1) = n % 10 + 10 * (n / 10 % 10 ^ k) := by rw [Nat.pow_succ, Nat.mul_comm (10 ^ k), Nat.mod_mul]
    rw [h1, Nat.pow_succ]
    have h2 : 10 * (v * 10 ^ k + n / 10 % 10 ^ k) = v * (10 ^ k * 10) + 10 * (n / 10 % 10 ^ k) := by rw [Nat.mul_add, ← Nat.mul_assoc v, Nat.mul_comm 10 (v * 10 ^ k)]
    omega

/-- Digits are recovered from their value. -/
theorem digs_numD : ∀ (a : List UInt8) (v : Nat), numD 0 a = some v → digs v a.length = a ∧ v < 10 ^ a.length := by
  intro a
  -- by the last digit
  have key : ∀ (k : Nat) (a : List UInt8), a.length = k → ∀ v, numD 0 a = some v → digs v k = a ∧ v < 10 ^ k := by
    intro k
    induction k with
    | zero =>
      intro a ha v h
      have : a = [] := List.length_eq_zero_iff.1 ha
      subst this
      simp only [numD, Option.some.injEq] at h
      subst h
      simp [digs]
    | succ k ih =>
      intro a ha v h
      obtain ⟨b, x, rfl⟩ : ∃ b x, a = b ++ [x] := ⟨a.dropLast, a.getLast (by intro hn; rw [hn] at ha; cases ha), (List.dropLast_concat_getLast _).symm⟩
      have hb : b.length = k := by simp at ha; exact ha
      rw [numD_append] at h
      cases hw : numD 0 b with
      | none => rw [hw] at h; cases h
      | some w =>
        rw [hw] at h
        simp only [numD] at h
        split at h
        · cases h
        · rename_i hx
          simp only [Option.some.injEq] at h
          obtain ⟨h1, h2⟩ := ih b hb w hw
          have hx2 : 48 ≤ x.toNat ∧ x.toNat ≤ 57 := by omega
          subst h
          have e1 : (10 * w + (x.toNat - 48)) / 10 = w := by omega
          have e2 : 48 + (10 * w + (x.toNat - 48)) % 10 = x.toNat := by omega
          refine ⟨?_, ?_⟩
          · simp only [digs, e1, e2, h1]
            simp
          · rw [Nat.pow_succ]; omega
  intro v h
  exact key a.length a rfl v h
end Go.Pu
