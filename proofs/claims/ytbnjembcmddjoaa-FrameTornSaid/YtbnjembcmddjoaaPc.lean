/- Plain laws of the number code: encoding and decoding of numbers, with no program in sight. -/
namespace Go.Pu

/-- A number's code, the low seven bits first. -/
def encN (u : Nat) : List UInt8 :=
  if u < 128 then [UInt8.ofNat u] else UInt8.ofNat (128 + u % 128) :: encN (u / 128)
termination_by u
decreasing_by omega

theorem encN_small {u : Nat} (h : u < 128) : encN u = [UInt8.ofNat u] := by rw [encN, if_pos h]
theorem encN_big {u : Nat} (h : 128 ≤ u) : encN u = UInt8.ofNat (128 + u % 128) :: encN (u / 128) := by rw [encN, if_neg (by omega)]

/-- The number of 64 bits that stands for an integer, and back. -/
def zz (n : Int) : Nat := if n < 0 then (2 * (-(n + 1)) + 1).toNat else (2 * n).toNat
def unzz (u : Nat) : Int := if u % 2 = 1 then -((u / 2 : Nat) : Int) - 1 else ((u / 2 : Nat) : Int)

theorem unzz_zz (n : Int) : unzz (zz n) = n := by
  unfold unzz zz
  split <;> split <;> omega
theorem zz_unzz (u : Nat) : zz (unzz u) = u := by
  unfold unzz zz
  split <;> split <;> omega
theorem zz_lt {n : Int} (h : -9223372036854775808 ≤ n) (h' : n ≤ 9223372036854775807) : zz n < 18446744073709551616 := by
  unfold zz
  split <;> omega
theorem unzz_lo {u : Nat} (h : u < 18446744073709551616) : -9223372036854775808 ≤ unzz u := by
  unfold unzz; split <;> omega
theorem unzz_hi {u : Nat} (h : u < 18446744073709551616) : unzz u ≤ 9223372036854775807 := by
  unfold unzz; split <;> omega

inductive Dec where
  | ok (u : Nat) (rest : List UInt8)
  | bad (e : Int)

def dec : Nat → Nat → List UInt8 → Dec
  | _, _, [] => .bad 2
  | i, u, x :: xs =>
    if (i = 9 ∧ x.toNat ≠ 1) ∨ (0 < i ∧ x.toNat = 0) then .bad 1
    else if x.toNat < 128 then .ok (u + x.toNat % 128 * 128 ^ i) xs
    else dec (i + 1) (u + x.toNat % 128 * 128 ^ i) xs

theorem toNat_ofNat {n : Nat} (h : n < 256) : (UInt8.ofNat n).toNat = n := by
  simp [UInt8.toNat_ofNat']; omega

/-- Whether what remains of a number, with so many bytes behind it, fits. -/
theorem dec_enc (tail : List UInt8) : ∀ (k : Nat) (i v u : Nat), i + k = 9 → v < 2 * 128 ^ k → (0 < i → 0 < v) → dec i u (encN v ++ tail) = .ok (u + v * 128 ^ i) tail
  | 0, i, v, u, hi, hv, h0 => by
    obtain rfl : i = 9 := by omega
    have h0 := h0 (by omega)
    obtain rfl : v = 1 := by omega
    rw [encN_small (by omega)]
    simp [dec]
  | k + 1, i, v, u, hi, hv, h0 => by
    by_cases h : v < 128
    · rw [encN_small h]
      have e : (UInt8.ofNat v).toNat = v := toNat_ofNat (by omega)
      have : ¬ ((i = 9 ∧ v ≠ 1) ∨ (0 < i ∧ v = 0)) := by omega
      have e2 : v % 128 = v := by omega
      simp only [List.cons_append, List.nil_append, dec, e, if_neg this, if_pos h, e2]
    · rw [encN_big (by omega)]
      have e : (UInt8.ofNat (128 + v % 128)).toNat = 128 + v % 128 := toNat_ofNat (by omega)
      have h1 : ¬ ((i = 9 ∧ 128 + v % 128 ≠ 1) ∨ (0 < i ∧ 128 + v % 128 = 0)) := by omega
      have h2 : ¬ 128 + v % 128 < 128 := by omega
      have e2 : (128 + v % 128) % 128 = v % 128 := by omega
      have hv' : v / 128 < 2 * 128 ^ k := by
        rw [Nat.pow_succ] at hv
        omega
      simp only [List.cons_append, dec, e, if_neg h1, if_neg h2, e2]
      rw [dec_enc tail k (i + 1) (v / 128) _ (by omega) hv' (by omega)]
      congr 1
      rw [Nat.pow_succ, Nat.add_assoc, ← Nat.mul_assoc, Nat.mul_right_comm (v / 128), ← Nat.add_mul]
      congr 2
      omega

theorem dec_encN {v : Nat} (h : v < 18446744073709551616) (tail : List UInt8) : dec 0 0 (encN v ++ tail) = .ok v tail := by
  rw [dec_enc tail 9 0 v 0 rfl (by simpa using h) (by omega)]
  simp

/-- What is decoded has exactly the bytes in front of the remaining ones. -/
theorem enc_dec : ∀ (k : Nat) (b : List UInt8) (i u v : Nat) (rest : List UInt8), i + k = 9 → dec i u b = .ok v rest → ∃ x, x < 2 * 128 ^ k ∧ (0 < i → 0 < x) ∧ v = u + x * 128 ^ i ∧ b = encN x ++ rest
  | k, [], i, u, v, rest, _, h => by simp [dec] at h
  | k, x :: xs, i, u, v, rest, hi, h => by
    have hx := x.toNat_lt
    simp only [dec] at h
    split at h
    · cases h
    · rename_i hc
      split at h
      · rename_i h1
        simp only [Dec.ok.injEq] at h
        obtain ⟨rfl, rfl⟩ := h
        refine ⟨x.toNat, ?_, by omega, by rw [Nat.mod_eq_of_lt h1], ?_⟩
        · cases k with
          | zero => omega
          | succ k => have := Nat.pow_pos (n := k) (show 0 < 128 by omega); rw [Nat.pow_succ]; omega
        · rw [encN_small h1]; simp
      · rename_i h1
        cases k with
        | zero => omega
        | succ k =>
          obtain ⟨y, hy, hy0, hv, hb⟩ := enc_dec k xs (i + 1) _ v rest (by omega) h
          have hy0 := hy0 (by omega)
          refine ⟨x.toNat % 128 + 128 * y, by rw [Nat.pow_succ]; omega, by omega, ?_, ?_⟩
          · rw [hv, Nat.pow_succ, Nat.add_mul, Nat.add_assoc, Nat.mul_comm 128 y, Nat.mul_assoc, Nat.mul_comm 128 (128 ^ i)]
          · rw [encN_big (by omega)]
            have e1 : 128 + (x.toNat % 128 + 128 * y) % 128 = x.toNat := by omega
            have e2 : (x.toNat % 128 + 128 * y) / 128 = y := by omega
            rw [e1, e2, hb]
            simp

theorem encN_dec {b : List UInt8} {v : Nat} {rest : List UInt8} (h : dec 0 0 b = .ok v rest) : v < 18446744073709551616 ∧ b = encN v ++ rest := by
  obtain ⟨x, h1, -, h3, h4⟩ := enc_dec 9 b 0 0 v rest rfl h
  simp at h3 h1
  subst h3
  exact ⟨h1, h4⟩

theorem dec_cut_aux : ∀ (k i u v : Nat) (c : List UInt8), i + k = 9 → v < 2 * 128 ^ k → (0 < i → 0 < v) → c <+: encN v → c.length < (encN v).length → dec i u c = .bad 2
  | k, i, u, v, [], _, _, _, _, _ => by simp [dec]
  | 0, i, u, v, x :: xs, hi, hv, h0, hp, hl => by
    obtain rfl : v = 1 := by omega
    rw [encN_small (by omega)] at hl
    simp at hl
  | k + 1, i, u, v, x :: xs, hi, hv, h0, hp, hl => by
    by_cases h : v < 128
    · rw [encN_small h] at hl; simp at hl
    · rw [encN_big (by omega)] at hl hp
      obtain ⟨t, ht⟩ := hp
      simp only [List.cons_append, List.cons.injEq] at ht
      obtain ⟨hx, ht⟩ := ht
      have e : x.toNat = 128 + v % 128 := by rw [hx]; exact toNat_ofNat (by omega)
      have h1 : ¬ ((i = 9 ∧ 128 + v % 128 ≠ 1) ∨ (0 < i ∧ 128 + v % 128 = 0)) := by omega
      have h2 : ¬ 128 + v % 128 < 128 := by omega
      have hv' : v / 128 < 2 * 128 ^ k := by rw [Nat.pow_succ] at hv; omega
      simp only [dec, e, if_neg h1, if_neg h2]
      exact dec_cut_aux k (i + 1) _ (v / 128) xs (by omega) hv' (by omega) ⟨t, ht⟩ (by simpa using hl)

theorem dec_cut {v : Nat} (h : v < 18446744073709551616) {c : List UInt8} (hp : c <+: encN v) (hl : c.length < (encN v).length) : dec 0 0 c = .bad 2 :=
  dec_cut_aux 9 0 0 v c rfl (by simpa using h) (by omega) hp hl

theorem encN_length_pos (u : Nat) : 0 < (encN u).length := by rw [encN]; split <;> simp
theorem encN_length : ∀ (k u : Nat), u < 2 * 128 ^ k → (encN u).length ≤ k + 1
  | 0, u, h => by rw [encN_small (by omega)]; simp
  | k + 1, u, h => by
    by_cases hu : u < 128
    · rw [encN_small hu]; simp
    · rw [encN_big (by omega)]
      have := encN_length k (u / 128) (by rw [Nat.pow_succ] at h; omega)
      simpa using this
theorem encN_len10 {u : Nat} (h : u < 18446744073709551616) : (encN u).length ≤ 10 := encN_length 9 u (by simpa using h)

end Go.Pu
namespace Go.Pu

/-- A number that was decoded, as three results. -/
def nv : Dec → Int
  | .ok u _ => unzz u
  | .bad _ => 0
def nr : Dec → List UInt8
  | .ok _ r => r
  | .bad _ => []
def ne : Dec → Int
  | .ok _ _ => 0
  | .bad e => e

theorem dec_bad : ∀ (b : List UInt8) (i u : Nat) (e : Int), dec i u b = .bad e → e = 1 ∨ e = 2
  | [], i, u, e, h => by simp [dec] at h; omega
  | x :: xs, i, u, e, h => by
    simp only [dec] at h
    split at h
    · simp only [Dec.bad.injEq] at h; omega
    · split at h
      · cases h
      · exact dec_bad xs _ _ e h

theorem dec_rest {b r : List UInt8} {v : Nat} (h : dec 0 0 b = .ok v r) : r.length < b.length ∧ b.drop (b.length - r.length) = r := by
  obtain ⟨_, rfl⟩ := encN_dec h
  have := encN_length_pos v
  simp only [List.length_append]
  refine ⟨by omega, ?_⟩
  rw [Nat.add_sub_cancel, List.drop_left]

/-- A length that was decoded. -/
def lenD : Dec → Dec
  | .bad e => .bad e
  | .ok u r => if u % 2 = 1 then .bad 1 else if 1048576 < u / 2 then .bad 5 else .ok u r

theorem lenD_bad {b : List UInt8} {e : Int} (h : lenD (dec 0 0 b) = .bad e) : e = 1 ∨ e = 2 ∨ e = 5 := by
  unfold lenD at h
  split at h
  · rename_i e' h'
    simp only [Dec.bad.injEq] at h
    have := dec_bad _ _ _ _ h'
    omega
  · split at h
    · simp only [Dec.bad.injEq] at h; omega
    · split at h
      · simp only [Dec.bad.injEq] at h; omega
      · cases h
theorem lenD_ok {d : Dec} {u : Nat} {r : List UInt8} (h : lenD d = .ok u r) : d = .ok u r ∧ u % 2 = 0 ∧ u / 2 ≤ 1048576 ∧ unzz u = ((u / 2 : Nat) : Int) := by
  unfold lenD at h
  split at h
  · cases h
  · split at h
    · cases h
    · split at h
      · cases h
      · simp only [Dec.ok.injEq] at h
        obtain ⟨rfl, rfl⟩ := h
        exact ⟨rfl, by omega, by omega, by unfold unzz; rw [if_neg (by omega)]⟩

inductive Tx where
  | ok (s rest : List UInt8)
  | bad (e : Int)

def txtD (b : List UInt8) : Tx := match lenD (dec 0 0 b) with
  | .bad e => .bad e
  | .ok u r => if r.length < u / 2 then .bad 2 else .ok (r.take (u / 2)) (r.drop (u / 2))

theorem txtD_bad {b : List UInt8} {e : Int} (h : txtD b = .bad e) : e = 1 ∨ e = 2 ∨ e = 5 := by
  unfold txtD at h
  split at h
  · rename_i e' h'
    simp only [Tx.bad.injEq] at h
    have := lenD_bad h'
    omega
  · split at h
    · simp only [Tx.bad.injEq] at h; omega
    · cases h
end Go.Pu
namespace Go.Pu
theorem lenD_odd {u : Nat} {r : List UInt8} (h : u % 2 = 1) : lenD (.ok u r) = .bad 1 := by simp only [lenD, if_pos h]
theorem lenD_big {u : Nat} {r : List UInt8} (h : ¬ u % 2 = 1) (h' : 1048576 < u / 2) : lenD (.ok u r) = .bad 5 := by simp only [lenD, if_neg h, if_pos h']
theorem lenD_in {u : Nat} {r : List UInt8} (h : ¬ u % 2 = 1) (h' : ¬ 1048576 < u / 2) : lenD (.ok u r) = .ok u r := by simp only [lenD, if_neg h, if_neg h']
theorem unzz_odd {u : Nat} (h : u % 2 = 1) : unzz u < 0 := by unfold unzz; rw [if_pos h]; omega
theorem unzz_even {u : Nat} (h : ¬ u % 2 = 1) : unzz u = ((u / 2 : Nat) : Int) := by unfold unzz; rw [if_neg h]
theorem lenD_rest {b r : List UInt8} {u : Nat} (h : lenD (dec 0 0 b) = .ok u r) : r.length < b.length ∧ b.drop (b.length - r.length) = r ∧ u / 2 ≤ 1048576 := by
  obtain ⟨h1, _, h3, _⟩ := lenD_ok h
  exact ⟨(dec_rest h1).1, (dec_rest h1).2, h3⟩
def ts : Tx → List UInt8
  | .ok s _ => s
  | .bad _ => []
def tr : Tx → List UInt8
  | .ok _ r => r
  | .bad _ => []
def te : Tx → Int
  | .ok _ _ => 0
  | .bad e => e
end Go.Pu
namespace Go.Pu
inductive Ns where
  | ok (l : List Int) (rest : List UInt8)
  | bad (e : Int)

def decNs : Nat → List UInt8 → Ns
  | 0, b => .ok [] b
  | n + 1, b => match dec 0 0 b with
    | .bad e => .bad e
    | .ok u r => match decNs n r with
      | .bad e => .bad e
      | .ok l rest => .ok (unzz u :: l) rest

theorem decNs_bad {n : Nat} {b : List UInt8} {e : Int} (h : dec 0 0 b = .bad e) : decNs (n + 1) b = .bad e := by simp only [decNs, h]
theorem decNs_ok {n : Nat} {b r : List UInt8} {u : Nat} (h : dec 0 0 b = .ok u r) : decNs (n + 1) b = match decNs n r with
    | .bad e => .bad e
    | .ok l rest => .ok (unzz u :: l) rest := by simp only [decNs, h]

def numsD (b : List UInt8) : Ns := match lenD (dec 0 0 b) with
  | .bad e => .bad e
  | .ok u r => decNs (u / 2) r

def ml (acc : List Int) : Ns → List Int
  | .ok l _ => acc ++ l
  | .bad _ => []
def mr : Ns → List UInt8
  | .ok _ r => r
  | .bad _ => []
def me : Ns → Int
  | .ok _ _ => 0
  | .bad e => e
theorem ml_cons (acc : List Int) (x : Int) (d : Ns) : ml acc (match d with | .bad e => .bad e | .ok l rest => .ok (x :: l) rest) = ml (acc ++ [x]) d := by cases d <;> simp [ml]
theorem mr_cons (x : Int) (d : Ns) : mr (match d with | .bad e => .bad e | .ok l rest => .ok (x :: l) rest) = mr d := by cases d <;> simp [mr]
theorem me_cons (x : Int) (d : Ns) : me (match d with | .bad e => .bad e | .ok l rest => .ok (x :: l) rest) = me d := by cases d <;> simp [me]

theorem decNs_len : ∀ (n : Nat) (b : List UInt8) (l : List Int) (rest : List UInt8), decNs n b = .ok l rest → l.length = n ∧ n ≤ b.length
  | 0, b, l, rest, h => by simp only [decNs, Ns.ok.injEq] at h; simp [← h.1]
  | n + 1, b, l, rest, h => by
    cases hd : dec 0 0 b with
    | bad e => rw [decNs_bad hd] at h; cases h
    | ok u r =>
      rw [decNs_ok hd] at h
      cases hn : decNs n r with
      | bad e => rw [hn] at h; cases h
      | ok l' r' =>
        rw [hn] at h
        simp only [Ns.ok.injEq] at h
        have := decNs_len n r l' r' hn
        have := (dec_rest hd).1
        rw [← h.1]
        simp
        omega
theorem numsD_len {b : List UInt8} : (ml [] (numsD b)).length ≤ b.length := by
  unfold numsD
  split
  · simp [ml]
  · rename_i u r h
    have h1 := (lenD_rest h).1
    cases hn : decNs (u / 2) r with
    | bad e => simp [ml]
    | ok l r' => have := decNs_len _ _ _ _ hn; simp [ml]; omega
end Go.Pu
namespace Go.Pu
def encL : List Int → List UInt8
  | [] => []
  | n :: l => encN (zz n) ++ encL l

structure Rec where
  src : Int
  ser : Int
  kind : Int
  a : List UInt8
  b : List UInt8
  start : Int
  units : Int
  call : Int
  part : Int
  last : Bool
  trunk : Int
  inb : Bool

def tru (b : Bool) : Int := if b then 1 else 0
def i64 (n : Int) : Prop := -9223372036854775808 ≤ n ∧ n ≤ 9223372036854775807
def Rec.fits (r : Rec) : Prop := i64 r.src ∧ i64 r.ser ∧ i64 r.kind ∧ i64 r.start ∧ i64 r.units ∧ i64 r.call ∧ i64 r.part ∧ i64 r.trunk
def encT (s : List UInt8) : List UInt8 := encN (2 * s.length) ++ s
def putR (r : Rec) : List UInt8 := encN (zz r.src) ++ (encN (zz r.ser) ++ (encN (zz r.kind) ++ (encT r.a ++ (encT r.b ++ (encN (zz r.start) ++ (encN (zz r.units) ++ (encN (zz r.call) ++ (encN (zz r.part) ++ (encN (zz (tru r.last)) ++ (encN (zz r.trunk) ++ encN (zz (tru r.inb))))))))))))
end Go.Pu
