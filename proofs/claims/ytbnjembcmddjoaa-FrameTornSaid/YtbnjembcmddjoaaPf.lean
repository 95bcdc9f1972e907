/- Plain laws of frames: the checksum, and frames of payloads, with no program in sight. -/
import Derived.Test.YtbnjembcmddjoaaPc
namespace Go.Pu

def sumF (n : Nat) : List UInt8 → Nat
  | [] => n
  | x :: xs => sumF (((n ^^^ x.toNat) * 16777619) % 4294967296) xs
def sum (b : List UInt8) : Nat := sumF 2166136261 b

theorem sumF_lt : ∀ (b : List UInt8) (n : Nat), n < 4294967296 → sumF n b < 4294967296
  | [], n, h => h
  | x :: xs, n, h => sumF_lt xs _ (Nat.mod_lt _ (by omega))
theorem sum_lt (b : List UInt8) : sum b < 4294967296 := sumF_lt b _ (by omega)

theorem xor_lt32 {a b : Nat} (h : a < 4294967296) (h' : b < 4294967296) : a ^^^ b < 4294967296 := Nat.xor_lt_two_pow (n := 32) h h'
theorem mul_back32 {a : Nat} (h : a < 4294967296) : (a * 16777619 % 4294967296) * 899433627 % 4294967296 = a := by
  rw [Nat.mul_mod, Nat.mod_mod, ← Nat.mul_mod, Nat.mul_assoc, show 16777619 * 899433627 = 4294967296 * 3513497 + 1 from rfl, Nat.mul_add, Nat.mul_left_comm, Nat.mul_add_mod, Nat.mul_one, Nat.mod_eq_of_lt h]
theorem mul_inj32 {a b : Nat} (h : a < 4294967296) (h' : b < 4294967296) (e : a * 16777619 % 4294967296 = b * 16777619 % 4294967296) : a = b := by
  rw [← mul_back32 h, ← mul_back32 h', e]
theorem xor_cancel_right {n m x : Nat} (e : n ^^^ x = m ^^^ x) : n = m := by
  have h : ∀ k, k ^^^ x ^^^ x = k := fun k => by rw [Nat.xor_assoc, Nat.xor_self, Nat.xor_zero]
  rw [← h n, ← h m, e]
theorem xor_cancel_left {n m x : Nat} (e : x ^^^ n = x ^^^ m) : n = m := xor_cancel_right (x := x) (by rw [Nat.xor_comm, e, Nat.xor_comm])

theorem step_inj {n m : Nat} (h : n < 4294967296) (h' : m < 4294967296) (x : UInt8) (e : ((n ^^^ x.toNat) * 16777619) % 4294967296 = ((m ^^^ x.toNat) * 16777619) % 4294967296) : n = m := by
  have hx := x.toNat_lt
  have := mul_inj32 (xor_lt32 h (by omega)) (xor_lt32 h' (by omega)) e
  exact xor_cancel_right this
theorem step_injx {n : Nat} (h : n < 4294967296) (x y : UInt8) (e : ((n ^^^ x.toNat) * 16777619) % 4294967296 = ((n ^^^ y.toNat) * 16777619) % 4294967296) : x = y := by
  have hx := x.toNat_lt
  have hy := y.toNat_lt
  have := mul_inj32 (xor_lt32 h (by omega)) (xor_lt32 h (by omega)) e
  exact UInt8.toNat_inj.1 (xor_cancel_left this)

theorem sumF_inj : ∀ (b : List UInt8) {n m : Nat}, n < 4294967296 → m < 4294967296 → sumF n b = sumF m b → n = m
  | [], n, m, _, _, e => e
  | x :: xs, n, m, h, h', e => step_inj h h' x (sumF_inj xs (Nat.mod_lt _ (by omega)) (Nat.mod_lt _ (by omega)) e)

/-- One changed byte changes the checksum. -/
theorem sumF_set : ∀ (b : List UInt8) (i : Nat) (y : UInt8) {n : Nat}, n < 4294967296 → (h : i < b.length) → b[i] ≠ y → sumF n (b.set i y) ≠ sumF n b
  | x :: xs, 0, y, n, hn, _, hy => fun e => by
    simp only [List.set_cons_zero, sumF] at e
    have := sumF_inj xs (Nat.mod_lt _ (by omega)) (Nat.mod_lt _ (by omega)) e
    exact hy (step_injx hn y x this).symm
  | x :: xs, i + 1, y, n, hn, h, hy => fun e => by
    simp only [List.set_cons_succ, sumF] at e
    exact sumF_set xs i y (Nat.mod_lt _ (by omega)) (by simpa using h) (by simpa using hy) e

theorem sum_set {b : List UInt8} {i : Nat} {y : UInt8} (h : i < b.length) (hy : b[i] ≠ y) : sum (b.set i y) ≠ sum b := sumF_set b i y (by omega) h hy

def be4 (n : Nat) : List UInt8 := [UInt8.ofNat (n / 16777216), UInt8.ofNat (n / 65536), UInt8.ofNat (n / 256), UInt8.ofNat n]
def num4 : List UInt8 → Nat
  | a :: b :: c :: d :: _ => a.toNat * 16777216 + b.toNat * 65536 + c.toNat * 256 + d.toNat
  | _ => 0

theorem ofNat_mod (n : Nat) : (UInt8.ofNat n).toNat = n % 256 := by simp
theorem num4_be4 {n : Nat} (h : n < 4294967296) (l : List UInt8) : num4 (be4 n ++ l) = n := by
  simp only [be4, num4, List.cons_append, ofNat_mod]
  omega

theorem be4_num4 {a b c d : UInt8} {l : List UInt8} : be4 (num4 (a :: b :: c :: d :: l)) = [a, b, c, d] := by
  have := a.toNat_lt; have := b.toNat_lt; have := c.toNat_lt; have := d.toNat_lt
  simp only [be4, num4]
  have h : ∀ (x : UInt8) (n : Nat), n % 256 = x.toNat → UInt8.ofNat n = x := fun x n h => by
    rw [← UInt8.toNat_inj, ofNat_mod, h]
  rw [h a _ (by omega), h b _ (by omega), h c _ (by omega), h d _ (by omega)]

/-- The frame of a payload. -/
def frameOf (p : List UInt8) : List UInt8 := encN (2 * p.length) ++ be4 (sum p) ++ p

inductive Fr where
  | ok (p rest : List UInt8)
  | bad (e : Int)

/-- The first frame. -/
def unfr (b : List UInt8) : Fr :=
  match dec 0 0 b with
  | .bad e => .bad e
  | .ok u rest =>
    if u % 2 = 1 then .bad 1
    else if 1048576 < u / 2 then .bad 5
    else if rest.length < 4 + u / 2 then .bad 2
    else if sum ((rest.drop 4).take (u / 2)) ≠ num4 rest then .bad 4
    else .ok ((rest.drop 4).take (u / 2)) (rest.drop (4 + u / 2))

theorem unfr_frameOf {p : List UInt8} (h : p.length ≤ 1048576) (tail : List UInt8) : unfr (frameOf p ++ tail) = .ok p tail := by
  have e : dec 0 0 (frameOf p ++ tail) = .ok (2 * p.length) (be4 (sum p) ++ p ++ tail) := by
    unfold frameOf
    rw [List.append_assoc, List.append_assoc, ← List.append_assoc (be4 (sum p))]
    exact dec_encN (by omega) _
  have e1 : 2 * p.length / 2 = p.length := by omega
  have e2 : ((be4 (sum p) ++ p ++ tail).drop 4).take p.length = p := by
    have : (be4 (sum p) ++ p ++ tail).drop 4 = p ++ tail := by simp [be4]
    rw [this]; simp
  have e3 : (be4 (sum p) ++ p ++ tail).length = 4 + p.length + tail.length := by simp [be4]; omega
  have e4 : num4 (be4 (sum p) ++ p ++ tail) = sum p := by rw [List.append_assoc]; exact num4_be4 (sum_lt p) _
  have e5 : (be4 (sum p) ++ p ++ tail).drop (4 + p.length) = tail := by
    have : (be4 (sum p) ++ p ++ tail) = (be4 (sum p) ++ p) ++ tail := rfl
    rw [this, List.drop_left']
    simp [be4]; omega
  unfold unfr
  rw [e]
  simp only [e1, e2, e3, e4, e5]
  rw [if_neg (by omega), if_neg (by omega), if_neg (by omega), if_neg (by simp)]

theorem unfr_ok {b p rest : List UInt8} (h : unfr b = .ok p rest) : p.length ≤ 1048576 ∧ b = frameOf p ++ rest := by
  unfold unfr at h
  split at h
  · cases h
  · rename_i u r hd
    obtain ⟨hu, hb⟩ := encN_dec hd
    split at h
    · cases h
    split at h
    · cases h
    split at h
    · cases h
    rename_i h1 h2 h3
    split at h
    · cases h
    rename_i h4
    simp only [Fr.ok.injEq] at h
    obtain ⟨h5, h6⟩ := h
    have hlen : p.length = u / 2 := by rw [← h5]; simp; omega
    refine ⟨by omega, ?_⟩
    match r, h3 with
    | x1 :: x2 :: x3 :: x4 :: r', h3 =>
      simp only [List.drop_succ_cons, List.drop_zero] at h5 h4
      have e1 : 2 * p.length = u := by omega
      have e2 : sum p = num4 (x1 :: x2 :: x3 :: x4 :: r') := by rw [← h5]; simpa using h4
      unfold frameOf
      rw [e1, e2, be4_num4, hb]
      have e3 : p ++ rest = r' := by
        rw [← h5, ← h6]
        have : 4 + u / 2 = u / 2 + 1 + 1 + 1 + 1 := by omega
        rw [this]
        simp
      rw [← e3]
      simp
    | [], h3 => simp at h3
    | [x], h3 => simp at h3; omega
    | [x, y], h3 => simp at h3; omega
    | [x, y, z], h3 => simp at h3; omega

theorem frameOf_length (p : List UInt8) : (frameOf p).length = (encN (2 * p.length)).length + 4 + p.length := by simp [frameOf, be4]; omega
theorem frameOf_pos (p : List UInt8) : 0 < (frameOf p).length := by rw [frameOf_length]; omega

/-- A part of a frame that is not all of it is torn. -/
theorem unfr_cut {p c : List UInt8} (h : p.length ≤ 1048576) (hp : c <+: frameOf p) (hl : c.length < (frameOf p).length) : unfr c = .bad 2 := by
  unfold unfr
  by_cases hc : c.length < (encN (2 * p.length)).length
  · have : c <+: encN (2 * p.length) := by
      refine List.prefix_of_prefix_length_le hp ?_ (by omega)
      unfold frameOf
      rw [List.append_assoc]
      exact List.prefix_append _ _
    rw [dec_cut (by omega) this hc]
  · have : encN (2 * p.length) <+: c := by
      refine List.prefix_of_prefix_length_le ?_ hp (by omega)
      unfold frameOf
      rw [List.append_assoc]
      exact List.prefix_append _ _
    obtain ⟨r, rfl⟩ := this
    rw [dec_encN (by omega)]
    rw [frameOf_length] at hl
    simp only [List.length_append] at hl
    have e1 : 2 * p.length / 2 = p.length := by omega
    simp only [e1]
    rw [if_neg (by omega), if_neg (by omega), if_pos (by omega)]

/-- The frames at the beginning. -/
def allF : Nat → List UInt8 → List (List UInt8) × List UInt8
  | 0, b => ([], b)
  | f + 1, b => match unfr b with
    | .ok p rest => let r := allF f rest; (p :: r.1, r.2)
    | .bad _ => ([], b)

def joinF : List (List UInt8) → List UInt8
  | [] => []
  | p :: l => frameOf p ++ joinF l

theorem unfr_nil : unfr [] = .bad 2 := rfl
theorem unfr_lt {b p rest : List UInt8} (h : unfr b = .ok p rest) : rest.length < b.length := by
  obtain ⟨_, rfl⟩ := unfr_ok h
  have := frameOf_pos p
  simp only [List.length_append]
  omega

theorem allF_fuel : ∀ (f g : Nat) (b : List UInt8), b.length < f → b.length < g → allF f b = allF g b
  | f + 1, g + 1, b, hf, hg => by
    simp only [allF]
    split
    · rename_i p rest h
      have := unfr_lt h
      rw [allF_fuel f g rest (by omega) (by omega)]
    · rfl

theorem allF_join : ∀ (l : List (List UInt8)) (f : Nat) (t : List UInt8), (∀ p ∈ l, p.length ≤ 1048576) → (∀ p r, unfr t ≠ .ok p r) → (joinF l ++ t).length < f → allF f (joinF l ++ t) = (l, t)
  | [], f + 1, t, _, ht, _ => by
    simp only [joinF, List.nil_append, allF]
    split
    · rename_i p r h; exact (ht p r h).elim
    · rfl
  | p :: l, f + 1, t, hp, ht, hf => by
    simp only [joinF, allF]
    rw [List.append_assoc, unfr_frameOf (hp p (by simp))]
    simp only
    have := frameOf_pos p
    simp only [joinF, List.length_append] at hf
    rw [allF_join l f t (fun q hq => hp q (by simp [hq])) ht (by simp only [List.length_append]; omega)]

theorem dec_take : ∀ (k i u : Nat) (b : List UInt8), i + k = 9 → (dec i u (b.take (k + 1)) = match dec i u b with | .ok v r => .ok v (r.take (r.length - (b.length - (k + 1)))) | .bad e => .bad e) ∧ (∀ v r, dec i u b = .ok v r → b.length - (k + 1) ≤ r.length)
  | k, i, u, [], _ => by simp [dec]
  | k, i, u, x :: xs, hi => by
    simp only [List.take_succ_cons, dec, List.length_cons]
    split
    · simp
    · rename_i h
      split
      · simp only [Dec.ok.injEq]
        refine ⟨⟨trivial, ?_⟩, ?_⟩
        · have : xs.length - (xs.length + 1 - (k + 1)) = min k xs.length := by omega
          rw [this, ← List.take_take]
          simp
        · rintro v r ⟨_, rfl⟩; omega
      · cases k with
        | zero => exfalso; omega
        | succ k =>
          have := dec_take k (i + 1) (u + x.toNat % 128 * 128 ^ i) xs (by omega)
          refine ⟨?_, ?_⟩
          · rw [this.1]
            split
            · have : xs.length + 1 - (k + 1 + 1) = xs.length - (k + 1) := by omega
              rw [this]
            · rfl
          · intro v r hr
            have := this.2 v r hr
            omega

end Go.Pu
