/- The printed form of expressions: its tokens, and that it is parsed back. Plain laws, with no program in sight. -/
import Derived.Test.YtcjglgeamdfpmaaEPp
namespace Go.Pu

theorem PE.ind {P : PE → Prop} (h : ∀ op num text args, (∀ a ∈ args, P a) → P (.mk op num text args)) : ∀ e, P e := by
  intro e
  refine PE.rec (motive_1 := P) (motive_2 := fun l => ∀ a ∈ l, P a) (fun op num text args ih => h op num text args ih) (fun a ha => by cases ha) (fun a l ha hl => ?_) e
  intro x hx
  cases hx with
  | head => exact ha
  | tail _ hx => exact hl x hx

/-! Decimal digits. -/
def dg (n : Nat) : UInt8 := UInt8.ofNat (48 + n)
def decF : Nat → Nat → Bs
  | 0, _ => []
  | k + 1, n => if n < 10 then [dg n] else decF k (n / 10) ++ [dg (n % 10)]
def dec (n : Nat) : Bs := decF 20 n

theorem dg_toNat {n : Nat} (h : n < 10) : (dg n).toNat = 48 + n := by
  unfold dg
  rw [UInt8.toNat_ofNat']
  omega
theorem dg_digit {n : Nat} (h : n < 10) : digitB (dg n) = true := by
  simp only [digitB, dg_toNat h, Bool.and_eq_true, decide_eq_true_eq]; omega

theorem valF_app : ∀ (k n : Nat) (w : Bs) (b : UInt8), w.length < k → valF k n (w ++ [b]) = 10 * valF k n w + (b.toNat - 48)
  | 0, n, w, b, h => by omega
  | k + 1, n, [], b, h => by simp [valF]; cases k <;> rfl
  | k + 1, n, c :: w, b, h => by
    simp only [List.cons_append, valF]
    exact valF_app k _ w b (by simpa using h)

theorem decF_all : ∀ (k n : Nat), (decF k n).all digitB = true
  | 0, n => rfl
  | k + 1, n => by
    unfold decF
    split
    · rename_i h; simp [dg_digit h]
    · simp [decF_all k, dg_digit (Nat.mod_lt n (by omega))]
theorem decF_len : ∀ (k n : Nat), n < 10 ^ k → 0 < k → (decF k n).length ≤ k ∧ 1 ≤ (decF k n).length
  | 0, n, _, h => by omega
  | k + 1, n, hn, _ => by
    unfold decF
    split
    · simp
    · rename_i h
      have hk : 0 < k := by
        cases k with
        | zero => simp at hn; omega
        | succ k => omega
      have hd : n / 10 < 10 ^ k := by
        rw [Nat.pow_succ] at hn
        omega
      have := decF_len k (n / 10) hd hk
      simp; omega
theorem decF_fuel : ∀ (k m n : Nat), n < 10 ^ k → k ≤ m → 0 < k → decF m n = decF k n
  | 0, m, n, _, _, h => by omega
  | k + 1, 0, n, _, h, _ => by omega
  | k + 1, m + 1, n, hn, hm, _ => by
    unfold decF
    split
    · rfl
    · rename_i h
      have hk : 0 < k := by
        cases k with
        | zero => simp at hn; omega
        | succ k => omega
      have hd : n / 10 < 10 ^ k := by
        rw [Nat.pow_succ] at hn
        omega
      rw [decF_fuel k m (n / 10) hd (by omega) hk]
theorem decF_val : ∀ (k n : Nat), n < 10 ^ k → 0 < k → k ≤ 16 → value (decF k n) = n
  | 0, n, _, h, _ => by omega
  | k + 1, n, hn, _, hk16 => by
    unfold decF
    split
    · rename_i h
      simp only [value, valF, dg_toNat h]; omega
    · rename_i h
      have hk : 0 < k := by
        cases k with
        | zero => simp at hn; omega
        | succ k => omega
      have hd : n / 10 < 10 ^ k := by
        rw [Nat.pow_succ] at hn
        omega
      have hl := (decF_len k (n / 10) hd hk).1
      have ih := decF_val k (n / 10) hd hk (by omega)
      unfold value at ih ⊢
      rw [valF_app 16 0 _ _ (by omega), ih, dg_toNat (Nat.mod_lt n (by omega))]
      omega
theorem decF_head : ∀ (k n : Nat), n < 10 ^ k → 10 ≤ n → headIs (fun c => c.toNat == 48) (decF k n) = false
  | 0, n, h, h10 => by simp at h; omega
  | k + 1, n, hn, h10 => by
    unfold decF
    rw [if_neg (by omega)]
    have hd : n / 10 < 10 ^ k := by
      rw [Nat.pow_succ] at hn
      omega
    have hk : 0 < k := by
      cases k with
      | zero => simp at hn; omega
      | succ k => omega
    by_cases h : n / 10 < 10
    · cases k with
      | zero => omega
      | succ k =>
        unfold decF
        rw [if_pos h]
        simp only [List.cons_append, headIs, dg_toNat h]
        simp; omega
    · have ih := decF_head k (n / 10) hd (by omega)
      have hl := (decF_len k (n / 10) hd hk).2
      cases hx : decF k (n / 10) with
      | nil => rw [hx] at hl; simp at hl
      | cons c r => rw [hx] at ih; exact ih

def mostN : Nat := 9999999999999999
theorem dec16 {n : Nat} (h : n ≤ mostN) : dec n = decF 16 n := decF_fuel 16 20 n (by unfold mostN at h; omega) (by omega) (by omega)
theorem dec_all (n : Nat) : (dec n).all digitB = true := decF_all 20 n
theorem dec_val {n : Nat} (h : n ≤ mostN) : value (dec n) = n := by
  rw [dec16 h]; exact decF_val 16 n (by unfold mostN at h; omega) (by omega) (by omega)
theorem dec_len {n : Nat} (h : n ≤ mostN) : (dec n).length ≤ 16 ∧ 1 ≤ (dec n).length := by
  rw [dec16 h]; exact decF_len 16 n (by unfold mostN at h; omega) (by omega)
theorem dec_numB {n : Nat} (h : n ≤ mostN) : numB (dec n) = true := by
  unfold numB
  rw [dec16 h]
  by_cases h10 : 10 ≤ n
  · rw [decF_head 16 n (by unfold mostN at h; omega) h10]; simp
  · unfold decF
    rw [if_pos (by omega)]; simp
theorem dec_ok {n : Nat} (h : n ≤ mostN) : (Tk.num (dec n)).ok = true := by
  have hl := dec_len h
  have ha := dec_all n
  simp only [Tk.ok, Bool.and_eq_true, decide_eq_true_eq]
  refine ⟨⟨?_, ha⟩, hl.1⟩
  cases hx : dec n with
  | nil => rw [hx] at hl; simp at hl
  | cons c r => rw [hx] at ha; simp at ha; exact ha.1

/-! Printable expressions, and what is printed. -/
def arity (op : Int) : Int := if op = 1 ∨ op = 2 ∨ op = 3 then 0 else if op = 4 then 1 else if 4 < op ∧ op < 16 then 2 else -1
def nameOk (s : Bs) : Bool := headIs lowerB s && s.all wordB && decide (s.length ≤ 24) && !isKw s

mutual
def prb : PE → Bool
  | .mk op num text args => decide ((args.length : Int) = arity op) &&
    (if op = 1 then decide (0 ≤ num ∧ num ≤ mostN) && text.isEmpty else decide (num = 0) &&
      (if op = 2 then !(quote text).isEmpty else if op = 3 then isAttr text || nameOk text else text.isEmpty && prbs args))
def prbs : List PE → Bool
  | [] => true
  | a :: as => prb a && prbs as
end
theorem prbs_mem {as : List PE} : prbs as = true ↔ ∀ a ∈ as, prb a = true := by
  induction as with
  | nil => simp [prbs]
  | cons a as ih => simp [prbs, ih]

def strength (op : Int) : Nat := if op = 6 then 1 else if op = 5 then 2 else if op = 4 then 3 else if op = 7 ∨ op = 8 ∨ op = 9 ∨ op = 10 then 4 else if op = 11 ∨ op = 12 then 5 else if op = 13 ∨ op = 14 ∨ op = 15 then 6 else 7
def PE.op : PE → Int
  | .mk op _ _ _ => op
def PE.num : PE → Int
  | .mk _ n _ _ => n
def PE.text : PE → Bs
  | .mk _ _ t _ => t
def PE.args : PE → List PE
  | .mk _ _ _ as => as
def PE.str (e : PE) : Nat := strength e.op
def signT (op : Int) : Tk := if op = 5 then .word kAnd else if op = 6 then .word kOr else if op = 7 then .sym [61] else if op = 8 then .sym [60, 62] else if op = 9 then .sym [60] else if op = 10 then .sym [60, 61]
  else if op = 11 then .sym [43] else if op = 12 then .sym [45] else if op = 13 then .sym [42] else if op = 14 then .sym [47] else .sym [37]
/-- How strongly the operands of an operator bind at least. -/
def leftS (op : Int) : Nat := if strength op = 4 then 5 else strength op
def rightS (op : Int) : Nat := if strength op = 4 then 5 else strength op + 1

def parT (b : Bool) (l : List Tk) : List Tk := if b then .sym [40] :: (l ++ [.sym [41]]) else l
def parB (b : Bool) (l : Bs) : Bs := if b then 40 :: (l ++ [41]) else l

mutual
def tokE : PE → List Tk
  | .mk op num text args => if op = 1 then [.num (dec num.toNat)] else if op = 2 then [.text text] else if op = 3 then [.word text] else if op = 4 then .word kNot :: tokA 3 args else tokB op args
def tokA : Nat → List PE → List Tk
  | _, [] => []
  | k, a :: _ => parT (decide (a.str < k)) (tokE a)
def tokB : Int → List PE → List Tk
  | _, [] => []
  | op, a :: l => parT (decide (a.str < leftS op)) (tokE a) ++ signT op :: tokA (rightS op) l
end
def tokO (a : PE) (k : Nat) : List Tk := parT (decide (a.str < k)) (tokE a)

mutual
def txtE : PE → Bs
  | .mk op num text args => if op = 1 then dec num.toNat else if op = 2 then quote text else if op = 3 then text else if op = 4 then kNot ++ 32 :: txtA 3 args else txtB op args
def txtA : Nat → List PE → Bs
  | _, [] => []
  | k, a :: _ => parB (decide (a.str < k)) (txtE a)
def txtB : Int → List PE → Bs
  | _, [] => []
  | op, a :: l => parB (decide (a.str < leftS op)) (txtE a) ++ 32 :: ((signT op).src ++ 32 :: txtA (rightS op) l)
end
def txtO (a : PE) (k : Nat) : Bs := parB (decide (a.str < k)) (txtE a)
end Go.Pu
