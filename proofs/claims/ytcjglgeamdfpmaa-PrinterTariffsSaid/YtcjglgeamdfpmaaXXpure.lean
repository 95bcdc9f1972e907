/- Plain laws of the tokens of the tariff language, with no program in sight. -/
namespace Go.Pu
abbrev Bs := List UInt8
def lowerB (b : UInt8) : Bool := 97 ≤ b.toNat && b.toNat ≤ 122
def digitB (b : UInt8) : Bool := 48 ≤ b.toNat && b.toNat ≤ 57
def wordB (b : UInt8) : Bool := lowerB b || digitB b || b.toNat == 45
def blankB (b : UInt8) : Bool := b.toNat == 32 || b.toNat == 9 || b.toNat == 10
def textB (b : UInt8) : Bool := 32 ≤ b.toNat && b.toNat ≤ 126 && b.toNat != 34
inductive Tk where
 | word (s : Bs)
 | num (s : Bs)
 | text (s : Bs)
 | sym (s : Bs)
 | fin
 deriving DecidableEq
def Tk.kind : Tk → Nat
 | .fin => 0
 | .word _ => 1
 | .num _ => 2
 | .text _ => 3
 | .sym _ => 4
def Tk.str : Tk → Bs
 | .fin => []
 | .word s => s
 | .num s => s
 | .text s => s
 | .sym s => s
def valF : Nat → Nat → Bs → Nat
 | 0, n, _ => n
 | _ + 1, n, [] => n
 | k + 1, n, b :: l => valF k (10 * n + (b.toNat - 48)) l
def value (s : Bs) : Nat := valF 16 0 s
def Tk.val : Tk → Nat
 | .num s => value s
 | _ => 0
def skipB : Bool → Bs → Bs
 | _, [] => []
 | false, b :: l => if blankB b then skipB false l else if b.toNat = 35 then skipB true l else b :: l
 | true, b :: l => if b.toNat = 10 then skipB false l else skipB true l
inductive LR where
 | ok (t : Tk) (rest : Bs)
 | err (e : Nat)
def headIs (p : UInt8 → Bool) : Bs → Bool
 | [] => false
 | b :: _ => p b
def singles : List Nat := [59, 44, 43, 45, 58, 40, 41, 61, 42, 47, 37]
def lexSym (b : UInt8) (l : Bs) : LR :=
 if b.toNat = 60 then (match l with | c :: r => if c.toNat = 62 ∨ c.toNat = 61 then .ok (.sym [b, c]) r else .ok (.sym [b]) l | [] => .ok (.sym [b]) l)
 else if b.toNat = 62 then (match l with | c :: r => if c.toNat = 61 then .ok (.sym [b, c]) r else .ok (.sym [b]) l | [] => .ok (.sym [b]) l)
 else if b.toNat ∈ singles then .ok (.sym [b]) l else .err 1
def lexWord (r : Bs) : LR := if (r.takeWhile wordB).length > 24 then .err 5 else .ok (.word (r.takeWhile wordB)) (r.dropWhile wordB)
def lexNum (r : Bs) : LR := if (r.takeWhile digitB).length > 16 then .err 5 else if headIs lowerB (r.dropWhile digitB) then .err 1 else .ok (.num (r.takeWhile digitB)) (r.dropWhile digitB)
def lexText (l : Bs) : LR := match l.dropWhile textB with
 | [] => .err 1
 | c :: r => if c.toNat = 34 then (if (l.takeWhile textB).length > 200 then .err 5 else .ok (.text (l.takeWhile textB)) r) else .err 1
def lexOne (b : UInt8) (l : Bs) : LR :=
 if lowerB b then lexWord (b :: l) else if digitB b then lexNum (b :: l) else if b.toNat = 34 then lexText l else lexSym b l
inductive SR where
 | ok (ts : List (Tk × Nat))
 | err (rem : Nat) (e : Nat)
def SR.cons (t : Tk × Nat) : SR → SR
 | .ok ts => .ok (t :: ts)
 | e => e
def scanF : Nat → Bs → SR
 | 0, _ => .err 0 0
 | n + 1, l => match skipB false l with
  | [] => .ok [(.fin, 0)]
  | b :: r => match lexOne b r with
   | .err e => .err (r.length + 1) e
   | .ok t r' => SR.cons (t, r.length + 1) (scanF n r')
def scan (l : Bs) : SR := scanF (l.length + 1) l
def kws : List Bs := [
 [116, 97, 114, 105, 102, 102],
 [102, 114, 111, 109],
 [115, 112, 108, 105, 116],
 [122, 111, 110, 101],
 [98, 97, 110, 100],
 [111, 116, 104, 101, 114, 119, 105, 115, 101],
 [114, 97, 116, 101],
 [116, 111],
 [97, 110, 121],
 [105, 110],
 [115, 101, 116, 117, 112],
 [117, 112, 116, 111],
 [112, 101, 114],
 [97, 116],
 [100, 105, 115, 99, 111, 117, 110, 116],
 [112, 111, 105, 110, 116, 115],
 [119, 104, 101, 110],
 [97, 110, 100],
 [111, 114],
 [110, 111, 116],
 [109, 111, 110],
 [116, 117, 101],
 [119, 101, 100],
 [116, 104, 117],
 [102, 114, 105],
 [115, 97, 116],
 [115, 117, 110],
 [104, 111, 108, 105, 100, 97, 121],
 [118, 111, 105, 99, 101],
 [116, 101, 120, 116],
 [100, 97, 116, 97],
 [99, 111, 110, 116, 101, 110, 116],
 [107, 105, 110, 100],
 [117, 110, 105, 116, 115],
 [119, 101, 101, 107, 100, 97, 121],
 [109, 105, 110, 117, 116, 101],
 [116, 111, 116, 97, 108],
 [115, 112, 101, 110, 116],
 [102, 97, 109, 105, 108, 121]]
def isKw (s : Bs) : Bool := kws.contains s
def quote (s : Bs) : Bs := if s.all textB && decide (s.length ≤ 200) then 34 :: (s ++ [34]) else []
def Tk.src : Tk → Bs
 | .text s => 34 :: (s ++ [34])
 | t => t.str
theorem skipB_le : ∀ (c : Bool) (l : Bs), (skipB c l).length ≤ l.length
 | c, [] => by cases c <;> simp [skipB]
 | false, b :: l => by
  have h1 := skipB_le false l
  have h2 := skipB_le true l
  unfold skipB
  split
  ·simp; omega
  ·split
   ·simp; omega
   ·simp
 | true, b :: l => by
  have h1 := skipB_le false l
  have h2 := skipB_le true l
  unfold skipB
  split <;> simp <;> omega
theorem takeDrop (p : UInt8 → Bool) (l : Bs) : l.takeWhile p ++ l.dropWhile p = l := List.takeWhile_append_dropWhile
theorem takeWhile_all (p : UInt8 → Bool) : ∀ (l : Bs), (l.takeWhile p).all p = true
 | [] => rfl
 | b :: l => by
  by_cases h : p b = true
  ·rw [List.takeWhile_cons_of_pos h, List.all_cons, h, takeWhile_all p l]; rfl
  ·rw [List.takeWhile_cons_of_neg h]; rfl
theorem dropWhile_head (p : UInt8 → Bool) : ∀ (l : Bs), headIs p (l.dropWhile p) = false
 | [] => rfl
 | b :: l => by
  by_cases h : p b = true
  ·rw [List.dropWhile_cons_of_pos h]; exact dropWhile_head p l
  ·rw [List.dropWhile_cons_of_neg h]; simpa [headIs] using h
theorem take_run {p : UInt8 → Bool} : ∀ {s r : Bs}, s.all p = true → headIs p r = false → (s ++ r).takeWhile p = s ∧ (s ++ r).dropWhile p = r
 | [], [], _, _ => ⟨rfl, rfl⟩
 | [], b :: r, _, h => by
  have : ¬ p b = true := by simpa [headIs] using h
  exact ⟨List.takeWhile_cons_of_neg this, List.dropWhile_cons_of_neg this⟩
 | b :: s, r, hs, h => by
  simp only [List.all_cons, Bool.and_eq_true] at hs
  obtain ⟨h1, h2⟩ := take_run hs.2 h
  rw [List.cons_append, List.takeWhile_cons_of_pos hs.1, List.dropWhile_cons_of_pos hs.1, h1, h2]
  exact ⟨rfl, rfl⟩
def isSym (s : Bs) : Bool := match s with
 | [b] => b.toNat == 60 || b.toNat == 62 || singles.contains b.toNat
 | [b, c] => b.toNat == 60 && (c.toNat == 62 || c.toNat == 61) || b.toNat == 62 && c.toNat == 61
 | _ => false
def Tk.ok : Tk → Bool
 | .word s => headIs lowerB s && s.all wordB && decide (s.length ≤ 24)
 | .num s => headIs digitB s && s.all digitB && decide (s.length ≤ 16)
 | .text s => s.all textB && decide (s.length ≤ 200)
 | .sym s => isSym s
 | .fin => false
def Tk.fol : Tk → Bs → Bool
 | .word _, r => !headIs wordB r
 | .num _, r => !headIs digitB r && !headIs lowerB r
 | .sym [b], r => if b.toNat = 60 then !headIs (fun c => c.toNat == 62 || c.toNat == 61) r else if b.toNat = 62 then !headIs (fun c => c.toNat == 61) r else true
 | _, _ => true
theorem lower_wordB {b : UInt8} (h : lowerB b = true) : wordB b = true := by simp [wordB, h]
theorem lexOne_src {t : Tk} {r : Bs} (h : t.ok = true) (hf : t.fol r = true) : ∃ b l, t.src ++ r = b :: l ∧ lexOne b l = .ok t r ∧ skipB false (b :: l) = b :: l := by
 have nb : ∀ {b : UInt8} {l : Bs}, (33 ≤ b.toNat ∧ b.toNat ≠ 35) → skipB false (b :: l) = b :: l := by
  intro b l hb
  unfold skipB
  have : blankB b = false := by simp [blankB]; omega
  rw [this, if_neg (by simp), if_neg hb.2]
 cases t with
 | fin => cases h
 | word s =>
  simp only [Tk.ok, Bool.and_eq_true, decide_eq_true_eq] at h
  obtain ⟨⟨h1, h2⟩, h3⟩ := h
  match s, h1, h2, h3 with
  | b :: s, h1, h2, h3 =>
   have hb : lowerB b = true := h1
   simp only [Tk.fol, Bool.not_eq_true'] at hf
   obtain ⟨e1, e2⟩ := take_run (p := wordB) (s := b :: s) (r := r) h2 hf
   refine ⟨b, s ++ r, rfl, ?_, nb (by simp [lowerB] at hb; omega)⟩
   unfold lexOne
   rw [if_pos hb]
   unfold lexWord
   rw [← List.cons_append, e1, e2, if_neg (by omega)]
 | num s =>
  simp only [Tk.ok, Bool.and_eq_true, decide_eq_true_eq] at h
  obtain ⟨⟨h1, h2⟩, h3⟩ := h
  match s, h1, h2, h3 with
  | b :: s, h1, h2, h3 =>
   have hb : digitB b = true := h1
   have hl : lowerB b = false := by simp [lowerB, digitB] at hb ⊢; omega
   simp only [Tk.fol, Bool.and_eq_true, Bool.not_eq_true'] at hf
   obtain ⟨e1, e2⟩ := take_run (p := digitB) (s := b :: s) (r := r) h2 hf.1
   refine ⟨b, s ++ r, rfl, ?_, nb (by simp [digitB] at hb; omega)⟩
   unfold lexOne
   rw [if_neg (by simp [hl]), if_pos hb]
   unfold lexNum
   rw [← List.cons_append, e1, e2, if_neg (by omega), hf.2, if_neg (by simp)]
 | text s =>
  simp only [Tk.ok, Bool.and_eq_true, decide_eq_true_eq] at h
  obtain ⟨h2, h3⟩ := h
  obtain ⟨e1, e2⟩ := take_run (p := textB) (s := s) (r := 34 :: r) h2 rfl
  refine ⟨34, s ++ 34 :: r, by simp [Tk.src], ?_, nb (by decide)⟩
  unfold lexOne
  rw [if_neg (by decide), if_neg (by decide), if_pos (by decide)]
  unfold lexText
  rw [e1, e2]
  simp only
  rw [if_pos (by decide), if_neg (by omega)]
 | sym s =>
  simp only [Tk.ok] at h
  unfold isSym at h
  have ns : ∀ b : UInt8, (b.toNat = 60 ∨ b.toNat = 62 ∨ b.toNat ∈ singles) → lowerB b = false ∧ digitB b = false ∧ ¬ b.toNat = 34 ∧ 33 ≤ b.toNat ∧ b.toNat ≠ 35 := by
   intro b hb
   simp only [singles, List.mem_cons, List.not_mem_nil, or_false] at hb
   simp only [lowerB, digitB]
   rcases hb with hb | hb | hb | hb | hb | hb | hb | hb | hb | hb | hb | hb | hb <;> rw [hb] <;> decide
  split at h
  ·rename_i b
   have hb : b.toNat = 60 ∨ b.toNat = 62 ∨ b.toNat ∈ singles := by
    simp only [Bool.or_eq_true, beq_iff_eq, List.contains_iff_mem] at h
    rcases h with (h | h) | h
    ·exact .inl h
    ·exact .inr (.inl h)
    ·exact .inr (.inr h)
   obtain ⟨q1, q2, q3, q4, q5⟩ := ns b hb
   refine ⟨b, r, rfl, ?_, nb ⟨q4, q5⟩⟩
   unfold lexOne
   rw [if_neg (by simp [q1]), if_neg (by simp [q2]), if_neg q3]
   unfold lexSym
   simp only [Tk.fol] at hf
   by_cases h60 : b.toNat = 60
   ·rw [if_pos h60] at hf ⊢
    cases r with
    | nil => rfl
    | cons c r =>
     simp only [headIs, Bool.not_eq_true', Bool.or_eq_false_iff, beq_eq_false_iff_ne] at hf
     simp only
     rw [if_neg (by omega)]
   ·rw [if_neg h60] at hf ⊢
    by_cases h62 : b.toNat = 62
    ·rw [if_pos h62] at hf ⊢
     cases r with
     | nil => rfl
     | cons c r =>
      simp only [headIs, Bool.not_eq_true', beq_eq_false_iff_ne] at hf
      simp only
      rw [if_neg hf]
    ·rw [if_neg h62]
     rw [if_pos (by rcases hb with hb | hb | hb <;> first | exact absurd hb h60 | exact absurd hb h62 | exact hb)]
  ·rename_i b c
   have hbc : b.toNat = 60 ∧ (c.toNat = 62 ∨ c.toNat = 61) ∨ b.toNat = 62 ∧ c.toNat = 61 := by simpa using h
   obtain ⟨q1, q2, q3, q4, q5⟩ := ns b (by rcases hbc with h | h <;> simp [h.1])
   refine ⟨b, c :: r, rfl, ?_, nb ⟨q4, q5⟩⟩
   unfold lexOne
   rw [if_neg (by simp [q1]), if_neg (by simp [q2]), if_neg q3]
   unfold lexSym
   rcases hbc with ⟨h1, h2⟩ | ⟨h1, h2⟩
   ·rw [if_pos h1]; simp only; rw [if_pos h2]
   ·rw [if_neg (by omega), if_pos h1]; simp only; rw [if_pos h2]
  ·cases h
theorem lexOne_ok {b : UInt8} {l r : Bs} {t : Tk} (h : lexOne b l = .ok t r) : t.ok = true ∧ t.fol r = true ∧ b :: l = t.src ++ r := by
 unfold lexOne at h
 split at h
 ·rename_i hb
  unfold lexWord at h
  split at h
  ·cases h
  ·rename_i hl
   cases h
   refine ⟨?_, ?_, (takeDrop wordB (b :: l)).symm⟩
   ·have : headIs lowerB ((b :: l).takeWhile wordB) = true := by rw [List.takeWhile_cons_of_pos (lower_wordB hb)]; exact hb
    simp only [Tk.ok, this, takeWhile_all, Bool.true_and, decide_eq_true_eq]
    omega
   ·simp only [Tk.fol, dropWhile_head]; rfl
 ·split at h
  ·rename_i hb
   unfold lexNum at h
   split at h
   ·cases h
   ·split at h
    ·cases h
    ·rename_i hl hh
     cases h
     refine ⟨?_, ?_, (takeDrop digitB (b :: l)).symm⟩
     ·have : headIs digitB ((b :: l).takeWhile digitB) = true := by rw [List.takeWhile_cons_of_pos hb]; exact hb
      simp only [Tk.ok, this, takeWhile_all, Bool.true_and, decide_eq_true_eq]
      omega
     ·have hh : headIs lowerB ((b :: l).dropWhile digitB) = false := by simpa using hh
      simp only [Tk.fol, dropWhile_head, hh]; rfl
  ·split at h
   ·rename_i hb
    unfold lexText at h
    split at h
    ·cases h
    ·rename_i c r' hd
     split at h
     ·rename_i hc
      split at h
      ·cases h
      ·rename_i hl
       cases h
       refine ⟨?_, rfl, ?_⟩
       ·simp only [Tk.ok, takeWhile_all, Bool.true_and, decide_eq_true_eq]; omega
       ·have e1 : b = 34 := UInt8.toNat_inj.1 (by rw [hb]; rfl)
        have e2 : c = 34 := UInt8.toNat_inj.1 (by rw [hc]; rfl)
        have := takeDrop textB l
        rw [hd, e2] at this
        rw [e1, ← this]
        simp [Tk.src, this]
     ·cases h
   ·rename_i hnl hnd hnq
    unfold lexSym at h
    split at h
    ·rename_i h60
     cases l with
     | nil => cases h; refine ⟨by simp [Tk.ok, isSym, h60], by simp [Tk.fol, h60, headIs], rfl⟩
     | cons c r' =>
      simp only at h
      split at h
      ·rename_i hc; cases h; exact ⟨by simpa [Tk.ok, isSym, h60] using hc, rfl, rfl⟩
      ·rename_i hc; cases h; refine ⟨by simp [Tk.ok, isSym, h60], ?_, rfl⟩
       have : ¬ c.toNat = 62 ∧ ¬ c.toNat = 61 := by omega
       simp [Tk.fol, h60, headIs, this]
    ·rename_i h60
     split at h
     ·rename_i h62
      cases l with
      | nil => cases h; refine ⟨by simp [Tk.ok, isSym, h62], by simp [Tk.fol, h62, headIs], rfl⟩
      | cons c r' =>
       simp only at h
       split at h
       ·rename_i hc; cases h; exact ⟨by simp [Tk.ok, isSym, h62, hc], rfl, rfl⟩
       ·rename_i hc; cases h; refine ⟨by simp [Tk.ok, isSym, h62], by simp [Tk.fol, h62, headIs, hc], rfl⟩
     ·rename_i h62
      split at h
      ·rename_i hs; cases h; exact ⟨by simp [Tk.ok, isSym, hs], by simp [Tk.fol, h60, h62], rfl⟩
      ·cases h
theorem src_ne {t : Tk} (h : t.ok = true) : t.src ≠ [] := by
 cases t with
 | fin => cases h
 | word s => cases s with | nil => simp [Tk.ok, headIs] at h | cons => simp [Tk.src, Tk.str]
 | num s => cases s with | nil => simp [Tk.ok, headIs] at h | cons => simp [Tk.src, Tk.str]
 | text s => simp [Tk.src]
 | sym s => cases s with | nil => simp [Tk.ok, isSym] at h | cons => simp [Tk.src, Tk.str]
theorem lexOne_le {b : UInt8} {l r : Bs} {t : Tk} (h : lexOne b l = .ok t r) : r.length ≤ l.length := by
 obtain ⟨h1, _, h3⟩ := lexOne_ok h
 have h4 := congrArg List.length h3
 have h5 := List.length_pos_iff.2 (src_ne h1)
 simp at h4
 omega
theorem scanF_enough : ∀ (n m : Nat) (l : Bs), l.length < n → l.length < m → scanF n l = scanF m l
 | 0, _, _, h, _ => by omega
 | _ + 1, 0, _, _, h => by omega
 | n + 1, m + 1, l, hn, hm => by
  unfold scanF
  have hs := skipB_le false l
  split
  ·rfl
  ·rename_i b r hsk
   rw [hsk] at hs
   split
   ·rfl
   ·rename_i t r' ho
    have := lexOne_le ho
    simp at hs
    rw [scanF_enough n m r' (by omega) (by omega)]
theorem scan_ok {l r r' : Bs} {b : UInt8} {t : Tk} (h : skipB false l = b :: r) (ho : lexOne b r = .ok t r') : scan l = SR.cons (t, r.length + 1) (scan r') := by
 have h1 := skipB_le false l
 have h2 := lexOne_le ho
 rw [h] at h1
 simp at h1
 unfold scan
 rw [scanF]
 rw [h]
 simp only
 rw [ho]
 simp only
 rw [scanF_enough l.length (r'.length + 1) r' (by omega) (by omega)]
theorem scan_src {t : Tk} {r : Bs} (h : t.ok = true) (hf : t.fol r = true) : scan (t.src ++ r) = SR.cons (t, t.src.length + r.length) (scan r) := by
 obtain ⟨b, l, h1, h2, h3⟩ := lexOne_src h hf
 rw [h1, scan_ok h3 h2]
 have := congrArg List.length h1
 simp at this
 rw [this]
inductive Toks : List (Tk × Nat) → Prop
 | fin : Toks [(.fin, 0)]
 | cons (t : Tk) (k : Nat) (ts : List (Tk × Nat)) : t.ok = true → Toks ts → Toks ((t, k) :: ts)
def joinT (k : Nat) : List (Tk × Nat) → List (Tk × Nat) → List (Tk × Nat)
 | [], us => us
 | [_], us => us
 | (t, r) :: x :: ts, us => (t, r + k) :: joinT k (x :: ts) us
end Go.Pu
namespace Go.Pu
inductive PE where
 | mk (op num : Int) (text : Bs) (args : List PE)
def two (op : Int) (a b : PE) : PE := .mk op 0 [] [a, b]
def neg (a : PE) : PE := .mk 4 0 [] [a]
inductive PR (α : Type) where
 | ok (a : α) (ts : List Tk)
 | err (rem : Nat) (e : Nat)
def bindO {α β : Type} (x : Option (PR α)) (f : α → List Tk → Option (PR β)) : Option (PR β) := match x with
 | none => none
 | some (.ok a r) => f a r
 | some (.err k e) => some (.err k e)
def failT {α : Type} (ts : List Tk) (e : Nat) : PR α := .err ts.length e
def kOr : Bs := [111, 114]
def kAnd : Bs := [97, 110, 100]
def kNot : Bs := [110, 111, 116]
def isWord (s : Bs) : List Tk → Bool
 | .word w :: _ => w == s
 | _ => false
def isSymT (s : Bs) : List Tk → Bool
 | .sym w :: _ => w == s
 | _ => false
def chainOp : Nat → List Tk → Option Int
 | 1, ts => if isWord kOr ts then some 6 else none
 | 2, ts => if isWord kAnd ts then some 5 else none
 | 5, ts => if isSymT [43] ts then some 11 else if isSymT [45] ts then some 12 else none
 | 6, ts => if isSymT [42] ts then some 13 else if isSymT [47] ts then some 14 else if isSymT [37] ts then some 15 else none
 | _, _ => none
def cmpOp (ts : List Tk) : Option (Int × Bool) :=
 if isSymT [61] ts then some (7, false) else if isSymT [60, 62] ts then some (8, false) else if isSymT [60] ts then some (9, false)
 else if isSymT [60, 61] ts then some (10, false) else if isSymT [62] ts then some (9, true) else if isSymT [62, 61] ts then some (10, true) else none
def attrs : List Bs := [[107, 105, 110, 100], [117, 110, 105, 116, 115], [119, 101, 101, 107, 100, 97, 121], [109, 105, 110, 117, 116, 101], [116, 111, 116, 97, 108], [115, 112, 101, 110, 116], [122, 111, 110, 101], [98, 97, 110, 100], [102, 97, 109, 105, 108, 121]]
def isAttr (s : Bs) : Bool := attrs.contains s
def numB (d : Bs) : Bool := !(decide (1 < d.length) && headIs (fun c => c.toNat == 48) d)
def numberT : List Tk → PR Int
 | .num d :: r => if numB d then .ok (value d) r else failT (.num d :: r) 1
 | ts => failT ts 1
def nameT : List Tk → PR Bs
 | .word w :: r => if isKw w then failT (.word w :: r) 1 else .ok w r
 | ts => failT ts 1
mutual
def pE : Nat → Nat → List Tk → Option (PR PE)
 | 0, _, _ => none
 | n + 1, L, ts =>
  if L = 3 then (if isWord kNot ts then bindO (pE n 3 ts.tail) fun a r => some (.ok (neg a) r) else pE n 4 ts)
  else if L = 4 then bindO (pE n 5 ts) fun a r => (match cmpOp r with
   | none => some (.ok a r)
   | some (op, turned) => bindO (pE n 5 r.tail) fun b r' => some (.ok (if turned then two op b a else two op a b) r'))
  else if L = 7 then (match ts with
   | .num d :: r => if numB d then some (.ok (.mk 1 (value d) [] []) r) else some (failT ts 1)
   | .text s :: r => some (.ok (.mk 2 0 s []) r)
   | .word w :: r => if isAttr w then some (.ok (.mk 3 0 w []) r) else if isKw w then some (failT ts 1) else some (.ok (.mk 3 0 w []) r)
   | _ => if isSymT [40] ts then bindO (pE n 1 ts.tail) fun a r => (if isSymT [41] r then some (.ok a r.tail) else some (failT r 1)) else some (failT ts 1))
  else bindO (pE n (L + 1) ts) fun a r => pL n L a r
def pL : Nat → Nat → PE → List Tk → Option (PR PE)
 | 0, _, _, _ => none
 | n + 1, L, a, ts => match chainOp L ts with
  | none => some (.ok a ts)
  | some op => bindO (pE n (L + 1) ts.tail) fun b r => pL n L (two op a b) r
end
theorem bindO_some {α β : Type} {x : Option (PR α)} {f : α → List Tk → Option (PR β)} {r : PR β} (h : bindO x f = some r) : (∃ a ts, x = some (.ok a ts) ∧ f a ts = some r) ∨ (∃ k e, x = some (.err k e) ∧ r = .err k e) := by
 cases x with
 | none => cases h
 | some q =>
  cases q with
  | ok a ts => exact .inl ⟨a, ts, rfl, h⟩
  | err k e => simp only [bindO, Option.some.injEq] at h; exact .inr ⟨k, e, rfl, h.symm⟩
theorem bindO_ok {α β : Type} {a : α} {ts : List Tk} {f : α → List Tk → Option (PR β)} : bindO (some (.ok a ts)) f = f a ts := rfl
theorem bindO_mono {α β : Type} {x x' : Option (PR α)} {f f' : α → List Tk → Option (PR β)} {r : PR β} (h : bindO x f = some r) (hx : ∀ q, x = some q → x' = some q) (hf : ∀ a ts q, f a ts = some q → f' a ts = some q) : bindO x' f' = some r := by
 rcases bindO_some h with ⟨a, ts, h1, h2⟩ | ⟨k, e, h1, h2⟩
 ·rw [hx _ h1]; exact hf _ _ _ h2
 ·rw [hx _ h1, h2]; rfl
theorem pE_succ (n L : Nat) (ts : List Tk) : pE (n + 1) L ts =
  if L = 3 then (if isWord kNot ts then bindO (pE n 3 ts.tail) fun a r => some (.ok (neg a) r) else pE n 4 ts)
  else if L = 4 then bindO (pE n 5 ts) fun a r => (match cmpOp r with
   | none => some (.ok a r)
   | some (op, turned) => bindO (pE n 5 r.tail) fun b r' => some (.ok (if turned then two op b a else two op a b) r'))
  else if L = 7 then (match ts with
   | .num d :: r => if numB d then some (.ok (.mk 1 (value d) [] []) r) else some (failT ts 1)
   | .text s :: r => some (.ok (.mk 2 0 s []) r)
   | .word w :: r => if isAttr w then some (.ok (.mk 3 0 w []) r) else if isKw w then some (failT ts 1) else some (.ok (.mk 3 0 w []) r)
   | _ => if isSymT [40] ts then bindO (pE n 1 ts.tail) fun a r => (if isSymT [41] r then some (.ok a r.tail) else some (failT r 1)) else some (failT ts 1))
  else bindO (pE n (L + 1) ts) fun a r => pL n L a r := by
 conv => lhs; unfold pE
theorem pL_succ (n L : Nat) (a : PE) (ts : List Tk) : pL (n + 1) L a ts = match chainOp L ts with
  | none => some (.ok a ts)
  | some op => bindO (pE n (L + 1) ts.tail) fun b r => pL n L (two op a b) r := by
 conv => lhs; unfold pL
theorem p_mono : ∀ n, (∀ L ts r, pE n L ts = some r → pE (n + 1) L ts = some r) ∧ (∀ L a ts r, pL n L a ts = some r → pL (n + 1) L a ts = some r) := by
 intro n
 induction n with
 | zero => exact ⟨fun L ts r h => by simp [pE] at h, fun L a ts r h => by simp [pL] at h⟩
 | succ n ih =>
  obtain ⟨i1, i2⟩ := ih
  constructor
  ·intro L ts r h
   rw [pE_succ] at h ⊢
   by_cases h3 : L = 3
   ·rw [if_pos h3] at h ⊢
    by_cases hw : isWord kNot ts = true
    ·rw [if_pos hw] at h ⊢; exact bindO_mono h (i1 _ _) (fun _ _ _ h => h)
    ·rw [if_neg hw] at h ⊢; exact i1 _ _ _ h
   ·rw [if_neg h3] at h ⊢
    by_cases h4 : L = 4
    ·rw [if_pos h4] at h ⊢
     refine bindO_mono h (i1 _ _) (fun a ts q h => ?_)
     cases hc : cmpOp ts with
     | none => rw [hc] at h; exact h
     | some o =>
      obtain ⟨op, turned⟩ := o
      rw [hc] at h
      exact bindO_mono h (i1 _ _) (fun _ _ _ h => h)
    ·rw [if_neg h4] at h ⊢
     by_cases h7 : L = 7
     ·rw [if_pos h7] at h ⊢
      have par : (if isSymT [40] ts then bindO (pE n 1 ts.tail) fun a r => (if isSymT [41] r then some (.ok a r.tail) else some (failT r 1)) else some (failT ts 1)) = some r →
        (if isSymT [40] ts then bindO (pE (n + 1) 1 ts.tail) fun a r => (if isSymT [41] r then some (.ok a r.tail) else some (failT r 1)) else some (failT ts 1)) = some r := fun h => by
       by_cases hw : isSymT [40] ts = true
       ·rw [if_pos hw] at h ⊢; exact bindO_mono h (i1 _ _) (fun _ _ _ h => h)
       ·rw [if_neg hw] at h ⊢; exact h
      cases ts with
      | nil => exact par h
      | cons t ts =>
       cases t with
       | num d => exact h
       | text d => exact h
       | word d => exact h
       | sym d => exact par h
       | fin => exact par h
     ·rw [if_neg h7] at h ⊢
      exact bindO_mono h (i1 _ _) (fun _ _ _ h => i2 _ _ _ _ h)
  ·intro L a ts r h
   rw [pL_succ] at h ⊢
   split at h
   ·exact h
   ·exact bindO_mono h (i1 _ _) (fun _ _ _ h => i2 _ _ _ _ h)
theorem pE_le {n m L : Nat} {ts : List Tk} {r : PR PE} (h : n ≤ m) (hp : pE n L ts = some r) : pE m L ts = some r := by
  induction m with
  | zero => obtain rfl : n = 0 := by omega
            exact hp
  | succ m ih =>
    by_cases hn : n = m + 1
    · subst hn; exact hp
    · exact (p_mono m).1 _ _ _ (ih (by omega))
theorem pL_le {n m L : Nat} {a : PE} {ts : List Tk} {r : PR PE} (h : n ≤ m) (hp : pL n L a ts = some r) : pL m L a ts = some r := by
  induction m with
  | zero => obtain rfl : n = 0 := by omega
            exact hp
  | succ m ih =>
    by_cases hn : n = m + 1
    · subst hn; exact hp
    · exact (p_mono m).2 _ _ _ _ (ih (by omega))
theorem pE_det {n m L : Nat} {ts : List Tk} {r r' : PR PE} (h : pE n L ts = some r) (h' : pE m L ts = some r') : r = r' := by
 have h1 := pE_le (Nat.le_max_left n m) h
 have h2 := pE_le (Nat.le_max_right n m) h'
 rw [h1] at h2
 simpa using h2
theorem isWord_cons {s : Bs} {ts : List Tk} (h : isWord s ts = true) : ts = .word s :: ts.tail := by
 cases ts with
 | nil => cases h
 | cons t ts => cases t <;> simp_all [isWord]
theorem isSymT_cons {s : Bs} {ts : List Tk} (h : isSymT s ts = true) : ts = .sym s :: ts.tail := by
 cases ts with
 | nil => cases h
 | cons t ts => cases t <;> simp_all [isSymT]
theorem isWord_len {s : Bs} {ts : List Tk} (h : isWord s ts = true) : ts.length = ts.tail.length + 1 := by
 have := isWord_cons h
 rw [this]; simp
theorem isSymT_len {s : Bs} {ts : List Tk} (h : isSymT s ts = true) : ts.length = ts.tail.length + 1 := by
 have := isSymT_cons h
 rw [this]; simp
theorem chainOp_len {L : Nat} {ts : List Tk} {op : Int} (h : chainOp L ts = some op) : ts.length = ts.tail.length + 1 := by
 unfold chainOp at h
 split at h
 ·split at h
  ·rename_i hw; exact isWord_len hw
  ·cases h
 ·split at h
  ·rename_i hw; exact isWord_len hw
  ·cases h
 ·split at h
  ·rename_i hw; exact isSymT_len hw
  ·split at h
   ·rename_i hw; exact isSymT_len hw
   ·cases h
 ·split at h
  ·rename_i hw; exact isSymT_len hw
  ·split at h
   ·rename_i hw; exact isSymT_len hw
   ·split at h
    ·rename_i hw; exact isSymT_len hw
    ·cases h
 ·cases h
theorem cmpOp_len {ts : List Tk} {o : Int × Bool} (h : cmpOp ts = some o) : ts.length = ts.tail.length + 1 := by
 unfold cmpOp at h
 repeat' (split at h; · rename_i hw; exact isSymT_len hw)
 cases h
theorem p_total : ∀ n, (∀ L ts, 1 ≤ L → L ≤ 7 → 10 * ts.length + (8 - L) ≤ n → ∃ r, pE n L ts = some r ∧ ∀ a q, r = .ok a q → q.length < ts.length) ∧
  (∀ L a ts, 1 ≤ L → L ≤ 6 → 10 * ts.length + 9 ≤ n → ∃ r, pL n L a ts = some r ∧ ∀ b q, r = .ok b q → q.length ≤ ts.length) := by
 intro n
 induction n with
 | zero => exact ⟨fun L ts h1 h2 h => by omega, fun L a ts h1 h2 h => by omega⟩
 | succ n ih =>
  obtain ⟨i1, i2⟩ := ih
  constructor
  ·intro L ts h1 h2 h
   rw [pE_succ]
   by_cases h3 : L = 3
   ·rw [if_pos h3]
    split
    ·rename_i hw
     have hl := isWord_len hw
     obtain ⟨r, e1, e2⟩ := i1 3 ts.tail (by omega) (by omega) (by omega)
     rw [e1]
     cases r with
     | ok a q => exact ⟨_, rfl, fun b q' hh => by cases hh; have := e2 a q rfl; omega⟩
     | err k e => exact ⟨_, rfl, fun b q' hh => by cases hh⟩
    ·exact i1 4 ts (by omega) (by omega) (by omega)
   ·rw [if_neg h3]
    by_cases h4 : L = 4
    ·rw [if_pos h4]
     obtain ⟨r, e1, e2⟩ := i1 5 ts (by omega) (by omega) (by omega)
     rw [e1]
     cases r with
     | err k e => exact ⟨_, rfl, fun b q' hh => by cases hh⟩
     | ok a q =>
      have hq := e2 a q rfl
      rw [bindO_ok]
      cases hc : cmpOp q with
      | none => exact ⟨_, rfl, fun b q' hh => by cases hh; exact hq⟩
      | some o =>
       obtain ⟨op, turned⟩ := o
       have hl := cmpOp_len hc
       obtain ⟨r, f1, f2⟩ := i1 5 q.tail (by omega) (by omega) (by omega)
       simp only
       rw [f1]
       cases r with
       | ok b q2 => exact ⟨_, rfl, fun b q' hh => by cases hh; have := f2 _ _ rfl; omega⟩
       | err k e => exact ⟨_, rfl, fun b q' hh => by cases hh⟩
    ·rw [if_neg h4]
     by_cases h7 : L = 7
     ·rw [if_pos h7]
      split
      ·split
       ·exact ⟨_, rfl, fun b q' hh => by cases hh; simp⟩
       ·exact ⟨_, rfl, fun b q' hh => by cases hh⟩
      ·exact ⟨_, rfl, fun b q' hh => by cases hh; simp⟩
      ·split
       ·exact ⟨_, rfl, fun b q' hh => by cases hh; simp⟩
       ·split
        ·exact ⟨_, rfl, fun b q' hh => by cases hh⟩
        ·exact ⟨_, rfl, fun b q' hh => by cases hh; simp⟩
      ·split
       ·rename_i hs
        have hl := isSymT_len hs
        obtain ⟨r, e1, e2⟩ := i1 1 ts.tail (by omega) (by omega) (by omega)
        rw [e1]
        cases r with
        | ok a q =>
         have hq := e2 a q rfl
         rw [bindO_ok]
         split
         ·rename_i hs2
          have hl2 := isSymT_len hs2
          exact ⟨_, rfl, fun b q' hh => by cases hh; omega⟩
         ·exact ⟨_, rfl, fun b q' hh => by cases hh⟩
        | err k e => exact ⟨_, rfl, fun b q' hh => by cases hh⟩
       ·exact ⟨_, rfl, fun b q' hh => by cases hh⟩
     ·rw [if_neg h7]
      obtain ⟨r, e1, e2⟩ := i1 (L + 1) ts (by omega) (by omega) (by omega)
      rw [e1]
      cases r with
      | err k e => exact ⟨_, rfl, fun b q' hh => by cases hh⟩
      | ok a q =>
       have hq := e2 a q rfl
       obtain ⟨r, f1, f2⟩ := i2 L a q (by omega) (by omega) (by omega)
       exact ⟨r, f1, fun b q' hh => by have := f2 b q' hh; omega⟩
  ·intro L a ts h1 h2 h
   rw [pL_succ]
   cases hc : chainOp L ts with
   | none => exact ⟨_, rfl, fun b q hh => by cases hh; exact Nat.le_refl _⟩
   | some op =>
    have hl := chainOp_len hc
    obtain ⟨r, e1, e2⟩ := i1 (L + 1) ts.tail (by omega) (by omega) (by omega)
    simp only
    rw [e1]
    cases r with
    | err k e => exact ⟨_, rfl, fun b q' hh => by cases hh⟩
    | ok b q =>
     have hq := e2 b q rfl
     obtain ⟨r, f1, f2⟩ := i2 L (two op a b) q (by omega) (by omega) (by omega)
     exact ⟨r, f1, fun b q' hh => by have := f2 b q' hh; omega⟩
def pExpr (ts : List Tk) : Option (PR PE) := pE (10 * ts.length + 10) 1 ts
theorem pExpr_some (ts : List Tk) : ∃ r, pExpr ts = some r ∧ ∀ a q, r = .ok a q → q.length < ts.length := by
 obtain ⟨r, h1, h2⟩ := (p_total (10 * ts.length + 10)).1 1 ts (by omega) (by omega) (by omega)
 exact ⟨r, h1, h2⟩
end Go.Pu
namespace Go.Pu
def leap (y : Int) : Bool := decide (y % 4 = 0) && (decide (y % 100 ≠ 0) || decide (y % 400 = 0))
def ylen (y : Int) : Int := if leap y then 366 else 365
def dlen (y m : Int) : Int := if m = 2 then (if leap y then 29 else 28) else if m = 4 ∨ m = 6 ∨ m = 9 ∨ m = 11 then 30 else 31
def bef (y : Int) : Int := 365 * (y - 2000) + if 2000 < y then (y - 2001) / 4 - (y - 2001) / 100 + (y - 2001) / 400 + 1 else 0
theorem bef_zero : bef 2000 = 0 := by simp [bef]
theorem bef_succ {y : Int} (h : 2000 ≤ y) : bef (y + 1) = bef y + ylen y := by
 unfold bef ylen leap
 by_cases h1 : y % 4 = 0 <;> by_cases h2 : y % 100 = 0 <;> by_cases h3 : y % 400 = 0 <;> simp [h1, h2, h3] <;> split <;> split <;> omega
theorem bef_end : bef 2400 = 146097 := by simp [bef]
theorem dlen_lo (y m : Int) : 28 ≤ dlen y m := by unfold dlen; repeat' split
                                                  all_goals omega
theorem dlen_hi (y m : Int) : dlen y m ≤ 31 := by unfold dlen; repeat' split
                                                  all_goals omega
theorem ylen_lo (y : Int) : 365 ≤ ylen y := by unfold ylen; split <;> omega
theorem ylen_hi (y : Int) : ylen y ≤ 366 := by unfold ylen; split <;> omega
def mcum (y : Int) : Nat → Int
 | 0 => 0
 | m + 1 => mcum y m + dlen y (m + 1)
theorem mcum_12 (y : Int) : mcum y 12 = ylen y := by
 simp only [mcum, dlen, ylen]
 by_cases h : leap y = true <;> simp [h]
theorem mcum_mono (y : Int) {a b : Nat} (h : a ≤ b) : mcum y a + 28 * (b - a) ≤ mcum y b := by
 induction h with
 | refl => omega
 | step _ ih => simp only [mcum]; have := dlen_lo y (Nat.cast (R := Int) ‹Nat› + 1); omega
theorem bef_mono {a : Int} (h : 2000 ≤ a) : ∀ n : Nat, bef a + 365 * n ≤ bef (a + n)
 | 0 => by simp
 | n + 1 => by
  have := bef_mono h n
  have h2 := bef_succ (y := a + n) (by omega)
  have := ylen_lo (a + n)
  have e : a + ((n + 1 : Nat) : Int) = a + n + 1 := by omega
  rw [e]
  omega
theorem bef_le {a b : Int} (h : 2000 ≤ a) (hab : a ≤ b) : bef a ≤ bef b := by
 obtain ⟨n, rfl⟩ := Int.le.dest hab
 have := bef_mono h n
 omega
structure IsDate (day y m d : Int) : Prop where
 y1 : 2000 ≤ y
 y2 : y ≤ 2399
 m1 : 1 ≤ m
 m2 : m ≤ 12
 d1 : 1 ≤ d
 d2 : d ≤ dlen y m
 eq : day = bef y + mcum y (m - 1).toNat + d - 1
theorem mcum_nonneg (y : Int) (m : Nat) : 0 ≤ mcum y m := by have := mcum_mono y (Nat.zero_le m); simp only [mcum] at this; omega
theorem mcum_succ {y m : Int} (h : 1 ≤ m) : mcum y m.toNat = mcum y (m - 1).toNat + dlen y m := by
 have e : m.toNat = (m - 1).toNat + 1 := by omega
 rw [e, mcum]
 congr 2
 omega
theorem mcum_le12 {y : Int} {m : Nat} (h : m ≤ 12) : mcum y m ≤ ylen y := by
 rw [← mcum_12]
 have := mcum_mono y h
 omega
theorem IsDate.year {day y m d : Int} (h : IsDate day y m d) : bef y ≤ day ∧ day < bef (y + 1) := by
 have h1 := mcum_nonneg y (m - 1).toNat
 have h2 := mcum_succ (y := y) h.m1
 have h3 := mcum_le12 (y := y) (m := m.toNat) (by have := h.m2; omega)
 have h4 := bef_succ h.y1
 have := h.eq; have := h.d1; have := h.d2
 omega
theorem IsDate.lo {day y m d : Int} (h : IsDate day y m d) : 0 ≤ day := by
 have := h.year.1
 have := bef_le (a := 2000) (b := y) (by omega) h.y1
 rw [bef_zero] at this
 omega
theorem IsDate.hi {day y m d : Int} (h : IsDate day y m d) : day < 146097 := by
 have h1 := h.year.2
 have := bef_le (a := y + 1) (b := 2400) (by have := h.y1; omega) (by have := h.y2; omega)
 rw [bef_end] at this
 omega
theorem exists_year {day : Int} (h0 : 0 ≤ day) : ∀ n : Nat, day < bef (2000 + n) → ∃ y : Int, 2000 ≤ y ∧ y < 2000 + n ∧ bef y ≤ day ∧ day < bef (y + 1)
 | 0, h => by rw [show (2000 : Int) + (0 : Nat) = 2000 by omega, bef_zero] at h; omega
 | n + 1, h => by
  by_cases hn : day < bef (2000 + n)
  ·obtain ⟨y, h1, h2, h3⟩ := exists_year h0 n hn
   exact ⟨y, h1, by omega, h3⟩
  ·exact ⟨2000 + n, by omega, by omega, by omega, by rw [show (2000 : Int) + n + 1 = 2000 + (n + 1 : Nat) by omega]; exact h⟩
theorem exists_month {y r : Int} (h0 : 0 ≤ r) : ∀ n : Nat, r < mcum y n → ∃ m : Nat, m < n ∧ mcum y m ≤ r ∧ r < mcum y (m + 1)
 | 0, h => by simp only [mcum] at h; omega
 | n + 1, h => by
  by_cases hn : r < mcum y n
  ·obtain ⟨m, h1, h2⟩ := exists_month h0 n hn
   exact ⟨m, by omega, h2⟩
  ·exact ⟨n, by omega, by omega, h⟩
theorem exists_date {day : Int} (h0 : 0 ≤ day) (h1 : day < 146097) : ∃ y m d, IsDate day y m d := by
 obtain ⟨y, a1, a2, a3, a4⟩ := exists_year h0 400 (by rw [show (2000 : Int) + (400 : Nat) = 2400 by omega, bef_end]; exact h1)
 have hy := bef_succ a1
 obtain ⟨m, b1, b2, b3⟩ := exists_month (y := y) (r := day - bef y) (by omega) 12 (by rw [mcum_12]; omega)
 refine ⟨y, m + 1, day - bef y - mcum y m + 1, a1, by omega, by omega, by omega, by omega, ?_, ?_⟩
 ·simp only [mcum] at b3; omega
 ·have : ((m : Int) + 1 - 1).toNat = m := by omega
  rw [this]; omega
def mbeg : Nat → Int
 | 0 => 0
 | t + 1 => mbeg t + dlen (2000 + (t / 12 : Nat)) ((t % 12 : Nat) + 1)
end Go.Pu
namespace Go.Pu
theorem bef_hi : ∀ n : Nat, bef (2000 + n) ≤ 366 * n
 | 0 => by simp [bef]
 | n + 1 => by
  have h := bef_hi n
  have h2 := bef_succ (y := 2000 + (n : Int)) (by omega)
  have h3 := ylen_hi (2000 + (n : Int))
  have e : (2000 : Int) + ((n + 1 : Nat) : Int) = 2000 + (n : Int) + 1 := by omega
  rw [e]
  omega
theorem bef_lo0 {y : Int} (h : 2000 ≤ y) : 0 ≤ bef y := by
 have := bef_le (a := 2000) (b := y) (by omega) h
 rw [bef_zero] at this
 exact this
theorem bef_hi' {y : Int} (h : 2000 ≤ y) (h' : y ≤ 2400) : bef y ≤ 146097 := by
 have := bef_le (a := y) (b := 2400) h h'
 rw [bef_end] at this
 exact this
theorem IsDate.first {day y m d : Int} (h : IsDate day y m d) : 2000 + day / 366 ≤ y := by
 have h1 := h.year.2
 obtain ⟨n, hn⟩ : ∃ n : Nat, y + 1 = 2000 + n := ⟨(y + 1 - 2000).toNat, by have := h.y1; omega⟩
 have h2 := bef_hi n
 rw [← hn] at h2
 omega
theorem mcum_hi {y : Int} {m : Nat} (h : m ≤ 12) : mcum y m ≤ 366 := by
 have := mcum_le12 (y := y) h
 have := ylen_hi y
 omega
end Go.Pu
namespace Go.Pu
def digs : Nat → Nat → List UInt8
 | _, 0 => []
 | n, k + 1 => digs (n / 10) k ++ [UInt8.ofNat (48 + n % 10)]
theorem digs_length : ∀ (k n : Nat), (digs n k).length = k
 | 0, _ => rfl
 | k + 1, n => by simp [digs, digs_length k]
def numD : Nat → List UInt8 → Option Nat
 | v, [] => some v
 | v, x :: xs => if x.toNat < 48 ∨ 57 < x.toNat then none else numD (10 * v + (x.toNat - 48)) xs
end Go.Pu
namespace Go.Pu
def bindP {α β : Type} (x : PR α) (f : α → List Tk → PR β) : PR β := match x with
 | .ok a r => f a r
 | .err k e => .err k e
@[simp] theorem bindP_ok {α β : Type} {a : α} {ts : List Tk} {f : α → List Tk → PR β} : bindP (.ok a ts) f = f a ts := rfl
@[simp] theorem bindP_err {α β : Type} {k e : Nat} {f : α → List Tk → PR β} : bindP (.err k e) f = .err k e := rfl
def ends : List Tk → Bool
 | [] => false
 | [t] => t == .fin
 | t :: r => !(t == .fin) && ends r
def needW (s : Bs) (ts : List Tk) : PR Unit := if isWord s ts then .ok () ts.tail else failT ts 1
def needS (s : Bs) (ts : List Tk) : PR Unit := if isSymT s ts then .ok () ts.tail else failT ts 1
def endT (ts : List Tk) : PR Unit := match ts with
 | .fin :: _ => .ok () ts
 | _ => failT ts 1
def kAny : Bs := [97, 110, 121]
def nameOrAny (ts : List Tk) : PR Bs := if isWord kAny ts then .ok [] ts.tail else nameT ts
def digitsT : List Tk → PR Bs
 | .num d :: r => .ok d r
 | ts => failT ts 1
def fixedT (size : Nat) (most : Int) : List Tk → PR Int
 | .num d :: r => if d.length = size ∧ (value d : Int) ≤ most then .ok (value d) r else failT (.num d :: r) 1
 | ts => failT ts 1
def isNum : List Tk → Bool
 | .num _ :: _ => true
 | _ => false
def exprT (ts : List Tk) : PR PE := match pExpr ts with
 | some r => r
 | none => .err 0 0
theorem exprT_eq (ts : List Tk) : pExpr ts = some (exprT ts) := by
 obtain ⟨r, h, _⟩ := pExpr_some ts
 unfold exprT
 rw [h]
def manyT {α : Type} (hd : List Tk → Bool) (item : List Tk → PR α) : Nat → List α → List Tk → PR (List α)
 | 0, acc, ts => .ok acc ts
 | n + 1, acc, ts => if hd ts then bindP (item ts.tail) fun a r => manyT hd item n (acc ++ [a]) r else .ok acc ts
def sepT {α : Type} (item : List Tk → PR α) (ts : List Tk) : PR (List α) :=
 bindP (item ts) fun a r => manyT (isSymT [44]) item r.length [a] r
def lenQ (y m : Int) : Int := if y < 2000 ∨ 2399 < y ∨ m < 1 ∨ 12 < m then 0 else dlen y m
def dayQ (y m d : Int) : Option Int := if d < 1 ∨ lenQ y m < d then none else some (bef y + mcum y (m - 1).toNat + d - 1)
def dateT (ts : List Tk) : PR Int :=
 bindP (fixedT 4 9999 ts) fun y r => bindP (needS [45] r) fun _ r => bindP (fixedT 2 99 r) fun m r => bindP (needS [45] r) fun _ r => bindP (fixedT 2 99 r) fun d r =>
 match dayQ y m d with
 | some n => .ok (n * 86400) r
 | none => failT ts 15
def clockN (ts : List Tk) : PR Int :=
 bindP (fixedT 2 23 ts) fun h r => bindP (needS [58] r) fun _ r => bindP (fixedT 2 59 r) fun m r => bindP (needS [58] r) fun _ r => bindP (fixedT 2 59 r) fun s r => .ok (3600 * h + 60 * m + s) r
def clockT (ts : List Tk) : PR Int := if isNum ts then clockN ts else .ok 0 ts
def timeT (most : Int) (ts : List Tk) : PR Int :=
 bindP (fixedT 2 most ts) fun h r => bindP (needS [58] r) fun _ r => bindP (fixedT 2 (if h = 24 then 0 else 59) r) fun m r => .ok (60 * h + m) r
structure ZoneP where
 name : Bs
 pref : List Bs
structure SlotP where
 days : Int
 lo : Int
 hi : Int
structure BandP where
 name : Bs
 slots : List SlotP
structure StepP where
 upto : Int
 quant : Int
 price : Int
structure RateP where
 kind : Int
 zone : Bs
 band : Bs
 setup : Int
 steps : List StepP
structure DiscP where
 name : Bs
 points : Int
 cond : PE
structure TariffP where
 name : Bs
 start : Int
 split : Bool
 zones : List ZoneP
 bands : List BandP
 rates : List RateP
 discs : List DiscP
def dayWs : List Bs := [[109, 111, 110], [116, 117, 101], [119, 101, 100], [116, 104, 117], [102, 114, 105], [115, 97, 116], [115, 117, 110], [104, 111, 108, 105, 100, 97, 121]]
def kindWs : List Bs := [[118, 111, 105, 99, 101], [116, 101, 120, 116], [100, 97, 116, 97], [99, 111, 110, 116, 101, 110, 116]]
def wplaceF (s : Bs) : List Bs → Nat → Int
 | [], _ => -1
 | w :: l, i => if w = s then i else wplaceF s l (i + 1)
def wplace (l : List Bs) (s : Bs) : Int := wplaceF s l 0
def wordT (l : List Bs) (least : Int) : List Tk → PR Int
 | .word w :: r => if wplace l w < least ∨ wplace l w < 0 then failT (.word w :: r) 1 else .ok (wplace l w) r
 | ts => failT ts 1
def daysT : Nat → Int → Int → List Tk → PR Int
 | 0, _, days, ts => .ok days ts
 | n + 1, last, days, ts => if isSymT [43] ts then bindP (wordT dayWs (last + 1) ts.tail) fun k r => daysT n k (days + 2 ^ k.toNat) r else .ok days ts
def slotT (ts : List Tk) : PR SlotP :=
 bindP (wordT dayWs 0 ts) fun k r => bindP (daysT r.length k (2 ^ k.toNat) r) fun d r => bindP (timeT 23 r) fun a r => bindP (needS [45] r) fun _ r => bindP (timeT 24 r) fun b r => .ok ⟨d, a, b⟩ r
def kOther : Bs := [111, 116, 104, 101, 114, 119, 105, 115, 101]
def zoneT (ts : List Tk) : PR ZoneP := bindP (nameT ts) fun n r => bindP (sepT digitsT r) fun l r => bindP (needS [59] r) fun _ r => .ok ⟨n, l⟩ r
def slotsT (ts : List Tk) : PR (List SlotP) := if isWord kOther ts then .ok [] ts.tail else sepT slotT ts
def bandT (ts : List Tk) : PR BandP := bindP (nameT ts) fun n r => bindP (slotsT r) fun l r => bindP (needS [59] r) fun _ r => .ok ⟨n, l⟩ r
def optN (w : Bs) (ts : List Tk) : PR Int := if isWord w ts then numberT ts.tail else .ok 0 ts
def kUpto : Bs := [117, 112, 116, 111]
def kPer : Bs := [112, 101, 114]
def kAt : Bs := [97, 116]
def tierT (ts : List Tk) : PR StepP := bindP (optN kUpto ts) fun u r => bindP (needW kPer r) fun _ r => bindP (numberT r) fun q r => bindP (needW kAt r) fun _ r => bindP (numberT r) fun p r => .ok ⟨u, q, p⟩ r
def kTo : Bs := [116, 111]
def kIn : Bs := [105, 110]
def kSetup : Bs := [115, 101, 116, 117, 112]
def rateT (ts : List Tk) : PR RateP := bindP (wordT kindWs 0 ts) fun k r => bindP (needW kTo r) fun _ r => bindP (nameOrAny r) fun z r => bindP (needW kIn r) fun _ r => bindP (nameOrAny r) fun b r =>
 bindP (optN kSetup r) fun s r => bindP (sepT tierT r) fun l r => bindP (needS [59] r) fun _ r => .ok ⟨k + 1, z, b, s, l⟩ r
def kPoints : Bs := [112, 111, 105, 110, 116, 115]
def kWhen : Bs := [119, 104, 101, 110]
def discT (ts : List Tk) : PR DiscP := bindP (nameT ts) fun n r => bindP (numberT r) fun p r => bindP (needW kPoints r) fun _ r => bindP (needW kWhen r) fun _ r => bindP (exprT r) fun e r => bindP (needS [59] r) fun _ r => .ok ⟨n, p, e⟩ r
def kTariff : Bs := [116, 97, 114, 105, 102, 102]
def kFrom : Bs := [102, 114, 111, 109]
def kSplit : Bs := [115, 112, 108, 105, 116]
def kZone : Bs := [122, 111, 110, 101]
def kBand : Bs := [98, 97, 110, 100]
def kRate : Bs := [114, 97, 116, 101]
def kDisc : Bs := [100, 105, 115, 99, 111, 117, 110, 116]
def splitT (ts : List Tk) : PR Bool := if isWord kSplit ts then .ok true ts.tail else .ok false ts
def tariffT (ts : List Tk) : PR TariffP :=
 bindP (needW kTariff ts) fun _ r => bindP (nameT r) fun n r => bindP (needW kFrom r) fun _ r => bindP (dateT r) fun d r => bindP (clockT r) fun c r => bindP (splitT r) fun s r => bindP (needS [59] r) fun _ r =>
 bindP (manyT (isWord kZone) zoneT r.length [] r) fun zs r => bindP (manyT (isWord kBand) bandT r.length [] r) fun bs r => bindP (manyT (isWord kRate) rateT r.length [] r) fun rs r => bindP (manyT (isWord kDisc) discT r.length [] r) fun ds r =>
 .ok ⟨n, d + c, s, zs, bs, rs, ds⟩ r
def allT {α : Type} (p : List Tk → PR α) (ts : List Tk) : PR α := bindP (p ts) fun a r => bindP (endT r) fun _ _ => .ok a r
end Go.Pu
namespace Go.Pu
end Go.Pu
namespace Go.Pu
theorem PE.ind {P : PE → Prop} (h : ∀ op num text args, (∀ a ∈ args, P a) → P (.mk op num text args)) : ∀ e, P e := by
 intro e
 refine PE.rec (motive_1 := P) (motive_2 := fun l => ∀ a ∈ l, P a) (fun op num text args ih => h op num text args ih) (fun a ha => by cases ha) (fun a l ha hl => ?_) e
 intro x hx
 cases hx with
 | head => exact ha
 | tail _ hx => exact hl x hx
def dg (n : Nat) : UInt8 := UInt8.ofNat (48 + n)
def decF : Nat → Nat → Bs
 | 0, _ => []
 | k + 1, n => if n < 10 then [dg n] else decF k (n / 10) ++ [dg (n % 10)]
def dec (n : Nat) : Bs := decF 20 n
theorem dg_toNat {n : Nat} (h : n < 10) : (dg n).toNat = 48 + n := by
 unfold dg
 rw [UInt8.toNat_ofNat']
 omega
theorem valF_app : ∀ (k n : Nat) (w : Bs) (b : UInt8), w.length < k → valF k n (w ++ [b]) = 10 * valF k n w + (b.toNat - 48)
 | 0, n, w, b, h => by omega
 | k + 1, n, [], b, h => by simp [valF]; cases k <;> rfl
 | k + 1, n, c :: w, b, h => by
  simp only [List.cons_append, valF]
  exact valF_app k _ w b (by simpa using h)
theorem decF_len : ∀ (k n : Nat), n < 10 ^ k → 0 < k → (decF k n).length ≤ k ∧ 1 ≤ (decF k n).length
 | 0, n, _, h => by omega
 | k + 1, n, hn, _ => by
  unfold decF
  split
  ·simp
  ·rename_i h
   have hk : 0 < k := by
    cases k with
    | zero => simp at hn; omega
    | succ k => omega
   have hd : n / 10 < 10 ^ k := by
    rw [Nat.pow_succ] at hn
    omega
   have := decF_len k (n / 10) hd hk
   simp; omega
theorem decF_fuel : ∀ (k m n : Nat), n < 10 ^ k → k ≤ m → 0 < k → decF m n = decF k n
 | 0, m, n, _, _, h => by omega
 | k + 1, 0, n, _, h, _ => by omega
 | k + 1, m + 1, n, hn, hm, _ => by
  unfold decF
  split
  ·rfl
  ·rename_i h
   have hk : 0 < k := by
    cases k with
    | zero => simp at hn; omega
    | succ k => omega
   have hd : n / 10 < 10 ^ k := by
    rw [Nat.pow_succ] at hn
    omega
   rw [decF_fuel k m (n / 10) hd (by omega) hk]
theorem decF_val : ∀ (k n : Nat), n < 10 ^ k → 0 < k → k ≤ 16 → value (decF k n) = n
 | 0, n, _, h, _ => by omega
 | k + 1, n, hn, _, hk16 => by
  unfold decF
  split
  ·rename_i h
   simp only [value, valF, dg_toNat h]; omega
  ·rename_i h
   have hk : 0 < k := by
    cases k with
    | zero => simp at hn; omega
    | succ k => omega
   have hd : n / 10 < 10 ^ k := by
    rw [Nat.pow_succ] at hn
    omega
   have hl := (decF_len k (n / 10) hd hk).1
   have ih := decF_val k (n / 10) hd hk (by omega)
   unfold value at ih ⊢
   rw [valF_app 16 0 _ _ (by omega), ih, dg_toNat (Nat.mod_lt n (by omega))]
   omega
theorem decF_head : ∀ (k n : Nat), n < 10 ^ k → 10 ≤ n → headIs (fun c => c.toNat == 48) (decF k n) = false
 | 0, n, h, h10 => by simp at h; omega
 | k + 1, n, hn, h10 => by
  unfold decF
  rw [if_neg (by omega)]
  have hd : n / 10 < 10 ^ k := by
   rw [Nat.pow_succ] at hn
   omega
  have hk : 0 < k := by
   cases k with
   | zero => simp at hn; omega
   | succ k => omega
  by_cases h : n / 10 < 10
  ·cases k with
   | zero => omega
   | succ k =>
    unfold decF
    rw [if_pos h]
    simp only [List.cons_append, headIs, dg_toNat h]
    simp; omega
  ·have ih := decF_head k (n / 10) hd (by omega)
   have hl := (decF_len k (n / 10) hd hk).2
   cases hx : decF k (n / 10) with
   | nil => rw [hx] at hl; simp at hl
   | cons c r => rw [hx] at ih; exact ih
def mostN : Nat := 9999999999999999
theorem dec16 {n : Nat} (h : n ≤ mostN) : dec n = decF 16 n := decF_fuel 16 20 n (by unfold mostN at h; omega) (by omega) (by omega)
theorem dec_val {n : Nat} (h : n ≤ mostN) : value (dec n) = n := by
 rw [dec16 h]; exact decF_val 16 n (by unfold mostN at h; omega) (by omega) (by omega)
theorem dec_len {n : Nat} (h : n ≤ mostN) : (dec n).length ≤ 16 ∧ 1 ≤ (dec n).length := by
 rw [dec16 h]; exact decF_len 16 n (by unfold mostN at h; omega) (by omega)
theorem dec_numB {n : Nat} (h : n ≤ mostN) : numB (dec n) = true := by
 unfold numB
 rw [dec16 h]
 by_cases h10 : 10 ≤ n
 ·rw [decF_head 16 n (by unfold mostN at h; omega) h10]; simp
 ·unfold decF
  rw [if_pos (by omega)]; simp
def arity (op : Int) : Int := if op = 1 ∨ op = 2 ∨ op = 3 then 0 else if op = 4 then 1 else if 4 < op ∧ op < 16 then 2 else -1
def nameOk (s : Bs) : Bool := headIs lowerB s && s.all wordB && decide (s.length ≤ 24) && !isKw s
mutual
def prb : PE → Bool
 | .mk op num text args => decide ((args.length : Int) = arity op) &&
  (if op = 1 then decide (0 ≤ num ∧ num ≤ mostN) && text.isEmpty else decide (num = 0) &&
   (if op = 2 then !(quote text).isEmpty else if op = 3 then isAttr text || nameOk text else text.isEmpty && prbs args))
def prbs : List PE → Bool
 | [] => true
 | a :: as => prb a && prbs as
end
theorem prbs_mem {as : List PE} : prbs as = true ↔ ∀ a ∈ as, prb a = true := by
 induction as with
 | nil => simp [prbs]
 | cons a as ih => simp [prbs, ih]
def strength (op : Int) : Nat := if op = 6 then 1 else if op = 5 then 2 else if op = 4 then 3 else if op = 7 ∨ op = 8 ∨ op = 9 ∨ op = 10 then 4 else if op = 11 ∨ op = 12 then 5 else if op = 13 ∨ op = 14 ∨ op = 15 then 6 else 7
def PE.op : PE → Int
 | .mk op _ _ _ => op
def PE.num : PE → Int
 | .mk _ n _ _ => n
def PE.text : PE → Bs
 | .mk _ _ t _ => t
def PE.args : PE → List PE
 | .mk _ _ _ as => as
def PE.str (e : PE) : Nat := strength e.op
def signT (op : Int) : Tk := if op = 5 then .word kAnd else if op = 6 then .word kOr else if op = 7 then .sym [61] else if op = 8 then .sym [60, 62] else if op = 9 then .sym [60] else if op = 10 then .sym [60, 61]
 else if op = 11 then .sym [43] else if op = 12 then .sym [45] else if op = 13 then .sym [42] else if op = 14 then .sym [47] else .sym [37]
def leftS (op : Int) : Nat := if strength op = 4 then 5 else strength op
def rightS (op : Int) : Nat := if strength op = 4 then 5 else strength op + 1
def parT (b : Bool) (l : List Tk) : List Tk := if b then .sym [40] :: (l ++ [.sym [41]]) else l
def parB (b : Bool) (l : Bs) : Bs := if b then 40 :: (l ++ [41]) else l
mutual
def tokE : PE → List Tk
 | .mk op num text args => if op = 1 then [.num (dec num.toNat)] else if op = 2 then [.text text] else if op = 3 then [.word text] else if op = 4 then .word kNot :: tokA 3 args else tokB op args
def tokA : Nat → List PE → List Tk
 | _, [] => []
 | k, a :: _ => parT (decide (a.str < k)) (tokE a)
def tokB : Int → List PE → List Tk
 | _, [] => []
 | op, a :: l => parT (decide (a.str < leftS op)) (tokE a) ++ signT op :: tokA (rightS op) l
end
def tokO (a : PE) (k : Nat) : List Tk := parT (decide (a.str < k)) (tokE a)
mutual
def txtE : PE → Bs
 | .mk op num text args => if op = 1 then dec num.toNat else if op = 2 then quote text else if op = 3 then text else if op = 4 then kNot ++ 32 :: txtA 3 args else txtB op args
def txtA : Nat → List PE → Bs
 | _, [] => []
 | k, a :: _ => parB (decide (a.str < k)) (txtE a)
def txtB : Int → List PE → Bs
 | _, [] => []
 | op, a :: l => parB (decide (a.str < leftS op)) (txtE a) ++ 32 :: ((signT op).src ++ 32 :: txtA (rightS op) l)
end
def txtO (a : PE) (k : Nat) : Bs := parB (decide (a.str < k)) (txtE a)
end Go.Pu
namespace Go.Pu
theorem tokE_mk (op num : Int) (text : Bs) (args : List PE) : tokE (.mk op num text args) = if op = 1 then [.num (dec num.toNat)] else if op = 2 then [.text text] else if op = 3 then [.word text] else if op = 4 then .word kNot :: tokA 3 args else tokB op args := by
 conv => lhs; unfold tokE
theorem txtE_mk (op num : Int) (text : Bs) (args : List PE) : txtE (.mk op num text args) = if op = 1 then dec num.toNat else if op = 2 then quote text else if op = 3 then text else if op = 4 then kNot ++ 32 :: txtA 3 args else txtB op args := by
 conv => lhs; unfold txtE
theorem tokA_one (k : Nat) (a : PE) : tokA k [a] = tokO a k := by simp [tokA, tokO]
theorem tokB_two (op : Int) (a b : PE) : tokB op [a, b] = tokO a (leftS op) ++ signT op :: tokO b (rightS op) := by simp [tokB, tokA, tokO]
theorem txtA_one (k : Nat) (a : PE) : txtA k [a] = txtO a k := by simp [txtA, txtO]
theorem txtB_two (op : Int) (a b : PE) : txtB op [a, b] = txtO a (leftS op) ++ 32 :: ((signT op).src ++ 32 :: txtO b (rightS op)) := by simp [txtB, txtA, txtO]
theorem prb_cases {e : PE} (h : prb e = true) :
    (∃ n : Nat, e = .mk 1 n [] [] ∧ n ≤ mostN) ∨ (∃ s, e = .mk 2 0 s [] ∧ s.all textB = true ∧ s.length ≤ 200) ∨ (∃ s, e = .mk 3 0 s [] ∧ (isAttr s = true ∨ nameOk s = true)) ∨
    (∃ a, e = neg a ∧ prb a = true) ∨ (∃ op a b, e = two op a b ∧ 4 < op ∧ op < 16 ∧ prb a = true ∧ prb b = true) := by
  obtain ⟨op, num, text, args⟩ := e
  simp only [prb, Bool.and_eq_true, decide_eq_true_eq] at h
  obtain ⟨ha, h⟩ := h
  by_cases h1 : op = 1
  · subst h1
    rw [if_pos rfl] at h
    simp only [Bool.and_eq_true, decide_eq_true_eq, List.isEmpty_iff] at h
    obtain ⟨⟨h2, h3⟩, rfl⟩ := h
    have : args = [] := by
      have : (args.length : Int) = 0 := ha
      exact List.length_eq_zero_iff.1 (by omega)
    subst this
    exact .inl ⟨num.toNat, by rw [Int.toNat_of_nonneg h2], by omega⟩
  rw [if_neg h1] at h
  simp only [Bool.and_eq_true, decide_eq_true_eq] at h
  obtain ⟨rfl, h⟩ := h
  by_cases h2 : op = 2
  · subst h2
    rw [if_pos rfl] at h
    have : args = [] := by
      have : (args.length : Int) = 0 := ha
      exact List.length_eq_zero_iff.1 (by omega)
    subst this
    refine .inr (.inl ⟨text, rfl, ?_⟩)
    unfold quote at h
    split at h
    · rename_i hq; simpa using hq
    · simp at h
  rw [if_neg h2] at h
  by_cases h3 : op = 3
  · subst h3
    rw [if_pos rfl] at h
    have : args = [] := by
      have : (args.length : Int) = 0 := ha
      exact List.length_eq_zero_iff.1 (by omega)
    subst this
    exact .inr (.inr (.inl ⟨text, rfl, by simpa using h⟩))
  rw [if_neg h3] at h
  simp only [Bool.and_eq_true, List.isEmpty_iff] at h
  obtain ⟨rfl, hp⟩ := h
  rw [prbs_mem] at hp
  by_cases h4 : op = 4
  · subst h4
    have hl : args.length = 1 := by
      have : (args.length : Int) = 1 := ha
      omega
    match args, hl with
    | [a], _ => exact .inr (.inr (.inr (.inl ⟨a, rfl, hp a (by simp)⟩)))
  · unfold arity at ha
    rw [if_neg (by omega), if_neg h4] at ha
    split at ha
    · rename_i hr
      have hl : args.length = 2 := by omega
      match args, hl with
      | [a, b], _ => exact .inr (.inr (.inr (.inr ⟨op, a, b, rfl, hr.1, hr.2, hp a (by simp), hp b (by simp)⟩)))
    · omega
theorem prb_ind {P : PE → Prop} (hn : ∀ n : Nat, n ≤ mostN → P (.mk 1 n [] [])) (ht : ∀ s, s.all textB = true → s.length ≤ 200 → P (.mk 2 0 s [])) (hw : ∀ s, isAttr s = true ∨ nameOk s = true → P (.mk 3 0 s []))
    (hneg : ∀ a, prb a = true → P a → P (neg a)) (htwo : ∀ op a b, 4 < op → op < 16 → prb a = true → prb b = true → P a → P b → P (two op a b)) : ∀ e, prb e = true → P e := by
  refine PE.ind ?_
  intro op num text args ih hp
  rcases prb_cases hp with ⟨n, he, h⟩ | ⟨s, he, h⟩ | ⟨s, he, h⟩ | ⟨a, he, h⟩ | ⟨op', a, b, he, h1, h2, h3, h4⟩
  · rw [he]; exact hn n h
  · rw [he]; exact ht s h.1 h.2
  · rw [he]; exact hw s h
  · rw [he]
    unfold neg at he
    cases he
    exact hneg a h (ih a (by simp) h)
  · rw [he]
    unfold two at he
    cases he
    exact htwo _ a b h1 h2 h3 h4 (ih a (by simp) h3) (ih b (by simp) h4)
def scanT (l : Bs) : Option (List Tk) := match scan l with
 | .ok ts => some (ts.map (·.1))
 | .err _ _ => none
theorem scanT_src {t : Tk} {r : Bs} (h : t.ok = true) (hf : t.fol r = true) : scanT (t.src ++ r) = (scanT r).map (t :: ·) := by
 unfold scanT
 rw [scan_src h hf]
 cases scan r <;> rfl
theorem attr_all : ∀ s ∈ attrs, headIs lowerB s = true ∧ s.all wordB = true ∧ s.length ≤ 24 ∧ s ≠ kNot := by decide
theorem attr_ok {s : Bs} (h : isAttr s = true) : (Tk.word s).ok = true ∧ s ≠ kNot := by
 obtain ⟨h1, h2, h3, h4⟩ := attr_all s (by simpa [isAttr] using h)
 exact ⟨by simp only [Tk.ok, h1, h2, Bool.true_and, decide_eq_true_eq]; exact h3, h4⟩
theorem name_ok {s : Bs} (h : nameOk s = true) : (Tk.word s).ok = true ∧ isKw s = false := by
 simp only [nameOk, Bool.and_eq_true, Bool.not_eq_true', decide_eq_true_eq] at h
 exact ⟨by simp only [Tk.ok, h.1.1.1, h.1.1.2, Bool.true_and, decide_eq_true_eq]; exact h.1.2, h.2⟩
theorem leaf_ok {s : Bs} (h : isAttr s = true ∨ nameOk s = true) : (Tk.word s).ok = true ∧ s ≠ kNot := by
 rcases h with h | h
 ·exact attr_ok h
 ·refine ⟨(name_ok h).1, fun e => ?_⟩
  have := (name_ok h).2
  rw [e] at this
  revert this
  decide
theorem quote_src {s : Bs} (h1 : s.all textB = true) (h2 : s.length ≤ 200) : quote s = (Tk.text s).src := by
 simp only [quote, h1, h2]; simp [Tk.src]
def free (r : Bs) : Prop := headIs wordB r = false
theorem free_word {s r : Bs} (h : free r) : (Tk.word s).fol r = true := by
 unfold free at h
 simp [Tk.fol, h]
def PEr (L : Nat) (ts : List Tk) (r : PR PE) : Prop := ∃ n, pE n L ts = some r
def PLr (L : Nat) (a : PE) (ts : List Tk) (r : PR PE) : Prop := ∃ n, pL n L a ts = some r
def stopAt (L : Nat) (ts : List Tk) : Prop := (L ≤ 4 → cmpOp ts = none) ∧ ∀ L', L ≤ L' → chainOp L' ts = none
theorem stopAt.mono {L L' : Nat} {ts : List Tk} (h : stopAt L ts) (hl : L ≤ L') : stopAt L' ts := ⟨fun h4 => h.1 (by omega), fun k hk => h.2 k (by omega)⟩
theorem PLr_stop {L : Nat} {a : PE} {ts : List Tk} (h : chainOp L ts = none) : PLr L a ts (.ok a ts) := ⟨1, by rw [pL_succ, h]⟩
theorem PLr_op {L : Nat} {a b : PE} {op : Int} {ts q : List Tk} {r : PR PE} (h : chainOp L ts = some op) (hb : PEr (L + 1) ts.tail (.ok b q)) (hr : PLr L (two op a b) q r) : PLr L a ts r := by
 obtain ⟨n, hn⟩ := hb
 obtain ⟨m, hm⟩ := hr
 refine ⟨max n m + 1, ?_⟩
 rw [pL_succ, h]
 simp only
 rw [pE_le (Nat.le_max_left n m) hn, bindO_ok]
 exact pL_le (Nat.le_max_right n m) hm
theorem PEr_chain {L : Nat} {a : PE} {ts q : List Tk} {r : PR PE} (hL : L = 1 ∨ L = 2 ∨ L = 5 ∨ L = 6) (ha : PEr (L + 1) ts (.ok a q)) (hr : PLr L a q r) : PEr L ts r := by
 obtain ⟨n, hn⟩ := ha
 obtain ⟨m, hm⟩ := hr
 refine ⟨max n m + 1, ?_⟩
 rw [pE_succ, if_neg (by omega), if_neg (by omega), if_neg (by omega), pE_le (Nat.le_max_left n m) hn, bindO_ok]
 exact pL_le (Nat.le_max_right n m) hm
theorem PEr_not {a : PE} {ts q : List Tk} (h : PEr 3 ts (.ok a q)) : PEr 3 (.word kNot :: ts) (.ok (neg a) q) := by
 obtain ⟨n, hn⟩ := h
 refine ⟨n + 1, ?_⟩
 rw [pE_succ, if_pos rfl, if_pos (by simp [isWord]), List.tail_cons, hn]
 rfl
theorem PEr_3 {ts : List Tk} {r : PR PE} (hw : isWord kNot ts = false) (h : PEr 4 ts r) : PEr 3 ts r := by
 obtain ⟨n, hn⟩ := h
 exact ⟨n + 1, by rw [pE_succ, if_pos rfl, if_neg (by simp [hw])]; exact hn⟩
theorem PEr_4n {a : PE} {ts q : List Tk} (h : PEr 5 ts (.ok a q)) (hc : cmpOp q = none) : PEr 4 ts (.ok a q) := by
 obtain ⟨n, hn⟩ := h
 exact ⟨n + 1, by rw [pE_succ, if_neg (by decide), if_pos rfl, hn, bindO_ok, hc]⟩
theorem PEr_4c {a b : PE} {ts q q' : List Tk} {op : Int} {turned : Bool} (h : PEr 5 ts (.ok a q)) (hc : cmpOp q = some (op, turned)) (hb : PEr 5 q.tail (.ok b q')) : PEr 4 ts (.ok (if turned then two op b a else two op a b) q') := by
 obtain ⟨n, hn⟩ := h
 obtain ⟨m, hm⟩ := hb
 refine ⟨max n m + 1, ?_⟩
 rw [pE_succ, if_neg (by decide), if_pos rfl, pE_le (Nat.le_max_left n m) hn, bindO_ok, hc]
 simp only
 rw [pE_le (Nat.le_max_right n m) hm]
 rfl
theorem PEr_par {a : PE} {ts q : List Tk} (h : PEr 1 ts (.ok a (.sym [41] :: q))) : PEr 7 (.sym [40] :: ts) (.ok a q) := by
 obtain ⟨n, hn⟩ := h
 refine ⟨n + 1, ?_⟩
 rw [pE_succ, if_neg (by decide), if_neg (by decide), if_pos rfl]
 simp only
 rw [if_pos (by rfl), List.tail_cons, hn, bindO_ok, if_pos (by rfl)]
 rfl
theorem lift {a : PE} {ts q : List Tk} (hw : isWord kNot ts = false) : ∀ (d L : Nat), 1 ≤ L → L + d ≤ 7 → PEr (L + d) ts (.ok a q) → stopAt L q → PEr L ts (.ok a q)
 | 0, L, _, _, h, _ => h
 | d + 1, L, h1, h7, h, hs => by
  have ih := lift hw d (L + 1) (by omega) (by omega) (by rw [show L + 1 + d = L + (d + 1) by omega]; exact h) (hs.mono (by omega))
  have hL : L = 1 ∨ L = 2 ∨ L = 3 ∨ L = 4 ∨ L = 5 ∨ L = 6 := by omega
  rcases hL with rfl | rfl | rfl | rfl | rfl | rfl
  ·exact PEr_chain (by omega) ih (PLr_stop (hs.2 1 (by omega)))
  ·exact PEr_chain (by omega) ih (PLr_stop (hs.2 2 (by omega)))
  ·exact PEr_3 hw ih
  ·exact PEr_4n ih (hs.1 (by omega))
  ·exact PEr_chain (by omega) ih (PLr_stop (hs.2 5 (by omega)))
  ·exact PEr_chain (by omega) ih (PLr_stop (hs.2 6 (by omega)))
theorem strength_range {op : Int} : 1 ≤ strength op ∧ strength op ≤ 7 := by
 unfold strength
 repeat' split
 all_goals omega
theorem stop_close (L : Nat) (q : List Tk) : stopAt L (.sym [41] :: q) := by
 refine ⟨fun _ => rfl, fun L' _ => ?_⟩
 unfold chainOp
 split <;> rfl
theorem sign_chain {op : Int} {q : List Tk} (h1 : 4 < op) (h2 : op < 16) (h4 : strength op ≠ 4) : chainOp (strength op) (signT op :: q) = some op ∧ stopAt (strength op + 1) (signT op :: q) := by
 have : op = 5 ∨ op = 6 ∨ op = 7 ∨ op = 8 ∨ op = 9 ∨ op = 10 ∨ op = 11 ∨ op = 12 ∨ op = 13 ∨ op = 14 ∨ op = 15 := by omega
 have st : ∀ (L0 : Nat) (t : Tk), (L0 ≤ 4 → cmpOp (t :: q) = none) → (L0 ≤ 1 → chainOp 1 (t :: q) = none) → (L0 ≤ 2 → chainOp 2 (t :: q) = none) → (L0 ≤ 5 → chainOp 5 (t :: q) = none) → (L0 ≤ 6 → chainOp 6 (t :: q) = none) → stopAt L0 (t :: q) := by
  intro L0 t c1 c2 c3 c4 c5
  refine ⟨c1, fun L' hL => ?_⟩
  by_cases a1 : L' = 1
  ·subst a1; exact c2 hL
  by_cases a2 : L' = 2
  ·subst a2; exact c3 hL
  by_cases a5 : L' = 5
  ·subst a5; exact c4 hL
  by_cases a6 : L' = 6
  ·subst a6; exact c5 hL
  unfold chainOp
  split <;> first | omega | rfl
 rcases this with rfl | rfl | rfl | rfl | rfl | rfl | rfl | rfl | rfl | rfl | rfl
 all_goals first
  | (exact absurd rfl h4)
  | (refine ⟨by rfl, st _ _ ?_ ?_ ?_ ?_ ?_⟩ <;> (intro hh; first | rfl | (exfalso; revert hh; decide)))
theorem sign_cmp {op : Int} {q : List Tk} (h1 : 4 < op) (h2 : op < 16) (h4 : strength op = 4) : cmpOp (signT op :: q) = some (op, false) ∧ stopAt 5 (signT op :: q) := by
  have : op = 5 ∨ op = 6 ∨ op = 7 ∨ op = 8 ∨ op = 9 ∨ op = 10 ∨ op = 11 ∨ op = 12 ∨ op = 13 ∨ op = 14 ∨ op = 15 := by omega
  rcases this with rfl | rfl | rfl | rfl | rfl | rfl | rfl | rfl | rfl | rfl | rfl
  all_goals first
    | (exfalso; revert h4; decide)
    | (refine ⟨by rfl, fun hh => by omega, fun L' hL => ?_⟩
       unfold chainOp
       split <;> first | omega | rfl)
theorem head_not : ∀ e, prb e = true → 4 ≤ e.str → ∀ r, isWord kNot (tokE e ++ r) = false := by
 refine prb_ind ?_ ?_ ?_ ?_ ?_
 ·intro n hn _ r; rw [tokE_mk]; simp [isWord]
 ·intro s _ _ _ r; rw [tokE_mk]; simp [isWord]
 ·intro s h _ r
  rw [tokE_mk]
  simpa [isWord] using (leaf_ok h).2
 ·intro a _ _ h; exact absurd (show (4 : Nat) ≤ 3 from h) (by decide)
 ·intro op a b h1 h2 ha _ iha _ hs r
  have hs : 4 ≤ strength op := hs
  have e1 : tokE (two op a b) = tokO a (leftS op) ++ signT op :: tokO b (rightS op) := by unfold two; rw [tokE_mk, if_neg (by omega), if_neg (by omega), if_neg (by omega), if_neg (by omega), tokB_two]
  rw [e1, List.append_assoc]
  unfold tokO parT
  split
  ·rfl
  ·rename_i hp
   have hp : leftS op ≤ a.str := by simpa using hp
   refine iha (Nat.le_trans ?_ hp) _
   unfold leftS
   split <;> omega
theorem parse_tok : ∀ e, prb e = true →
  (∀ S rest r, (S = 1 ∨ S = 2 ∨ S = 5 ∨ S = 6) → stopAt (S + 1) rest → PLr S e rest r → PEr S (tokO e S ++ rest) r) ∧
  (∀ L rest, 1 ≤ L → L ≤ 7 → stopAt L rest → PEr L (tokO e L ++ rest) (.ok e rest)) := by
 -- out of the natural level: the rest
 have main : ∀ e, prb e = true → (∀ rest, stopAt e.str rest → PEr e.str (tokE e ++ rest) (.ok e rest)) →
   (∀ rest r, (e.str = 1 ∨ e.str = 2 ∨ e.str = 5 ∨ e.str = 6) → stopAt (e.str + 1) rest → PLr e.str e rest r → PEr e.str (tokE e ++ rest) r) →
   (∀ S rest r, (S = 1 ∨ S = 2 ∨ S = 5 ∨ S = 6) → stopAt (S + 1) rest → PLr S e rest r → PEr S (tokO e S ++ rest) r) ∧
   (∀ L rest, 1 ≤ L → L ≤ 7 → stopAt L rest → PEr L (tokO e L ++ rest) (.ok e rest)) := by
  intro e hp hnat hch
  have hr : 1 ≤ e.str ∧ e.str ≤ 7 := strength_range
  have low : ∀ L rest, 1 ≤ L → L ≤ e.str → stopAt L rest → PEr L (tokE e ++ rest) (.ok e rest) := by
   intro L rest h1 h2 hs
   have hn := hnat rest (hs.mono h2)
   by_cases h4 : 4 ≤ e.str
   ·exact lift (head_not e hp h4 rest) (e.str - L) L h1 (by omega) (by rw [show L + (e.str - L) = e.str by omega]; exact hn) hs
   · -- levels 1 to 3
    by_cases hL : L = e.str
    ·subst hL; exact hn
    ·have h3 : e.str = 2 ∨ e.str = 3 := by omega
     have g2 : PEr 2 (tokE e ++ rest) (.ok e rest) ∨ L ≠ 1 ∧ L ≠ 2 := by
      rcases h3 with h3 | h3
      ·rw [h3] at hn; exact .inl hn
      ·rw [h3] at hn
       exact .inl (PEr_chain (by omega) hn (PLr_stop ((hs.mono (L' := 2) (by omega)).2 2 (by omega))))
     rcases g2 with g2 | g2
     ·by_cases hL2 : L = 2
      ·subst hL2; exact g2
      ·have : L = 1 := by omega
       subst this
       exact PEr_chain (by omega) g2 (PLr_stop (hs.2 1 (by omega)))
     ·omega
  have hB : ∀ L rest, 1 ≤ L → L ≤ 7 → stopAt L rest → PEr L (tokO e L ++ rest) (.ok e rest) := by
   intro L rest h1 h7 hs
   unfold tokO parT
   by_cases hlt : e.str < L
   ·simp only [hlt, decide_true, if_true, List.cons_append, List.append_assoc, List.nil_append]
    have h0 := PEr_par (low 1 (.sym [41] :: rest) (by omega) hr.1 (stop_close 1 rest))
    exact lift rfl (7 - L) L h1 (by omega) (by rw [show L + (7 - L) = 7 by omega]; exact h0) hs
   ·simp only [hlt, decide_false, Bool.false_eq_true, if_false]
    exact low L rest h1 (by omega) hs
  refine ⟨fun S rest r hS hs hpl => ?_, hB⟩
  by_cases he : e.str = S
  ·have : tokO e S = tokE e := by unfold tokO parT; simp [he]
   rw [this]
   subst he
   exact hch rest r hS hs hpl
  ·have : tokO e S = tokO e (S + 1) := by
    unfold tokO
    congr 1
    by_cases hlt : e.str < S
    ·simp [hlt, show e.str < S + 1 by omega]
    ·simp [hlt, show ¬ e.str < S + 1 by omega]
   rw [this]
   exact PEr_chain hS (hB (S + 1) rest (by omega) (by omega) hs) hpl
 refine prb_ind ?_ ?_ ?_ ?_ ?_
 ·intro n hn
  refine main _ (by simp [prb, arity, hn]) (fun rest _ => ⟨1, ?_⟩) (fun rest r h => absurd (show (7 : Nat) = 1 ∨ (7 : Nat) = 2 ∨ (7 : Nat) = 5 ∨ (7 : Nat) = 6 from h) (by decide))
  have e1 : tokE (.mk 1 n [] []) = [.num (dec n)] := by rw [tokE_mk]; simp
  rw [e1]
  show pE 1 7 _ = _
  rw [pE_succ, if_neg (by decide), if_neg (by decide), if_pos rfl]
  simp only [List.cons_append, List.nil_append]
  rw [dec_numB hn, if_pos rfl, dec_val hn]
 ·intro s h1 h2
  have hq : quote s ≠ [] := by rw [quote_src h1 h2]; simp [Tk.src]
  refine main _ (by simp [prb, arity, hq]) (fun rest _ => ⟨1, ?_⟩) (fun rest r h => absurd (show (7 : Nat) = 1 ∨ (7 : Nat) = 2 ∨ (7 : Nat) = 5 ∨ (7 : Nat) = 6 from h) (by decide))
  have e1 : tokE (.mk 2 0 s []) = [.text s] := by rw [tokE_mk]; simp
  rw [e1]
  show pE 1 7 _ = _
  rw [pE_succ, if_neg (by decide), if_neg (by decide), if_pos rfl]
  rfl
 ·intro s h
  refine main _ (by simp [prb, arity, h]) (fun rest _ => ⟨1, ?_⟩) (fun rest r h => absurd (show (7 : Nat) = 1 ∨ (7 : Nat) = 2 ∨ (7 : Nat) = 5 ∨ (7 : Nat) = 6 from h) (by decide))
  have e1 : tokE (.mk 3 0 s []) = [.word s] := by rw [tokE_mk]; simp
  rw [e1]
  show pE 1 7 _ = _
  rw [pE_succ, if_neg (by decide), if_neg (by decide), if_pos rfl]
  simp only [List.cons_append, List.nil_append]
  by_cases ha : isAttr s = true
  ·rw [if_pos ha]
  ·rw [if_neg ha]
   rcases h with h | h
   ·exact absurd h ha
   ·rw [(name_ok h).2, if_neg (by simp)]
 ·intro a ha ih
  have e1 : tokE (neg a) = .word kNot :: tokO a 3 := by unfold neg; rw [tokE_mk]; simp [tokA_one]
  refine main _ (by simp [neg, prb, arity, prbs, ha]) (fun rest hs => ?_) (fun rest r h => absurd (show (3 : Nat) = 1 ∨ (3 : Nat) = 2 ∨ (3 : Nat) = 5 ∨ (3 : Nat) = 6 from h) (by decide))
  rw [e1, List.cons_append]
  exact PEr_not (ih.2 3 rest (by omega) (by omega) hs)
 ·intro op a b h1 h2 ha hb iha ihb
  have e1 : tokE (two op a b) = tokO a (leftS op) ++ signT op :: tokO b (rightS op) := by unfold two; rw [tokE_mk, if_neg (by omega), if_neg (by omega), if_neg (by omega), if_neg (by omega), tokB_two]
  have hpr : prb (two op a b) = true := by
   have ar : arity op = 2 := by unfold arity; rw [if_neg (by omega), if_neg (by omega), if_pos (by omega)]
   simp only [two, prb, ar, if_neg (show ¬ op = 1 by omega), if_neg (show ¬ op = 2 by omega), if_neg (show ¬ op = 3 by omega), prbs, ha, hb]
   rfl
  have hstr : (two op a b).str = strength op := rfl
  have hrange := strength_range (op := op)
  by_cases h4 : strength op = 4
  ·have hl : leftS op = 5 := by unfold leftS; rw [if_pos h4]
   have hr : rightS op = 5 := by unfold rightS; rw [if_pos h4]
   refine main _ hpr (fun rest hs => ?_) (fun rest r h => by rw [hstr, h4] at h; omega)
   rw [hstr, h4] at hs ⊢
   rw [e1, hl, hr, List.append_assoc, List.cons_append]
   obtain ⟨c1, c2⟩ := sign_cmp (q := tokO b 5 ++ rest) h1 h2 h4
   exact PEr_4c (turned := false) (iha.2 5 _ (by omega) (by omega) c2) c1 (ihb.2 5 rest (by omega) (by omega) (hs.mono (by omega)))
  ·have hl : leftS op = strength op := by unfold leftS; rw [if_neg h4]
   have hr : rightS op = strength op + 1 := by unfold rightS; rw [if_neg h4]
   have hS : strength op = 1 ∨ strength op = 2 ∨ strength op = 5 ∨ strength op = 6 := by
    have : op = 5 ∨ op = 6 ∨ op = 7 ∨ op = 8 ∨ op = 9 ∨ op = 10 ∨ op = 11 ∨ op = 12 ∨ op = 13 ∨ op = 14 ∨ op = 15 := by omega
    rcases this with rfl | rfl | rfl | rfl | rfl | rfl | rfl | rfl | rfl | rfl | rfl <;> first | (exfalso; exact h4 rfl) | decide
   have hch : ∀ rest r, stopAt (strength op + 1) rest → PLr (strength op) (two op a b) rest r → PEr (strength op) (tokE (two op a b) ++ rest) r := by
    intro rest r hs hpl
    rw [e1, hl, hr, List.append_assoc, List.cons_append]
    obtain ⟨c1, c2⟩ := sign_chain (q := tokO b (strength op + 1) ++ rest) h1 h2 h4
    exact iha.1 (strength op) _ r hS c2 (PLr_op c1 (ihb.2 (strength op + 1) rest (by omega) (by omega) hs) hpl)
   refine main _ hpr (fun rest hs => ?_) (fun rest r _ hs hpl => ?_)
   ·rw [hstr] at hs ⊢
    exact hch rest _ (hs.mono (by omega)) (PLr_stop (hs.2 _ (Nat.le_refl _)))
   ·rw [hstr] at hs hpl ⊢
    exact hch rest r hs hpl
end Go.Pu
namespace Go.Pu
def okL (ts : List Tk) : Prop := ∀ t ∈ ts, t.ok = true ∨ t = .fin
theorem okL.tail {ts : List Tk} (h : okL ts) : okL ts.tail := fun u hu => h u (List.mem_of_mem_tail hu)
theorem okL.hd {t : Tk} {ts : List Tk} (h : okL (t :: ts)) (hf : t ≠ .fin) : t.ok = true := by
 rcases h t (by simp) with h | h
 ·exact h
 ·exact absurd h hf
def W (w : Tk → Nat) : List Tk → Nat
 | [] => 0
 | t :: ts => w t + W w ts
structure Wok (w : Tk → Nat) : Prop where
 num : ∀ d, (Tk.num d).ok = true → numB d = true → w (.num (dec (value d))) ≤ w (.num d)
 lt : w (.sym [60]) ≤ w (.sym [62])
 le : w (.sym [60, 61]) ≤ w (.sym [62, 61])
theorem tokO_nat {a : PE} {k : Nat} (h : k ≤ a.str) : tokO a k = tokE a := by
 unfold tokO parT
 have : ¬ a.str < k := by omega
 simp [this]
theorem str_pos (a : PE) : 1 ≤ a.str := strength_range.1
end Go.Pu
namespace Go.Pu
def gapB (g : Nat) : Bs := if g = 0 then [32] else if g = 1 then [10] else if g = 2 then [32, 9] else [32, 35, 32, 120, 32, 59, 32, 121, 10]
def gapAt (gaps : Bs) (i : Nat) : Bs := if gaps.length = 0 then [32] else gapB ((gaps[i % gaps.length]?.getD 0).toNat % 4)
def spreadB (gaps : Bs) : Nat → List Tk → Bs
 | _, [] => []
 | i, t :: ts => gapAt gaps i ++ (t.src ++ spreadB gaps (i + 1) ts)
theorem stop_fin (L : Nat) : stopAt L [.fin] := by
 refine ⟨fun _ => rfl, fun L' _ => ?_⟩
 unfold chainOp
 split <;> rfl
def srcL (t : Tk) : Nat := t.src.length
end Go.Pu
set_option linter.unusedVariables false
namespace Go.Pu
def ext (q u : List Tk) : List Tk := u.dropLast ++ .sym [41] :: q
theorem exprT_of {ts : List Tk} {r : PR PE} (h : PEr 1 ts r) : exprT ts = r := by
 obtain ⟨n, hn⟩ := h
 exact pE_det (exprT_eq ts) hn
theorem all_of {ts : List Tk} {a : PE} (h : PEr 1 ts (.ok a [.fin])) : allT exprT ts = .ok a [.fin] := by
 unfold allT
 rw [exprT_of h]
 rfl
theorem num_leaf {n : Nat} (h : n ≤ mostN) : prb (.mk 1 n [] []) = true ∧ PE.str (.mk 1 n [] []) = 7 ∧ tokE (.mk 1 n [] []) = [.num (dec n)] := ⟨by simp [prb, arity, h], rfl, by rw [tokE_mk]; simp⟩
end Go.Pu
namespace Go.Pu
def nz {α : Type} (x : PR α) : Prop := ∀ m e, x = .err m e → e ≠ 0
theorem all_one {n : Nat} (h : n ≤ mostN) : allT exprT [.num (dec n), .fin] = .ok (.mk 1 n [] []) [.fin] := by
 obtain ⟨a, b, c⟩ := num_leaf h
 have := (parse_tok _ a).2 1 [.fin] (by omega) (by omega) (stop_fin 1)
 rw [tokO_nat (str_pos _), c] at this
 exact all_of this
end Go.Pu
namespace Go.Pu
def freeN (r : Bs) : Prop := headIs digitB r = false ∧ headIs lowerB r = false
def anyR (_ : Bs) : Prop := True
def sc (P : Bs → Prop) (x : Bs) (tk : List Tk) : Prop := ∀ r, P r → scanT (x ++ r) = (scanT r).map (tk ++ ·)
theorem free_N {r : Bs} (h : free r) : freeN r := by
 unfold free at h
 unfold freeN
 cases r with
 | nil => exact ⟨rfl, rfl⟩
 | cons b r =>
  simp only [headIs, wordB, Bool.or_eq_false_iff] at h ⊢
  exact ⟨h.1.2, h.1.1⟩
theorem sc.free {x : Bs} {tk : List Tk} (h : sc freeN x tk) : sc free x tk := fun r hr => h r (free_N hr)
theorem sc_word {s : Bs} (h : (Tk.word s).ok = true) : sc free s [.word s] := fun r hr => scanT_src (t := .word s) h (free_word hr)
def k2 (n : Int) : Bs := digs n.toNat 2
def minuteB (m : Int) : Bs := k2 (m / 60) ++ 58 :: k2 (m % 60)
def clockB (n : Int) : Bs := minuteB (n / 60) ++ 58 :: k2 (n % 60)
def decZ (n : Int) : Bs := dec n.toNat
def dateB (y m d : Nat) : Bs := digs y 4 ++ 45 :: (digs m 2 ++ 45 :: digs d 2)
def joinB : List Bs → Bs
 | [] => []
 | a :: l => a ++ l.flatMap (fun b => 44 :: 32 :: b)
def plusB : List Bs → Bs
 | [] => []
 | a :: l => a ++ l.flatMap (fun b => 43 :: b)
def bitsOf (d : Nat) : List Nat := (List.range 8).filter (fun i => d / 2 ^ i % 2 == 1)
def dayW (i : Nat) : Bs := dayWs[i]?.getD []
def daysB (d : Int) : Bs := plusB ((bitsOf d.toNat).map dayW)
def slotB (s : SlotP) : Bs := daysB s.days ++ 32 :: (minuteB s.lo ++ 45 :: minuteB s.hi)
def anyB (s : Bs) : Bs := if s = [] then kAny else s
def uptoB (n : Int) : Bs := if n = 0 then [] else kUpto ++ 32 :: (decZ n ++ [32])
def tierB (s : StepP) : Bs := uptoB s.upto ++ (kPer ++ 32 :: (decZ s.quant ++ 32 :: (kAt ++ 32 :: decZ s.price)))
def setupB (n : Int) : Bs := if n = 0 then [] else 32 :: (kSetup ++ 32 :: decZ n)
def kindW (k : Int) : Bs := kindWs[(k - 1).toNat]?.getD []
def lineE : Bs := [32, 59, 10]
def zoneB (z : ZoneP) : Bs := kZone ++ 32 :: (z.name ++ 32 :: (joinB z.pref ++ lineE))
def slotsB (l : List SlotP) : Bs := if l = [] then kOther else joinB (l.map slotB)
def bandB (b : BandP) : Bs := kBand ++ 32 :: (b.name ++ 32 :: (slotsB b.slots ++ lineE))
def rateB (x : RateP) : Bs := kRate ++ 32 :: (kindW x.kind ++ 32 :: (kTo ++ 32 :: (anyB x.zone ++ 32 :: (kIn ++ 32 :: (anyB x.band ++ (setupB x.setup ++ 32 :: (joinB (x.steps.map tierB) ++ lineE)))))))
def discB (d : DiscP) : Bs := kDisc ++ 32 :: (d.name ++ 32 :: (decZ d.points ++ 32 :: (kPoints ++ 32 :: (kWhen ++ 32 :: (txtE d.cond ++ lineE)))))
end Go.Pu
set_option linter.unusedSimpArgs false
namespace Go.Pu
theorem sc_k {s : Bs} (h : (Tk.word s).ok = true := by decide) : sc free s [.word s] := sc_word h
def sepTk {α : Type} (tk : α → List Tk) : List α → List Tk
 | [] => []
 | a :: l => tk a ++ l.flatMap (fun b => .sym [44] :: tk b)
def plusTk (l : List Nat) : List Tk := match l with
 | [] => []
 | a :: l => .word (dayW a) :: l.flatMap (fun b => .sym [43] :: [.word (dayW b)])
def numOk (n : Int) : Prop := 0 ≤ n ∧ n ≤ mostN
def prefOk (p : Bs) : Prop := p.all digitB = true ∧ 1 ≤ p.length ∧ p.length ≤ 16
structure ZoneOk (z : ZoneP) : Prop where
 name : nameOk z.name = true
 ne : z.pref ≠ []
 pref : ∀ p ∈ z.pref, prefOk p
structure SlotOk (s : SlotP) : Prop where
 d1 : 1 ≤ s.days
 d2 : s.days ≤ 255
 l1 : 0 ≤ s.lo
 l2 : s.lo ≤ 1439
 h1 : 0 ≤ s.hi
 h2 : s.hi ≤ 1440
structure BandOk (b : BandP) : Prop where
 name : nameOk b.name = true
 slots : ∀ s ∈ b.slots, SlotOk s
structure StepOk (s : StepP) : Prop where
 u : numOk s.upto
 q : numOk s.quant
 p : numOk s.price
structure RateOk (x : RateP) : Prop where
 k1 : 1 ≤ x.kind
 k2 : x.kind ≤ 4
 zone : x.zone = [] ∨ nameOk x.zone = true
 band : x.band = [] ∨ nameOk x.band = true
 setup : numOk x.setup
 ne : x.steps ≠ []
 steps : ∀ s ∈ x.steps, StepOk s
structure DiscOk (d : DiscP) : Prop where
 name : nameOk d.name = true
 points : numOk d.points
 cond : prb d.cond = true
structure WholeOk (t : TariffP) : Prop where
 name : nameOk t.name = true
 s1 : 0 ≤ t.start
 s2 : t.start < 12622780800
 zones : ∀ z ∈ t.zones, ZoneOk z
 bands : ∀ b ∈ t.bands, BandOk b
 rates : ∀ x ∈ t.rates, RateOk x
 discs : ∀ d ∈ t.discs, DiscOk d
def k2T (n : Int) : Tk := .num (k2 n)
def minuteTk (m : Int) : List Tk := [k2T (m / 60), .sym [58], k2T (m % 60)]
def slotTk (s : SlotP) : List Tk := plusTk (bitsOf s.days.toNat) ++ (minuteTk s.lo ++ .sym [45] :: minuteTk s.hi)
def numTk (n : Int) : Tk := .num (decZ n)
def uptoTk (n : Int) : List Tk := if n = 0 then [] else [.word kUpto, numTk n]
def tierTk (s : StepP) : List Tk := uptoTk s.upto ++ [.word kPer, numTk s.quant, .word kAt, numTk s.price]
def anyTk (s : Bs) : Tk := .word (anyB s)
def setupTk (n : Int) : List Tk := if n = 0 then [] else [.word kSetup, numTk n]
def zoneTk (z : ZoneP) : List Tk := .word z.name :: (sepTk (fun p => [.num p]) z.pref ++ [.sym [59]])
def slotsTk (l : List SlotP) : List Tk := if l = [] then [.word kOther] else sepTk slotTk l
def bandTk (b : BandP) : List Tk := .word b.name :: (slotsTk b.slots ++ [.sym [59]])
def rateTk (x : RateP) : List Tk := .word (kindW x.kind) :: .word kTo :: anyTk x.zone :: .word kIn :: anyTk x.band :: (setupTk x.setup ++ (sepTk tierTk x.steps ++ [.sym [59]]))
def discTk (d : DiscP) : List Tk := .word d.name :: numTk d.points :: .word kPoints :: .word kWhen :: (tokE d.cond ++ [.sym [59]])
theorem sc_name {s : Bs} (h : nameOk s = true) : sc free s [.word s] := sc_word (name_ok h).1
theorem any_ok {s : Bs} (h : s = [] ∨ nameOk s = true) : sc free (anyB s) [anyTk s] := by
 unfold anyTk anyB
 split
 ·exact sc_k
 ·rename_i hn
  rcases h with h | h
  ·exact absurd h hn
  ·exact sc_name h
def sumB : List Nat → Int
 | [] => 0
 | k :: l => 2 ^ k + sumB l
def incr : Nat → List Nat → Bool
 | _, [] => true
 | n, k :: l => decide (n ≤ k) && decide (k < 8) && incr (k + 1) l
end Go.Pu
namespace Go.Pu
open Classical in
noncomputable def ymd (day : Int) : Int × Int × Int := if h : ∃ p : Int × Int × Int, IsDate day p.1 p.2.1 p.2.2 then Classical.choose h else (0, 0, 0)
theorem ymd_ok {day : Int} (h0 : 0 ≤ day) (h1 : day < 146097) : IsDate day (ymd day).1 (ymd day).2.1 (ymd day).2.2 := by
 obtain ⟨y, m, d, h⟩ := exists_date h0 h1
 have hp : ∃ p : Int × Int × Int, IsDate day p.1 p.2.1 p.2.2 := ⟨(y, m, d), h⟩
 unfold ymd
 rw [dif_pos hp]
 exact Classical.choose_spec hp
noncomputable def dayB (day : Int) : Bs := dateB (ymd day).1.toNat (ymd day).2.1.toNat (ymd day).2.2.toNat
noncomputable def dayTk (day : Int) : List Tk := [.num (digs (ymd day).1.toNat 4), .sym [45], .num (digs (ymd day).2.1.toNat 2), .sym [45], .num (digs (ymd day).2.2.toNat 2)]
def clockTk (n : Int) : List Tk := minuteTk (n / 60) ++ [.sym [58], k2T (n % 60)]
def clockO (n : Int) : Bs := if n = 0 then [] else 32 :: clockB n
def clockOT (n : Int) : List Tk := if n = 0 then [] else clockTk n
def splitO (b : Bool) : Bs := if b then 32 :: kSplit else []
def splitOT (b : Bool) : List Tk := if b then [.word kSplit] else []
noncomputable def headB (t : TariffP) : Bs := kTariff ++ 32 :: (t.name ++ 32 :: (kFrom ++ 32 :: (dayB (t.start / 86400) ++ (clockO (t.start % 86400) ++ (splitO t.split ++ lineE)))))
noncomputable def headTk (t : TariffP) : List Tk := .word kTariff :: .word t.name :: .word kFrom :: (dayTk (t.start / 86400) ++ (clockOT (t.start % 86400) ++ (splitOT t.split ++ [.sym [59]])))
noncomputable def tariffB (t : TariffP) : Bs := headB t ++ (t.zones.flatMap zoneB ++ (t.bands.flatMap bandB ++ (t.rates.flatMap rateB ++ t.discs.flatMap discB)))
noncomputable def tariffTk (t : TariffP) : List Tk := headTk t ++ (t.zones.flatMap (fun z => .word kZone :: zoneTk z) ++ (t.bands.flatMap (fun z => .word kBand :: bandTk z) ++ (t.rates.flatMap (fun z => .word kRate :: rateTk z) ++ t.discs.flatMap (fun z => .word kDisc :: discTk z))))
end Go.Pu
namespace Go.Pu
def w3 (t : Tk) : Nat := 3 * (t.src.length + 1)
def wp (t : Tk) : Nat := if t = .sym [40] then 1 else 0
abbrev V3 (ts : List Tk) : Nat := W w3 ts
def gv {α : Type} (p : List Tk → PR α) (Q : α → Prop) (f : α → Nat) : Prop := ∀ ts a r, okL ts → p ts = .ok a r → Q a ∧ okL r ∧ f a + V3 r ≤ V3 ts
def sumF {α : Type} (f : α → Nat) : List α → Nat
 | [] => 0
 | a :: l => f a + sumF f l
end Go.Pu
namespace Go.Pu
def cnt : Bool → Bs → Nat
 | _, [] => 0
 | i, b :: l => if b.toNat = 34 then cnt (!i) l else (if b.toNat = 40 ∧ i = false then 1 else 0) + cnt i l
end Go.Pu
