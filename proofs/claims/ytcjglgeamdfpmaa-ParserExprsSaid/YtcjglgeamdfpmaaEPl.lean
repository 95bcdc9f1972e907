/- Plain laws of the tokens of the tariff language, with no program in sight. -/
namespace Go.Pu

abbrev Bs := List UInt8

def lowerB (b : UInt8) : Bool := 97 ≤ b.toNat && b.toNat ≤ 122
def digitB (b : UInt8) : Bool := 48 ≤ b.toNat && b.toNat ≤ 57
def wordB (b : UInt8) : Bool := lowerB b || digitB b || b.toNat == 45
def blankB (b : UInt8) : Bool := b.toNat == 32 || b.toNat == 9 || b.toNat == 10
def textB (b : UInt8) : Bool := 32 ≤ b.toNat && b.toNat ≤ 126 && b.toNat != 34

inductive Tk where
  | word (s : Bs)
  | num (s : Bs)
  | text (s : Bs)
  | sym (s : Bs)
  | fin
  deriving DecidableEq

def Tk.kind : Tk → Nat
  | .fin => 0
  | .word _ => 1
  | .num _ => 2
  | .text _ => 3
  | .sym _ => 4
def Tk.str : Tk → Bs
  | .fin => []
  | .word s => s
  | .num s => s
  | .text s => s
  | .sym s => s

/-- The value of the first 16 digits. -/
def valF : Nat → Nat → Bs → Nat
  | 0, n, _ => n
  | _ + 1, n, [] => n
  | k + 1, n, b :: l => valF k (10 * n + (b.toNat - 48)) l
def value (s : Bs) : Nat := valF 16 0 s
def Tk.val : Tk → Nat
  | .num s => value s
  | _ => 0

/-- Blanks and comments are skipped (true: within a comment). -/
def skipB : Bool → Bs → Bs
  | _, [] => []
  | false, b :: l => if blankB b then skipB false l else if b.toNat = 35 then skipB true l else b :: l
  | true, b :: l => if b.toNat = 10 then skipB false l else skipB true l

inductive LR where
  | ok (t : Tk) (rest : Bs)
  | err (e : Nat)

def headIs (p : UInt8 → Bool) : Bs → Bool
  | [] => false
  | b :: _ => p b

def singles : List Nat := [59, 44, 43, 45, 58, 40, 41, 61, 42, 47, 37]
def lexSym (b : UInt8) (l : Bs) : LR :=
  if b.toNat = 60 then (match l with | c :: r => if c.toNat = 62 ∨ c.toNat = 61 then .ok (.sym [b, c]) r else .ok (.sym [b]) l | [] => .ok (.sym [b]) l)
  else if b.toNat = 62 then (match l with | c :: r => if c.toNat = 61 then .ok (.sym [b, c]) r else .ok (.sym [b]) l | [] => .ok (.sym [b]) l)
  else if b.toNat ∈ singles then .ok (.sym [b]) l else .err 1

def lexWord (r : Bs) : LR := if (r.takeWhile wordB).length > 24 then .err 5 else .ok (.word (r.takeWhile wordB)) (r.dropWhile wordB)
def lexNum (r : Bs) : LR := if (r.takeWhile digitB).length > 16 then .err 5 else if headIs lowerB (r.dropWhile digitB) then .err 1 else .ok (.num (r.takeWhile digitB)) (r.dropWhile digitB)
def lexText (l : Bs) : LR := match l.dropWhile textB with
  | [] => .err 1
  | c :: r => if c.toNat = 34 then (if (l.takeWhile textB).length > 200 then .err 5 else .ok (.text (l.takeWhile textB)) r) else .err 1

def lexOne (b : UInt8) (l : Bs) : LR :=
  if lowerB b then lexWord (b :: l) else if digitB b then lexNum (b :: l) else if b.toNat = 34 then lexText l else lexSym b l

/-- Tokens, each with the number of bytes that remain at its beginning; or the number of bytes that remain at the error. -/
inductive SR where
  | ok (ts : List (Tk × Nat))
  | err (rem : Nat) (e : Nat)

def SR.cons (t : Tk × Nat) : SR → SR
  | .ok ts => .ok (t :: ts)
  | e => e

def scanF : Nat → Bs → SR
  | 0, _ => .err 0 0
  | n + 1, l => match skipB false l with
    | [] => .ok [(.fin, 0)]
    | b :: r => match lexOne b r with
      | .err e => .err (r.length + 1) e
      | .ok t r' => SR.cons (t, r.length + 1) (scanF n r')
def scan (l : Bs) : SR := scanF (l.length + 1) l

def kws : List Bs := [
  [116, 97, 114, 105, 102, 102],
  [102, 114, 111, 109],
  [115, 112, 108, 105, 116],
  [122, 111, 110, 101],
  [98, 97, 110, 100],
  [111, 116, 104, 101, 114, 119, 105, 115, 101],
  [114, 97, 116, 101],
  [116, 111],
  [97, 110, 121],
  [105, 110],
  [115, 101, 116, 117, 112],
  [117, 112, 116, 111],
  [112, 101, 114],
  [97, 116],
  [100, 105, 115, 99, 111, 117, 110, 116],
  [112, 111, 105, 110, 116, 115],
  [119, 104, 101, 110],
  [97, 110, 100],
  [111, 114],
  [110, 111, 116],
  [109, 111, 110],
  [116, 117, 101],
  [119, 101, 100],
  [116, 104, 117],
  [102, 114, 105],
  [115, 97, 116],
  [115, 117, 110],
  [104, 111, 108, 105, 100, 97, 121],
  [118, 111, 105, 99, 101],
  [116, 101, 120, 116],
  [100, 97, 116, 97],
  [99, 111, 110, 116, 101, 110, 116],
  [107, 105, 110, 100],
  [117, 110, 105, 116, 115],
  [119, 101, 101, 107, 100, 97, 121],
  [109, 105, 110, 117, 116, 101],
  [116, 111, 116, 97, 108],
  [115, 112, 101, 110, 116],
  [102, 97, 109, 105, 108, 121]]
def isKw (s : Bs) : Bool := kws.contains s
/-- The text of a text. -/
def quote (s : Bs) : Bs := if s.all textB && decide (s.length ≤ 200) then 34 :: (s ++ [34]) else []

/-- What is written of a token. -/
def Tk.src : Tk → Bs
  | .text s => 34 :: (s ++ [34])
  | t => t.str

theorem skipB_le : ∀ (c : Bool) (l : Bs), (skipB c l).length ≤ l.length
  | c, [] => by cases c <;> simp [skipB]
  | false, b :: l => by
    have h1 := skipB_le false l
    have h2 := skipB_le true l
    unfold skipB
    split
    · simp; omega
    · split
      · simp; omega
      · simp
  | true, b :: l => by
    have h1 := skipB_le false l
    have h2 := skipB_le true l
    unfold skipB
    split <;> simp <;> omega

theorem skip_suf : ∀ (c : Bool) (l : Bs), ∃ q, l = q ++ skipB c l
  | c, [] => ⟨[], by cases c <;> rfl⟩
  | false, b :: l => by
    by_cases h1 : blankB b = true
    · obtain ⟨q, hq⟩ := skip_suf false l
      exact ⟨b :: q, by rw [skipB, if_pos h1, List.cons_append, ← hq]⟩
    · by_cases h2 : b.toNat = 35
      · obtain ⟨q, hq⟩ := skip_suf true l
        exact ⟨b :: q, by rw [skipB, if_neg h1, if_pos h2, List.cons_append, ← hq]⟩
      · exact ⟨[], by rw [skipB, if_neg h1, if_neg h2]; rfl⟩
  | true, b :: l => by
    by_cases h2 : b.toNat = 10
    · obtain ⟨q, hq⟩ := skip_suf false l
      exact ⟨b :: q, by rw [skipB, if_pos h2, List.cons_append, ← hq]⟩
    · obtain ⟨q, hq⟩ := skip_suf true l
      exact ⟨b :: q, by rw [skipB, if_neg h2, List.cons_append, ← hq]⟩

theorem takeDrop (p : UInt8 → Bool) (l : Bs) : l.takeWhile p ++ l.dropWhile p = l := List.takeWhile_append_dropWhile
theorem takeDrop_len (p : UInt8 → Bool) (l : Bs) : (l.takeWhile p).length + (l.dropWhile p).length = l.length := by
  rw [← List.length_append, takeDrop]
theorem takeWhile_all (p : UInt8 → Bool) : ∀ (l : Bs), (l.takeWhile p).all p = true
  | [] => rfl
  | b :: l => by
    by_cases h : p b = true
    · rw [List.takeWhile_cons_of_pos h, List.all_cons, h, takeWhile_all p l]; rfl
    · rw [List.takeWhile_cons_of_neg h]; rfl
theorem dropWhile_head (p : UInt8 → Bool) : ∀ (l : Bs), headIs p (l.dropWhile p) = false
  | [] => rfl
  | b :: l => by
    by_cases h : p b = true
    · rw [List.dropWhile_cons_of_pos h]; exact dropWhile_head p l
    · rw [List.dropWhile_cons_of_neg h]; simpa [headIs] using h
/-- What is taken of a run, and what is left. -/
theorem take_run {p : UInt8 → Bool} : ∀ {s r : Bs}, s.all p = true → headIs p r = false → (s ++ r).takeWhile p = s ∧ (s ++ r).dropWhile p = r
  | [], [], _, _ => ⟨rfl, rfl⟩
  | [], b :: r, _, h => by
    have : ¬ p b = true := by simpa [headIs] using h
    exact ⟨List.takeWhile_cons_of_neg this, List.dropWhile_cons_of_neg this⟩
  | b :: s, r, hs, h => by
    simp only [List.all_cons, Bool.and_eq_true] at hs
    obtain ⟨h1, h2⟩ := take_run hs.2 h
    rw [List.cons_append, List.takeWhile_cons_of_pos hs.1, List.dropWhile_cons_of_pos hs.1, h1, h2]
    exact ⟨rfl, rfl⟩

def isSym (s : Bs) : Bool := match s with
  | [b] => b.toNat == 60 || b.toNat == 62 || singles.contains b.toNat
  | [b, c] => b.toNat == 60 && (c.toNat == 62 || c.toNat == 61) || b.toNat == 62 && c.toNat == 61
  | _ => false

/-- A token that can be read. -/
def Tk.ok : Tk → Bool
  | .word s => headIs lowerB s && s.all wordB && decide (s.length ≤ 24)
  | .num s => headIs digitB s && s.all digitB && decide (s.length ≤ 16)
  | .text s => s.all textB && decide (s.length ≤ 200)
  | .sym s => isSym s
  | .fin => false

/-- What may follow a token. -/
def Tk.fol : Tk → Bs → Bool
  | .word _, r => !headIs wordB r
  | .num _, r => !headIs digitB r && !headIs lowerB r
  | .sym [b], r => if b.toNat = 60 then !headIs (fun c => c.toNat == 62 || c.toNat == 61) r else if b.toNat = 62 then !headIs (fun c => c.toNat == 61) r else true
  | _, _ => true

theorem lower_wordB {b : UInt8} (h : lowerB b = true) : wordB b = true := by simp [wordB, h]
theorem lower_digit {b : UInt8} (h : lowerB b = true) : digitB b = false := by
  simp [lowerB, digitB] at h ⊢; omega

/-- A token is read out of what is written of it. -/
theorem lexOne_src {t : Tk} {r : Bs} (h : t.ok = true) (hf : t.fol r = true) : ∃ b l, t.src ++ r = b :: l ∧ lexOne b l = .ok t r ∧ skipB false (b :: l) = b :: l := by
  have nb : ∀ {b : UInt8} {l : Bs}, (33 ≤ b.toNat ∧ b.toNat ≠ 35) → skipB false (b :: l) = b :: l := by
    intro b l hb
    unfold skipB
    have : blankB b = false := by simp [blankB]; omega
    rw [this, if_neg (by simp), if_neg hb.2]
  cases t with
  | fin => cases h
  | word s =>
    simp only [Tk.ok, Bool.and_eq_true, decide_eq_true_eq] at h
    obtain ⟨⟨h1, h2⟩, h3⟩ := h
    match s, h1, h2, h3 with
    | b :: s, h1, h2, h3 =>
      have hb : lowerB b = true := h1
      simp only [Tk.fol, Bool.not_eq_true'] at hf
      obtain ⟨e1, e2⟩ := take_run (p := wordB) (s := b :: s) (r := r) h2 hf
      refine ⟨b, s ++ r, rfl, ?_, nb (by simp [lowerB] at hb; omega)⟩
      unfold lexOne
      rw [if_pos hb]
      unfold lexWord
      rw [← List.cons_append, e1, e2, if_neg (by omega)]
  | num s =>
    simp only [Tk.ok, Bool.and_eq_true, decide_eq_true_eq] at h
    obtain ⟨⟨h1, h2⟩, h3⟩ := h
    match s, h1, h2, h3 with
    | b :: s, h1, h2, h3 =>
      have hb : digitB b = true := h1
      have hl : lowerB b = false := by simp [lowerB, digitB] at hb ⊢; omega
      simp only [Tk.fol, Bool.and_eq_true, Bool.not_eq_true'] at hf
      obtain ⟨e1, e2⟩ := take_run (p := digitB) (s := b :: s) (r := r) h2 hf.1
      refine ⟨b, s ++ r, rfl, ?_, nb (by simp [digitB] at hb; omega)⟩
      unfold lexOne
      rw [if_neg (by simp [hl]), if_pos hb]
      unfold lexNum
      rw [← List.cons_append, e1, e2, if_neg (by omega), hf.2, if_neg (by simp)]
  | text s =>
    simp only [Tk.ok, Bool.and_eq_true, decide_eq_true_eq] at h
    obtain ⟨h2, h3⟩ := h
    obtain ⟨e1, e2⟩ := take_run (p := textB) (s := s) (r := 34 :: r) h2 rfl
    refine ⟨34, s ++ 34 :: r, by simp [Tk.src], ?_, nb (by decide)⟩
    unfold lexOne
    rw [if_neg (by decide), if_neg (by decide), if_pos (by decide)]
    unfold lexText
    rw [e1, e2]
    simp only
    rw [if_pos (by decide), if_neg (by omega)]
  | sym s =>
    simp only [Tk.ok] at h
    unfold isSym at h
    have ns : ∀ b : UInt8, (b.toNat = 60 ∨ b.toNat = 62 ∨ b.toNat ∈ singles) → lowerB b = false ∧ digitB b = false ∧ ¬ b.toNat = 34 ∧ 33 ≤ b.toNat ∧ b.toNat ≠ 35 := by
      intro b hb
      simp only [singles, List.mem_cons, List.not_mem_nil, or_false] at hb
      simp only [lowerB, digitB]
      rcases hb with hb | hb | hb | hb | hb | hb | hb | hb | hb | hb | hb | hb | hb <;> rw [hb] <;> decide
    split at h
    · rename_i b
      have hb : b.toNat = 60 ∨ b.toNat = 62 ∨ b.toNat ∈ singles := by
        simp only [Bool.or_eq_true, beq_iff_eq, List.contains_iff_mem] at h
        rcases h with (h | h) | h
        · exact .inl h
        · exact .inr (.inl h)
        · exact .inr (.inr h)
      obtain ⟨q1, q2, q3, q4, q5⟩ := ns b hb
      refine ⟨b, r, rfl, ?_, nb ⟨q4, q5⟩⟩
      unfold lexOne
      rw [if_neg (by simp [q1]), if_neg (by simp [q2]), if_neg q3]
      unfold lexSym
      simp only [Tk.fol] at hf
      by_cases h60 : b.toNat = 60
      · rw [if_pos h60] at hf ⊢
        cases r with
        | nil => rfl
        | cons c r =>
          simp only [headIs, Bool.not_eq_true', Bool.or_eq_false_iff, beq_eq_false_iff_ne] at hf
          simp only
          rw [if_neg (by omega)]
      · rw [if_neg h60] at hf ⊢
        by_cases h62 : b.toNat = 62
        · rw [if_pos h62] at hf ⊢
          cases r with
          | nil => rfl
          | cons c r =>
            simp only [headIs, Bool.not_eq_true', beq_eq_false_iff_ne] at hf
            simp only
            rw [if_neg hf]
        · rw [if_neg h62]
          rw [if_pos (by rcases hb with hb | hb | hb <;> first | exact absurd hb h60 | exact absurd hb h62 | exact hb)]
    · rename_i b c
      have hbc : b.toNat = 60 ∧ (c.toNat = 62 ∨ c.toNat = 61) ∨ b.toNat = 62 ∧ c.toNat = 61 := by simpa using h
      obtain ⟨q1, q2, q3, q4, q5⟩ := ns b (by rcases hbc with h | h <;> simp [h.1])
      refine ⟨b, c :: r, rfl, ?_, nb ⟨q4, q5⟩⟩
      unfold lexOne
      rw [if_neg (by simp [q1]), if_neg (by simp [q2]), if_neg q3]
      unfold lexSym
      rcases hbc with ⟨h1, h2⟩ | ⟨h1, h2⟩
      · rw [if_pos h1]; simp only; rw [if_pos h2]
      · rw [if_neg (by omega), if_pos h1]; simp only; rw [if_pos h2]
    · cases h

/-- What a token was read from. -/
theorem lexOne_ok {b : UInt8} {l r : Bs} {t : Tk} (h : lexOne b l = .ok t r) : t.ok = true ∧ t.fol r = true ∧ b :: l = t.src ++ r := by
  unfold lexOne at h
  split at h
  · rename_i hb
    unfold lexWord at h
    split at h
    · cases h
    · rename_i hl
      cases h
      refine ⟨?_, ?_, (takeDrop wordB (b :: l)).symm⟩
      · have : headIs lowerB ((b :: l).takeWhile wordB) = true := by rw [List.takeWhile_cons_of_pos (lower_wordB hb)]; exact hb
        simp only [Tk.ok, this, takeWhile_all, Bool.true_and, decide_eq_true_eq]
        omega
      · simp only [Tk.fol, dropWhile_head]; rfl
  · split at h
    · rename_i hb
      unfold lexNum at h
      split at h
      · cases h
      · split at h
        · cases h
        · rename_i hl hh
          cases h
          refine ⟨?_, ?_, (takeDrop digitB (b :: l)).symm⟩
          · have : headIs digitB ((b :: l).takeWhile digitB) = true := by rw [List.takeWhile_cons_of_pos hb]; exact hb
            simp only [Tk.ok, this, takeWhile_all, Bool.true_and, decide_eq_true_eq]
            omega
          · have hh : headIs lowerB ((b :: l).dropWhile digitB) = false := by simpa using hh
            simp only [Tk.fol, dropWhile_head, hh]; rfl
    · split at h
      · rename_i hb
        unfold lexText at h
        split at h
        · cases h
        · rename_i c r' hd
          split at h
          · rename_i hc
            split at h
            · cases h
            · rename_i hl
              cases h
              refine ⟨?_, rfl, ?_⟩
              · simp only [Tk.ok, takeWhile_all, Bool.true_and, decide_eq_true_eq]; omega
              · have e1 : b = 34 := UInt8.toNat_inj.1 (by rw [hb]; rfl)
                have e2 : c = 34 := UInt8.toNat_inj.1 (by rw [hc]; rfl)
                have := takeDrop textB l
                rw [hd, e2] at this
                rw [e1, ← this]
                simp [Tk.src, this]
          · cases h
      · rename_i hnl hnd hnq
        unfold lexSym at h
        split at h
        · rename_i h60
          cases l with
          | nil => cases h; refine ⟨by simp [Tk.ok, isSym, h60], by simp [Tk.fol, h60, headIs], rfl⟩
          | cons c r' =>
            simp only at h
            split at h
            · rename_i hc; cases h; exact ⟨by simpa [Tk.ok, isSym, h60] using hc, rfl, rfl⟩
            · rename_i hc; cases h; refine ⟨by simp [Tk.ok, isSym, h60], ?_, rfl⟩
              have : ¬ c.toNat = 62 ∧ ¬ c.toNat = 61 := by omega
              simp [Tk.fol, h60, headIs, this]
        · rename_i h60
          split at h
          · rename_i h62
            cases l with
            | nil => cases h; refine ⟨by simp [Tk.ok, isSym, h62], by simp [Tk.fol, h62, headIs], rfl⟩
            | cons c r' =>
              simp only at h
              split at h
              · rename_i hc; cases h; exact ⟨by simp [Tk.ok, isSym, h62, hc], rfl, rfl⟩
              · rename_i hc; cases h; refine ⟨by simp [Tk.ok, isSym, h62], by simp [Tk.fol, h62, headIs, hc], rfl⟩
          · rename_i h62
            split at h
            · rename_i hs; cases h; exact ⟨by simp [Tk.ok, isSym, hs], by simp [Tk.fol, h60, h62], rfl⟩
            · cases h

theorem src_ne {t : Tk} (h : t.ok = true) : t.src ≠ [] := by
  cases t with
  | fin => cases h
  | word s => cases s with | nil => simp [Tk.ok, headIs] at h | cons => simp [Tk.src, Tk.str]
  | num s => cases s with | nil => simp [Tk.ok, headIs] at h | cons => simp [Tk.src, Tk.str]
  | text s => simp [Tk.src]
  | sym s => cases s with | nil => simp [Tk.ok, isSym] at h | cons => simp [Tk.src, Tk.str]

theorem lexOne_le {b : UInt8} {l r : Bs} {t : Tk} (h : lexOne b l = .ok t r) : r.length ≤ l.length := by
  obtain ⟨h1, _, h3⟩ := lexOne_ok h
  have h4 := congrArg List.length h3
  have h5 := List.length_pos_iff.2 (src_ne h1)
  simp at h4
  omega

theorem scanF_enough : ∀ (n m : Nat) (l : Bs), l.length < n → l.length < m → scanF n l = scanF m l
  | 0, _, _, h, _ => by omega
  | _ + 1, 0, _, _, h => by omega
  | n + 1, m + 1, l, hn, hm => by
    unfold scanF
    have hs := skipB_le false l
    split
    · rfl
    · rename_i b r hsk
      rw [hsk] at hs
      split
      · rfl
      · rename_i t r' ho
        have := lexOne_le ho
        simp at hs
        rw [scanF_enough n m r' (by omega) (by omega)]

theorem scan_nil {l : Bs} (h : skipB false l = []) : scan l = .ok [(.fin, 0)] := by
  unfold scan scanF
  rw [h]
theorem scan_err {l r : Bs} {b : UInt8} {e : Nat} (h : skipB false l = b :: r) (ho : lexOne b r = .err e) : scan l = .err (r.length + 1) e := by
  unfold scan scanF
  rw [h]
  simp only
  rw [ho]
theorem scan_ok {l r r' : Bs} {b : UInt8} {t : Tk} (h : skipB false l = b :: r) (ho : lexOne b r = .ok t r') : scan l = SR.cons (t, r.length + 1) (scan r') := by
  have h1 := skipB_le false l
  have h2 := lexOne_le ho
  rw [h] at h1
  simp at h1
  unfold scan
  rw [scanF]
  rw [h]
  simp only
  rw [ho]
  simp only
  rw [scanF_enough l.length (r'.length + 1) r' (by omega) (by omega)]

/-- A token at the head of a text. -/
theorem scan_src {t : Tk} {r : Bs} (h : t.ok = true) (hf : t.fol r = true) : scan (t.src ++ r) = SR.cons (t, t.src.length + r.length) (scan r) := by
  obtain ⟨b, l, h1, h2, h3⟩ := lexOne_src h hf
  rw [h1, scan_ok h3 h2]
  have := congrArg List.length h1
  simp at this
  rw [this]

theorem skip_idem : ∀ (c : Bool) (l : Bs), skipB false (skipB c l) = skipB c l
  | c, [] => by cases c <;> rfl
  | false, b :: l => by
    by_cases h1 : blankB b = true
    · have : skipB false (b :: l) = skipB false l := by rw [skipB, if_pos h1]
      rw [this]; exact skip_idem false l
    · by_cases h2 : b.toNat = 35
      · have : skipB false (b :: l) = skipB true l := by rw [skipB, if_neg h1, if_pos h2]
        rw [this]; exact skip_idem true l
      · have : skipB false (b :: l) = b :: l := by rw [skipB, if_neg h1, if_neg h2]
        rw [this, this]
  | true, b :: l => by
    by_cases h2 : b.toNat = 10
    · have : skipB true (b :: l) = skipB false l := by rw [skipB, if_pos h2]
      rw [this]; exact skip_idem false l
    · have : skipB true (b :: l) = skipB true l := by rw [skipB, if_neg h2]
      rw [this]; exact skip_idem true l

/-- What is skipped does not matter. -/
theorem scan_skip (l : Bs) : scan (skipB false l) = scan l := by
  cases h : skipB false l with
  | nil => rw [scan_nil h]; rfl
  | cons b r =>
    have h2 : skipB false (b :: r) = b :: r := by rw [← h]; exact skip_idem false l
    cases ho : lexOne b r with
    | err e => rw [scan_err h ho, scan_err h2 ho]
    | ok t r' => rw [scan_ok h ho, scan_ok h2 ho]

theorem scan_blank {b : UInt8} {l : Bs} (h : blankB b = true) : scan (b :: l) = scan l := by
  rw [← scan_skip (b :: l), ← scan_skip l]
  congr 1
  rw [skipB, if_pos h]

/-- The tokens of a text are all tokens that can be read, but the last, the end. -/
inductive Toks : List (Tk × Nat) → Prop
  | fin : Toks [(.fin, 0)]
  | cons (t : Tk) (k : Nat) (ts : List (Tk × Nat)) : t.ok = true → Toks ts → Toks ((t, k) :: ts)

theorem scan_toks : ∀ (n : Nat) (l : Bs) (ts : List (Tk × Nat)), l.length ≤ n → scan l = .ok ts → Toks ts := by
  intro n
  induction n with
  | zero =>
    intro l ts hn h
    cases l with
    | nil => have : scan [] = .ok [(.fin, 0)] := rfl
             rw [this] at h; cases h; exact .fin
    | cons => simp at hn
  | succ n ih =>
    intro l ts hn h
    have hs := skipB_le false l
    cases hk : skipB false l with
    | nil => rw [scan_nil hk] at h; cases h; exact .fin
    | cons b r =>
      rw [hk] at hs
      simp at hs
      cases ho : lexOne b r with
      | err e => rw [scan_err hk ho] at h; cases h
      | ok t r' =>
        have := lexOne_le ho
        rw [scan_ok hk ho] at h
        cases hr : scan r' with
        | err => rw [hr] at h; cases h
        | ok ts' =>
          rw [hr] at h
          cases h
          exact .cons _ _ _ (lexOne_ok ho).1 (ih r' ts' (by omega) hr)

/-- A line feed behind a text. -/
theorem skip_join (t : Bs) : ∀ (c : Bool) (l : Bs), skipB c (l ++ 10 :: t) = match skipB c l with | [] => skipB false t | b :: r => b :: (r ++ 10 :: t)
  | false, [] => by simp [skipB, blankB]
  | true, [] => by simp [skipB]
  | false, b :: l => by
    rw [List.cons_append]
    by_cases h1 : blankB b = true
    · rw [skipB, if_pos h1, skipB, if_pos h1]; exact skip_join t false l
    · by_cases h2 : b.toNat = 35
      · rw [skipB, if_neg h1, if_pos h2, skipB, if_neg h1, if_pos h2]; exact skip_join t true l
      · rw [skipB, if_neg h1, if_neg h2, skipB, if_neg h1, if_neg h2]
  | true, b :: l => by
    rw [List.cons_append]
    by_cases h2 : b.toNat = 10
    · rw [skipB, if_pos h2, skipB, if_pos h2]; exact skip_join t false l
    · rw [skipB, if_neg h2, skipB, if_neg h2]; exact skip_join t true l

theorem fol_join {x : Tk} {r t : Bs} (h : x.fol r = true) : x.fol (r ++ 10 :: t) = true := by
  cases r with
  | cons b r =>
    cases x with
    | sym s =>
      match s with
      | [] => exact h
      | [c] => exact h
      | _ :: _ :: _ => exact h
    | _ => exact h
  | nil =>
    cases x with
    | sym s =>
      match s with
      | [] => rfl
      | [c] => simp only [Tk.fol, List.nil_append, headIs]; split <;> (try split) <;> rfl
      | _ :: _ :: _ => rfl
    | _ => rfl

theorem lex_join {b : UInt8} {l r t : Bs} {x : Tk} (h : lexOne b l = .ok x r) : lexOne b (l ++ 10 :: t) = .ok x (r ++ 10 :: t) := by
  obtain ⟨h1, h2, h3⟩ := lexOne_ok h
  obtain ⟨c, m, h4, h5, _⟩ := lexOne_src h1 (fol_join (t := t) h2)
  have : b :: (l ++ 10 :: t) = c :: m := by rw [← h4, ← List.cons_append, h3, List.append_assoc]
  cases this
  exact h5

theorem take_join (p : UInt8 → Bool) (hp : p 10 = false) (t : Bs) : ∀ l : Bs, (l ++ 10 :: t).takeWhile p = l.takeWhile p ∧ (l ++ 10 :: t).dropWhile p = l.dropWhile p ++ 10 :: t
  | [] => ⟨List.takeWhile_cons_of_neg (by simp [hp]), List.dropWhile_cons_of_neg (by simp [hp])⟩
  | b :: l => by
    obtain ⟨h1, h2⟩ := take_join p hp t l
    rw [List.cons_append]
    by_cases h : p b = true
    · rw [List.takeWhile_cons_of_pos h, List.takeWhile_cons_of_pos h, List.dropWhile_cons_of_pos h, List.dropWhile_cons_of_pos h, h1, h2]
      exact ⟨rfl, rfl⟩
    · rw [List.takeWhile_cons_of_neg h, List.takeWhile_cons_of_neg h, List.dropWhile_cons_of_neg h, List.dropWhile_cons_of_neg h]
      exact ⟨rfl, rfl⟩

theorem lex_join_err {b : UInt8} {l t : Bs} {e : Nat} (h : lexOne b l = .err e) : lexOne b (l ++ 10 :: t) = .err e := by
  unfold lexOne at h ⊢
  split at h
  · rename_i hb
    rw [if_pos hb]
    unfold lexWord at h ⊢
    obtain ⟨e1, e2⟩ := take_join wordB rfl t (b :: l)
    rw [← List.cons_append, e1]
    split at h
    · rename_i hl; rw [if_pos hl]; exact h
    · cases h
  · rename_i hb
    rw [if_neg hb]
    split at h
    · rename_i hd
      rw [if_pos hd]
      unfold lexNum at h ⊢
      obtain ⟨e1, e2⟩ := take_join digitB rfl t (b :: l)
      rw [← List.cons_append, e1, e2]
      split at h
      · rename_i hl; rw [if_pos hl]; exact h
      · rename_i hl
        rw [if_neg hl]
        split at h
        · rename_i hh
          have : headIs lowerB ((b :: l).dropWhile digitB ++ 10 :: t) = true := by
            cases hx : (b :: l).dropWhile digitB with
            | nil => rw [hx] at hh; cases hh
            | cons c r => rw [hx] at hh; exact hh
          rw [if_pos this]
          exact h
        · cases h
    · rename_i hd
      rw [if_neg hd]
      split at h
      · rename_i hq
        rw [if_pos hq]
        unfold lexText at h ⊢
        obtain ⟨e1, e2⟩ := take_join textB rfl t l
        rw [e1, e2]
        cases hx : l.dropWhile textB with
        | nil =>
          rw [hx] at h
          cases h
          simp
        | cons c r =>
          rw [hx] at h
          simp only [List.cons_append] at h ⊢
          split at h
          · rename_i hc
            rw [if_pos hc]
            split at h
            · rename_i hl; rw [if_pos hl]; exact h
            · cases h
          · rename_i hc; rw [if_neg hc]; exact h
      · rename_i hq
        rw [if_neg hq]
        unfold lexSym at h ⊢
        split at h
        · cases l with
          | nil => cases h
          | cons c r => simp only at h; split at h <;> cases h
        · rename_i h60
          split at h
          · cases l with
            | nil => cases h
            | cons c r => simp only at h; split at h <;> cases h
          · rename_i h62
            split at h
            · cases h
            · rename_i hs; rw [if_neg h60, if_neg h62, if_neg hs]; exact h

/-- The tokens of a text, put before those of another one. -/
def joinT (k : Nat) : List (Tk × Nat) → List (Tk × Nat) → List (Tk × Nat)
  | [], us => us
  | [_], us => us
  | (t, r) :: x :: ts, us => (t, r + k) :: joinT k (x :: ts) us

theorem scan_join (t : Bs) : ∀ (n : Nat) (s : Bs), s.length ≤ n → scan (s ++ 10 :: t) = match scan s with
    | .err r e => .err (r + (t.length + 1)) e
    | .ok ts => match scan t with
      | .err r e => .err r e
      | .ok us => .ok (joinT (t.length + 1) ts us) := by
  intro n
  induction n with
  | zero =>
    intro s hn
    have : s = [] := List.length_eq_zero_iff.1 (by omega)
    subst this
    have e1 : scan [] = .ok [(.fin, 0)] := rfl
    rw [e1, List.nil_append, scan_blank (by rfl)]
    cases scan t <;> rfl
  | succ n ih =>
    intro s hn
    have hj := skip_join t false s
    have hs := skipB_le false s
    cases hk : skipB false s with
    | nil =>
      rw [hk] at hj
      rw [scan_nil hk, ← scan_skip, hj, scan_skip]
      cases scan t <;> rfl
    | cons b r =>
      rw [hk] at hj hs
      simp at hs
      cases ho : lexOne b r with
      | err e =>
        rw [scan_err hk ho, scan_err hj (lex_join_err ho)]
        simp
        omega
      | ok x r' =>
        have := lexOne_le ho
        rw [scan_ok hk ho, scan_ok hj (lex_join ho), ih r' (by omega)]
        have e1 : (r ++ 10 :: t).length + 1 = (r.length + 1) + (t.length + 1) := by simp; omega
        rw [e1]
        cases hr : scan r' with
        | err => rfl
        | ok ts =>
          have htk := scan_toks _ r' ts (Nat.le_refl _) hr
          simp only [SR.cons]
          cases ht : scan t with
          | err => rfl
          | ok us =>
            cases htk <;> rfl

end Go.Pu
