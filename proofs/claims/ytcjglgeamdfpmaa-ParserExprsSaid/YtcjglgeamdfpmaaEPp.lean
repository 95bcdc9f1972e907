/- The expressions of the tariff language, parsed: plain definitions and laws, with no program in sight. -/
import Derived.Test.YtcjglgeamdfpmaaEPl
namespace Go.Pu

inductive PE where
  | mk (op num : Int) (text : Bs) (args : List PE)

def two (op : Int) (a b : PE) : PE := .mk op 0 [] [a, b]
def neg (a : PE) : PE := .mk 4 0 [] [a]

/-- What parsing comes to: the rest, or how many tokens remain where it fails. -/
inductive PR (α : Type) where
  | ok (a : α) (ts : List Tk)
  | err (rem : Nat) (e : Nat)

def bindO {α β : Type} (x : Option (PR α)) (f : α → List Tk → Option (PR β)) : Option (PR β) := match x with
  | none => none
  | some (.ok a r) => f a r
  | some (.err k e) => some (.err k e)
def failT {α : Type} (ts : List Tk) (e : Nat) : PR α := .err ts.length e

def kOr : Bs := [111, 114]
def kAnd : Bs := [97, 110, 100]
def kNot : Bs := [110, 111, 116]

def isWord (s : Bs) : List Tk → Bool
  | .word w :: _ => w == s
  | _ => false
def isSymT (s : Bs) : List Tk → Bool
  | .sym w :: _ => w == s
  | _ => false

/-- The operator at the head, at a level of operators that bind from the left. -/
def chainOp : Nat → List Tk → Option Int
  | 1, ts => if isWord kOr ts then some 6 else none
  | 2, ts => if isWord kAnd ts then some 5 else none
  | 5, ts => if isSymT [43] ts then some 11 else if isSymT [45] ts then some 12 else none
  | 6, ts => if isSymT [42] ts then some 13 else if isSymT [47] ts then some 14 else if isSymT [37] ts then some 15 else none
  | _, _ => none
/-- The comparison at the head, and whether its operands change places. -/
def cmpOp (ts : List Tk) : Option (Int × Bool) :=
  if isSymT [61] ts then some (7, false) else if isSymT [60, 62] ts then some (8, false) else if isSymT [60] ts then some (9, false)
  else if isSymT [60, 61] ts then some (10, false) else if isSymT [62] ts then some (9, true) else if isSymT [62, 61] ts then some (10, true) else none

def attrs : List Bs := [[107, 105, 110, 100], [117, 110, 105, 116, 115], [119, 101, 101, 107, 100, 97, 121], [109, 105, 110, 117, 116, 101], [116, 111, 116, 97, 108], [115, 112, 101, 110, 116], [122, 111, 110, 101], [98, 97, 110, 100], [102, 97, 109, 105, 108, 121]]
def isAttr (s : Bs) : Bool := attrs.contains s

/-- A number without leading zeros. -/
def numB (d : Bs) : Bool := !(decide (1 < d.length) && headIs (fun c => c.toNat == 48) d)
def numberT : List Tk → PR Int
  | .num d :: r => if numB d then .ok (value d) r else failT (.num d :: r) 1
  | ts => failT ts 1
def nameT : List Tk → PR Bs
  | .word w :: r => if isKw w then failT (.word w :: r) 1 else .ok w r
  | ts => failT ts 1

mutual
def pE : Nat → Nat → List Tk → Option (PR PE)
  | 0, _, _ => none
  | n + 1, L, ts =>
    if L = 3 then (if isWord kNot ts then bindO (pE n 3 ts.tail) fun a r => some (.ok (neg a) r) else pE n 4 ts)
    else if L = 4 then bindO (pE n 5 ts) fun a r => (match cmpOp r with
      | none => some (.ok a r)
      | some (op, turned) => bindO (pE n 5 r.tail) fun b r' => some (.ok (if turned then two op b a else two op a b) r'))
    else if L = 7 then (match ts with
      | .num d :: r => if numB d then some (.ok (.mk 1 (value d) [] []) r) else some (failT ts 1)
      | .text s :: r => some (.ok (.mk 2 0 s []) r)
      | .word w :: r => if isAttr w then some (.ok (.mk 3 0 w []) r) else if isKw w then some (failT ts 1) else some (.ok (.mk 3 0 w []) r)
      | _ => if isSymT [40] ts then bindO (pE n 1 ts.tail) fun a r => (if isSymT [41] r then some (.ok a r.tail) else some (failT r 1)) else some (failT ts 1))
    else bindO (pE n (L + 1) ts) fun a r => pL n L a r
def pL : Nat → Nat → PE → List Tk → Option (PR PE)
  | 0, _, _, _ => none
  | n + 1, L, a, ts => match chainOp L ts with
    | none => some (.ok a ts)
    | some op => bindO (pE n (L + 1) ts.tail) fun b r => pL n L (two op a b) r
end

theorem bindO_some {α β : Type} {x : Option (PR α)} {f : α → List Tk → Option (PR β)} {r : PR β} (h : bindO x f = some r) : (∃ a ts, x = some (.ok a ts) ∧ f a ts = some r) ∨ (∃ k e, x = some (.err k e) ∧ r = .err k e) := by
  cases x with
  | none => cases h
  | some q =>
    cases q with
    | ok a ts => exact .inl ⟨a, ts, rfl, h⟩
    | err k e => simp only [bindO, Option.some.injEq] at h; exact .inr ⟨k, e, rfl, h.symm⟩
theorem bindO_ok {α β : Type} {a : α} {ts : List Tk} {f : α → List Tk → Option (PR β)} : bindO (some (.ok a ts)) f = f a ts := rfl
theorem bindO_err {α β : Type} {k e : Nat} {f : α → List Tk → Option (PR β)} : bindO (some (.err k e)) f = some (.err k e) := rfl
theorem bindO_mono {α β : Type} {x x' : Option (PR α)} {f f' : α → List Tk → Option (PR β)} {r : PR β} (h : bindO x f = some r) (hx : ∀ q, x = some q → x' = some q) (hf : ∀ a ts q, f a ts = some q → f' a ts = some q) : bindO x' f' = some r := by
  rcases bindO_some h with ⟨a, ts, h1, h2⟩ | ⟨k, e, h1, h2⟩
  · rw [hx _ h1]; exact hf _ _ _ h2
  · rw [hx _ h1, h2]; rfl

theorem pE_succ (n L : Nat) (ts : List Tk) : pE (n + 1) L ts =
    if L = 3 then (if isWord kNot ts then bindO (pE n 3 ts.tail) fun a r => some (.ok (neg a) r) else pE n 4 ts)
    else if L = 4 then bindO (pE n 5 ts) fun a r => (match cmpOp r with
      | none => some (.ok a r)
      | some (op, turned) => bindO (pE n 5 r.tail) fun b r' => some (.ok (if turned then two op b a else two op a b) r'))
    else if L = 7 then (match ts with
      | .num d :: r => if numB d then some (.ok (.mk 1 (value d) [] []) r) else some (failT ts 1)
      | .text s :: r => some (.ok (.mk 2 0 s []) r)
      | .word w :: r => if isAttr w then some (.ok (.mk 3 0 w []) r) else if isKw w then some (failT ts 1) else some (.ok (.mk 3 0 w []) r)
      | _ => if isSymT [40] ts then bindO (pE n 1 ts.tail) fun a r => (if isSymT [41] r then some (.ok a r.tail) else some (failT r 1)) else some (failT ts 1))
    else bindO (pE n (L + 1) ts) fun a r => pL n L a r := by
  conv => lhs; unfold pE
theorem pL_succ (n L : Nat) (a : PE) (ts : List Tk) : pL (n + 1) L a ts = match chainOp L ts with
    | none => some (.ok a ts)
    | some op => bindO (pE n (L + 1) ts.tail) fun b r => pL n L (two op a b) r := by
  conv => lhs; unfold pL

theorem p_mono : ∀ n, (∀ L ts r, pE n L ts = some r → pE (n + 1) L ts = some r) ∧ (∀ L a ts r, pL n L a ts = some r → pL (n + 1) L a ts = some r) := by
  intro n
  induction n with
  | zero => exact ⟨fun L ts r h => by simp [pE] at h, fun L a ts r h => by simp [pL] at h⟩
  | succ n ih =>
    obtain ⟨i1, i2⟩ := ih
    constructor
    · intro L ts r h
      rw [pE_succ] at h ⊢
      by_cases h3 : L = 3
      · rw [if_pos h3] at h ⊢
        by_cases hw : isWord kNot ts = true
        · rw [if_pos hw] at h ⊢; exact bindO_mono h (i1 _ _) (fun _ _ _ h => h)
        · rw [if_neg hw] at h ⊢; exact i1 _ _ _ h
      · rw [if_neg h3] at h ⊢
        by_cases h4 : L = 4
        · rw [if_pos h4] at h ⊢
          refine bindO_mono h (i1 _ _) (fun a ts q h => ?_)
          cases hc : cmpOp ts with
          | none => rw [hc] at h; exact h
          | some o =>
            obtain ⟨op, turned⟩ := o
            rw [hc] at h
            exact bindO_mono h (i1 _ _) (fun _ _ _ h => h)
        · rw [if_neg h4] at h ⊢
          by_cases h7 : L = 7
          · rw [if_pos h7] at h ⊢
            have par : (if isSymT [40] ts then bindO (pE n 1 ts.tail) fun a r => (if isSymT [41] r then some (.ok a r.tail) else some (failT r 1)) else some (failT ts 1)) = some r →
                (if isSymT [40] ts then bindO (pE (n + 1) 1 ts.tail) fun a r => (if isSymT [41] r then some (.ok a r.tail) else some (failT r 1)) else some (failT ts 1)) = some r := fun h => by
              by_cases hw : isSymT [40] ts = true
              · rw [if_pos hw] at h ⊢; exact bindO_mono h (i1 _ _) (fun _ _ _ h => h)
              · rw [if_neg hw] at h ⊢; exact h
            cases ts with
            | nil => exact par h
            | cons t ts =>
              cases t with
              | num d => exact h
              | text d => exact h
              | word d => exact h
              | sym d => exact par h
              | fin => exact par h
          · rw [if_neg h7] at h ⊢
            exact bindO_mono h (i1 _ _) (fun _ _ _ h => i2 _ _ _ _ h)
    · intro L a ts r h
      rw [pL_succ] at h ⊢
      split at h
      · exact h
      · exact bindO_mono h (i1 _ _) (fun _ _ _ h => i2 _ _ _ _ h)
theorem pE_le {n m L : Nat} {ts : List Tk} {r : PR PE} (h : n ≤ m) (hp : pE n L ts = some r) : pE m L ts = some r := by
  induction m with
  | zero => obtain rfl : n = 0 := by omega
            exact hp
  | succ m ih =>
    by_cases hn : n = m + 1
    · subst hn; exact hp
    · exact (p_mono m).1 _ _ _ (ih (by omega))
theorem pL_le {n m L : Nat} {a : PE} {ts : List Tk} {r : PR PE} (h : n ≤ m) (hp : pL n L a ts = some r) : pL m L a ts = some r := by
  induction m with
  | zero => obtain rfl : n = 0 := by omega
            exact hp
  | succ m ih =>
    by_cases hn : n = m + 1
    · subst hn; exact hp
    · exact (p_mono m).2 _ _ _ _ (ih (by omega))
theorem pE_det {n m L : Nat} {ts : List Tk} {r r' : PR PE} (h : pE n L ts = some r) (h' : pE m L ts = some r') : r = r' := by
  have h1 := pE_le (Nat.le_max_left n m) h
  have h2 := pE_le (Nat.le_max_right n m) h'
  rw [h1] at h2
  simpa using h2

theorem isWord_cons {s : Bs} {ts : List Tk} (h : isWord s ts = true) : ts = .word s :: ts.tail := by
  cases ts with
  | nil => cases h
  | cons t ts => cases t <;> simp_all [isWord]
theorem isSymT_cons {s : Bs} {ts : List Tk} (h : isSymT s ts = true) : ts = .sym s :: ts.tail := by
  cases ts with
  | nil => cases h
  | cons t ts => cases t <;> simp_all [isSymT]
theorem isWord_len {s : Bs} {ts : List Tk} (h : isWord s ts = true) : ts.length = ts.tail.length + 1 := by
  have := isWord_cons h
  rw [this]; simp
theorem isSymT_len {s : Bs} {ts : List Tk} (h : isSymT s ts = true) : ts.length = ts.tail.length + 1 := by
  have := isSymT_cons h
  rw [this]; simp
theorem chainOp_len {L : Nat} {ts : List Tk} {op : Int} (h : chainOp L ts = some op) : ts.length = ts.tail.length + 1 := by
  unfold chainOp at h
  split at h
  · split at h
    · rename_i hw; exact isWord_len hw
    · cases h
  · split at h
    · rename_i hw; exact isWord_len hw
    · cases h
  · split at h
    · rename_i hw; exact isSymT_len hw
    · split at h
      · rename_i hw; exact isSymT_len hw
      · cases h
  · split at h
    · rename_i hw; exact isSymT_len hw
    · split at h
      · rename_i hw; exact isSymT_len hw
      · split at h
        · rename_i hw; exact isSymT_len hw
        · cases h
  · cases h
theorem cmpOp_len {ts : List Tk} {o : Int × Bool} (h : cmpOp ts = some o) : ts.length = ts.tail.length + 1 := by
  unfold cmpOp at h
  repeat' (split at h; · rename_i hw; exact isSymT_len hw)
  cases h

/-- With fuel enough, parsing ends. -/
theorem p_total : ∀ n, (∀ L ts, 1 ≤ L → L ≤ 7 → 10 * ts.length + (8 - L) ≤ n → ∃ r, pE n L ts = some r ∧ ∀ a q, r = .ok a q → q.length < ts.length) ∧
    (∀ L a ts, 1 ≤ L → L ≤ 6 → 10 * ts.length + 9 ≤ n → ∃ r, pL n L a ts = some r ∧ ∀ b q, r = .ok b q → q.length ≤ ts.length) := by
  intro n
  induction n with
  | zero => exact ⟨fun L ts h1 h2 h => by omega, fun L a ts h1 h2 h => by omega⟩
  | succ n ih =>
    obtain ⟨i1, i2⟩ := ih
    constructor
    · intro L ts h1 h2 h
      rw [pE_succ]
      by_cases h3 : L = 3
      · rw [if_pos h3]
        split
        · rename_i hw
          have hl := isWord_len hw
          obtain ⟨r, e1, e2⟩ := i1 3 ts.tail (by omega) (by omega) (by omega)
          rw [e1]
          cases r with
          | ok a q => exact ⟨_, rfl, fun b q' hh => by cases hh; have := e2 a q rfl; omega⟩
          | err k e => exact ⟨_, rfl, fun b q' hh => by cases hh⟩
        · exact i1 4 ts (by omega) (by omega) (by omega)
      · rw [if_neg h3]
        by_cases h4 : L = 4
        · rw [if_pos h4]
          obtain ⟨r, e1, e2⟩ := i1 5 ts (by omega) (by omega) (by omega)
          rw [e1]
          cases r with
          | err k e => exact ⟨_, rfl, fun b q' hh => by cases hh⟩
          | ok a q =>
            have hq := e2 a q rfl
            rw [bindO_ok]
            cases hc : cmpOp q with
            | none => exact ⟨_, rfl, fun b q' hh => by cases hh; exact hq⟩
            | some o =>
              obtain ⟨op, turned⟩ := o
              have hl := cmpOp_len hc
              obtain ⟨r, f1, f2⟩ := i1 5 q.tail (by omega) (by omega) (by omega)
              simp only
              rw [f1]
              cases r with
              | ok b q2 => exact ⟨_, rfl, fun b q' hh => by cases hh; have := f2 _ _ rfl; omega⟩
              | err k e => exact ⟨_, rfl, fun b q' hh => by cases hh⟩
        · rw [if_neg h4]
          by_cases h7 : L = 7
          · rw [if_pos h7]
            split
            · split
              · exact ⟨_, rfl, fun b q' hh => by cases hh; simp⟩
              · exact ⟨_, rfl, fun b q' hh => by cases hh⟩
            · exact ⟨_, rfl, fun b q' hh => by cases hh; simp⟩
            · split
              · exact ⟨_, rfl, fun b q' hh => by cases hh; simp⟩
              · split
                · exact ⟨_, rfl, fun b q' hh => by cases hh⟩
                · exact ⟨_, rfl, fun b q' hh => by cases hh; simp⟩
            · split
              · rename_i hs
                have hl := isSymT_len hs
                obtain ⟨r, e1, e2⟩ := i1 1 ts.tail (by omega) (by omega) (by omega)
                rw [e1]
                cases r with
                | ok a q =>
                  have hq := e2 a q rfl
                  rw [bindO_ok]
                  split
                  · rename_i hs2
                    have hl2 := isSymT_len hs2
                    exact ⟨_, rfl, fun b q' hh => by cases hh; omega⟩
                  · exact ⟨_, rfl, fun b q' hh => by cases hh⟩
                | err k e => exact ⟨_, rfl, fun b q' hh => by cases hh⟩
              · exact ⟨_, rfl, fun b q' hh => by cases hh⟩
          · rw [if_neg h7]
            obtain ⟨r, e1, e2⟩ := i1 (L + 1) ts (by omega) (by omega) (by omega)
            rw [e1]
            cases r with
            | err k e => exact ⟨_, rfl, fun b q' hh => by cases hh⟩
            | ok a q =>
              have hq := e2 a q rfl
              obtain ⟨r, f1, f2⟩ := i2 L a q (by omega) (by omega) (by omega)
              exact ⟨r, f1, fun b q' hh => by have := f2 b q' hh; omega⟩
    · intro L a ts h1 h2 h
      rw [pL_succ]
      cases hc : chainOp L ts with
      | none => exact ⟨_, rfl, fun b q hh => by cases hh; exact Nat.le_refl _⟩
      | some op =>
        have hl := chainOp_len hc
        obtain ⟨r, e1, e2⟩ := i1 (L + 1) ts.tail (by omega) (by omega) (by omega)
        simp only
        rw [e1]
        cases r with
        | err k e => exact ⟨_, rfl, fun b q' hh => by cases hh⟩
        | ok b q =>
          have hq := e2 b q rfl
          obtain ⟨r, f1, f2⟩ := i2 L (two op a b) q (by omega) (by omega) (by omega)
          exact ⟨r, f1, fun b q' hh => by have := f2 b q' hh; omega⟩

/-- An expression, parsed. -/
def pExpr (ts : List Tk) : Option (PR PE) := pE (10 * ts.length + 10) 1 ts
theorem pExpr_some (ts : List Tk) : ∃ r, pExpr ts = some r ∧ ∀ a q, r = .ok a q → q.length < ts.length := by
  obtain ⟨r, h1, h2⟩ := (p_total (10 * ts.length + 10)).1 1 ts (by omega) (by omega) (by omega)
  exact ⟨r, h1, h2⟩
end Go.Pu
