/- Plain laws of counters: canonical lists of counters and adding to them, with no program in sight. -/
namespace Go.Pu

structure Ctr where
  s : Int
  k : Int
  f : Int
  u : Int
  p : Int
  deriving DecidableEq

def sgn (a b : Int) : Int := if a < b then -1 else if b < a then 1 else 0
def ord (a b : Ctr) : Int := if a.s = b.s then (if a.k = b.k then sgn a.f b.f else sgn a.k b.k) else sgn a.s b.s

def klt (a b : Ctr) : Prop := a.s < b.s ∨ a.s = b.s ∧ (a.k < b.k ∨ a.k = b.k ∧ a.f < b.f)
def keq (a b : Ctr) : Prop := a.s = b.s ∧ a.k = b.k ∧ a.f = b.f

theorem ord_spec (a b : Ctr) : (klt a b ∧ ord a b = -1) ∨ (keq a b ∧ ord a b = 0) ∨ (klt b a ∧ ord a b = 1) := by
  unfold klt keq ord sgn
  repeat' split
  all_goals omega

theorem ord_lt {a b : Ctr} : ord a b < 0 ↔ klt a b := by
  have := ord_spec a b
  unfold klt keq at *
  omega
theorem ord_lt1 {a b : Ctr} : ord a b = -1 ↔ klt a b := by
  have := ord_spec a b
  unfold klt keq at *
  omega
theorem ord_eq {a b : Ctr} : ord a b = 0 ↔ keq a b := by
  have := ord_spec a b
  unfold klt keq at *
  omega
theorem ord_gt {a b : Ctr} : 0 < ord a b ↔ klt b a := by
  have := ord_spec a b
  unfold klt keq at *
  omega
theorem ord_gt1 {a b : Ctr} : ord a b = 1 ↔ klt b a := by
  have := ord_spec a b
  unfold klt keq at *
  omega

theorem klt.trans {a b c : Ctr} (h1 : klt a b) (h2 : klt b c) : klt a c := by unfold klt at *; omega
theorem klt.irr {a : Ctr} (h : klt a a) : False := by unfold klt at *; omega
theorem klt.asymm {a b : Ctr} (h : klt a b) (h' : klt b a) : False := (h.trans h').irr
theorem klt.ne {a b : Ctr} (h : klt a b) (h' : keq a b) : False := by unfold klt keq at *; omega
theorem klt.ne' {a b : Ctr} (h : klt a b) (h' : keq b a) : False := by unfold klt keq at *; omega
theorem keq.refl (a : Ctr) : keq a a := ⟨rfl, rfl, rfl⟩
theorem keq.symm {a b : Ctr} (h : keq a b) : keq b a := by unfold keq at *; omega
theorem keq.trans {a b c : Ctr} (h1 : keq a b) (h2 : keq b c) : keq a c := by unfold keq at *; omega
theorem klt.congr {a b a' b' : Ctr} (h : klt a b) (ha : keq a a') (hb : keq b b') : klt a' b' := by unfold klt keq at *; omega
theorem ord_congr {a b a' b' : Ctr} (ha : keq a a') (hb : keq b b') : ord a b = ord a' b' := by
  unfold keq at *; unfold ord sgn
  rw [ha.1, ha.2.1, ha.2.2, hb.1, hb.2.1, hb.2.2]
theorem ktri (a b : Ctr) : klt a b ∨ keq a b ∨ klt b a := by unfold klt keq at *; omega

instance (a b : Ctr) : Decidable (klt a b) := by unfold klt; infer_instance
instance (a b : Ctr) : Decidable (keq a b) := by unfold keq; infer_instance

def keyOk (c : Ctr) : Bool := decide (1 ≤ c.s) && decide (c.s ≤ 9999) && decide (1 ≤ c.k) && decide (c.k < 5) && decide (0 ≤ c.f) && decide (c.f < 12622780800)
def rngOk (c : Ctr) : Bool := decide (0 ≤ c.u) && decide (c.u ≤ 1125899906842624) && decide (0 ≤ c.p) && decide (c.p ≤ 1125899906842624)
def nul (c : Ctr) : Bool := decide (c.u = 0) && decide (c.p = 0)

theorem keyOk_congr {a b : Ctr} (h : keq a b) : keyOk a = keyOk b := by
  unfold keyOk; unfold keq at h; rw [h.1, h.2.1, h.2.2]

def okc (c : Ctr) : Bool := keyOk c && rngOk c && !nul c

def canF : Option Ctr → List Ctr → Bool
  | _, [] => true
  | q, c :: l => okc c && (match q with | none => true | some q => decide (ord q c < 0)) && canF (some c) l
theorem canF_cons (q : Option Ctr) (c : Ctr) (l : List Ctr) : canF q (c :: l) = (okc c && (match q with | none => true | some q => decide (ord q c < 0)) && canF (some c) l) := by cases q <;> rfl
def chk (l : List Ctr) : Bool := canF none l

def Can (l : List Ctr) : Prop := (∀ c ∈ l, okc c = true) ∧ l.Pairwise klt

theorem canF_iff : ∀ (l : List Ctr) (q : Option Ctr), canF q l = true ↔ (Can l ∧ ∀ a ∈ q, ∀ c ∈ l, klt a c)
  | [], q => by simp [canF, Can]
  | c :: l, q => by
    simp only [canF, Bool.and_eq_true]
    rw [canF_iff l (some c)]
    unfold Can
    simp only [List.mem_cons, forall_eq_or_imp, List.pairwise_cons, Option.mem_def, Option.some.injEq, forall_eq']
    cases q with
    | none => simp; grind
    | some a =>
      simp only [decide_eq_true_eq, ord_lt, Option.some.injEq, forall_eq']
      constructor
      · rintro ⟨⟨h1, h2⟩, ⟨h3, h4⟩, h5⟩
        exact ⟨⟨⟨h1, h3⟩, h5, h4⟩, h2, fun x hx => h2.trans (h5 x hx)⟩
      · rintro ⟨⟨⟨h1, h3⟩, h5, h4⟩, h2, _⟩
        exact ⟨⟨h1, h2⟩, ⟨h3, h4⟩, h5⟩

theorem chk_iff (l : List Ctr) : chk l = true ↔ Can l := by
  unfold chk
  rw [canF_iff]
  simp

/-- The counter of a key. -/
def getC : List Ctr → Ctr → Ctr
  | [], q => q
  | x :: l, q => if ord x q = 0 then x else getC l q

def key (c : Ctr) : Ctr := { c with u := 0, p := 0 }
def plus (a c : Ctr) : Ctr := { c with u := c.u + a.u, p := c.p + a.p }
def nz (c : Ctr) : List Ctr := if nul c then [] else [c]

def addL (c : Ctr) : List Ctr → List Ctr
  | [] => nz c
  | x :: l => if ord x c < 0 then x :: addL c l else if ord x c = 0 then nz (plus x c) ++ l else nz c ++ x :: l

theorem key_keq (c : Ctr) : keq (key c) c := ⟨rfl, rfl, rfl⟩
theorem plus_keq (a c : Ctr) : keq (plus a c) c := ⟨rfl, rfl, rfl⟩

theorem getC_keq : ∀ (l : List Ctr) (q : Ctr), keq (getC l q) q
  | [], q => keq.refl q
  | x :: l, q => by
    unfold getC
    split
    · rename_i h; exact ord_eq.1 h
    · exact getC_keq l q

theorem Can.tail {x : Ctr} {l : List Ctr} (h : Can (x :: l)) : Can l := ⟨fun c hc => h.1 c (by simp [hc]), (List.pairwise_cons.1 h.2).2⟩
theorem Can.head {x : Ctr} {l : List Ctr} (h : Can (x :: l)) : okc x = true := h.1 x (by simp)
theorem Can.lt {x : Ctr} {l : List Ctr} (h : Can (x :: l)) : ∀ c ∈ l, klt x c := (List.pairwise_cons.1 h.2).1

theorem getC_none {l : List Ctr} {q : Ctr} (h : ∀ c ∈ l, ¬ keq c q) : getC l q = q := by
  induction l with
  | nil => rfl
  | cons x l ih =>
    unfold getC
    rw [if_neg (fun e => h x (by simp) (ord_eq.1 e))]
    exact ih (fun c hc => h c (by simp [hc]))

theorem getC_append (a b : List Ctr) (q : Ctr) (h : ∀ c ∈ a, ¬ keq c q) : getC (a ++ b) q = getC b q := by
  induction a with
  | nil => rfl
  | cons x a ih =>
    simp only [List.cons_append, getC]
    rw [if_neg (fun e => h x (by simp) (ord_eq.1 e))]
    exact ih (fun c hc => h c (by simp [hc]))

theorem okc_nul {c : Ctr} (h : okc c = true) : nul c = false := by simp [okc] at h; exact h.2
theorem okc_key {c : Ctr} (h : okc c = true) : keyOk c = true := by simp [okc] at h; exact h.1.1
theorem okc_rng {c : Ctr} (h : okc c = true) : rngOk c = true := by simp [okc] at h; exact h.1.2

theorem mem_nz {c x : Ctr} (h : x ∈ nz c) : x = c ∧ nul c = false := by
  unfold nz at h
  split at h
  · cases h
  · simp at h; rename_i hn; exact ⟨h, by simpa using hn⟩

theorem mem_addL {c : Ctr} : ∀ {l : List Ctr} {x : Ctr}, x ∈ addL c l → x ∈ l ∨ keq x c
  | [], x, h => Or.inr ((mem_nz h).1 ▸ keq.refl c)
  | y :: l, x, h => by
    unfold addL at h
    split at h
    · rcases List.mem_cons.1 h with h | h
      · exact Or.inl (by simp [h])
      · rcases mem_addL h with h | h
        · exact Or.inl (by simp [h])
        · exact Or.inr h
    · split at h
      · rcases List.mem_append.1 h with h | h
        · exact Or.inr ((mem_nz h).1 ▸ plus_keq y c)
        · exact Or.inl (by simp [h])
      · rcases List.mem_append.1 h with h | h
        · exact Or.inr ((mem_nz h).1 ▸ keq.refl c)
        · exact Or.inl h

theorem getC_cons_eq {x : Ctr} {l : List Ctr} {q : Ctr} (h : ord x q = 0) : getC (x :: l) q = x := by simp only [getC, if_pos h]
theorem getC_cons_ne {x : Ctr} {l : List Ctr} {q : Ctr} (h : ¬ ord x q = 0) : getC (x :: l) q = getC l q := by simp only [getC, if_neg h]

theorem plus_key (c q : Ctr) (h : keq q c) : plus { q with u := 0, p := 0 } c = c := by
  unfold plus
  cases c; simp

/-- The sum at the key, and no other key. -/
theorem addL_can {c : Ctr} (hk : keyOk c = true) (hr : rngOk c = true) : ∀ {l : List Ctr}, Can l → rngOk (plus (getC l (key c)) c) = true → Can (addL c l)
  | [], h, hs => by
    unfold addL nz
    split
    · exact h
    · rename_i hn
      exact ⟨by simp [okc, hk, hr, hn], by simp⟩
  | x :: l, h, hs => by
    unfold addL
    split
    · rename_i hlt
      have hx : ¬ ord x (key c) = 0 := by
        rw [ord_congr (keq.refl x) (key_keq c)]; omega
      rw [getC_cons_ne hx] at hs
      have hc := addL_can hk hr h.tail hs
      refine ⟨fun y hy => ?_, List.pairwise_cons.2 ⟨fun y hy => ?_, hc.2⟩⟩
      · rcases List.mem_cons.1 hy with rfl | hy
        · exact h.head
        · exact hc.1 y hy
      · rcases mem_addL hy with hy | hy
        · exact h.lt y hy
        · exact (ord_lt.1 hlt).congr (keq.refl x) hy.symm
    · split
      · rename_i h1 h2
        have hx : ord x (key c) = 0 := by rw [ord_congr (keq.refl x) (key_keq c)]; exact h2
        rw [getC_cons_eq hx] at hs
        unfold nz
        split
        · exact h.tail
        · rename_i hn
          refine ⟨fun y hy => ?_, List.pairwise_cons.2 ⟨fun y hy => ?_, h.tail.2⟩⟩
          · rcases List.mem_cons.1 hy with rfl | hy
            · have : keyOk (plus x c) = true := by rw [keyOk_congr (plus_keq x c)]; exact hk
              simp [okc, this, hs, hn]
            · exact h.tail.1 y hy
          · exact (h.lt y hy).congr ((ord_eq.1 h2).trans (plus_keq x c).symm) (keq.refl y)
      · rename_i h1 h2
        unfold nz
        split
        · exact h
        · rename_i hn
          have hgt : klt c x := by
            rcases ktri x c with h3 | h3 | h3
            · exact absurd (ord_lt.2 h3) h1
            · exact absurd (ord_eq.2 h3) h2
            · exact h3
          refine ⟨fun y hy => ?_, List.pairwise_cons.2 ⟨fun y hy => ?_, h.2⟩⟩
          · rcases List.mem_cons.1 hy with rfl | hy
            · simp [okc, hk, hr, hn]
            · exact h.1 y hy
          · rcases List.mem_cons.1 hy with rfl | hy
            · exact hgt
            · exact hgt.trans (h.lt y hy)

/-- Two counters hold the same. -/
def val (c : Ctr) : Int × Int := (c.u, c.p)

theorem ctr_ext {a b : Ctr} (h : keq a b) (h' : val a = val b) : a = b := by
  cases a; cases b
  simp only [keq, val, Prod.mk.injEq] at h h'
  simp [h, h']

theorem getC_key (l : List Ctr) (q : Ctr) (c : Ctr) (h : keq q c) : val (getC l (key q)) = val (getC l (key c)) := by
  have : key q = key c := by unfold key; unfold keq at h; cases q; cases c; simp_all
  rw [this]

theorem val_get_head {x : Ctr} {l : List Ctr} (h : Can (x :: l)) (q : Ctr) (hq : ¬ keq x q) (hlt : klt q x) : getC (x :: l) q = q := by
  refine getC_none fun c hc => ?_
  rcases List.mem_cons.1 hc with rfl | hc
  · exact hq
  · exact fun e => (hlt.trans (h.lt c hc)).ne e.symm

theorem getC_addL {c : Ctr} : ∀ {l : List Ctr}, Can l → ∀ q : Ctr, val (getC (addL c l) (key q)) = if keq q c then val (plus (getC l (key c)) c) else val (getC l (key q))
  | [], h, q => by
    unfold addL nz
    split
    · rename_i hn
      simp only [nul, Bool.and_eq_true, decide_eq_true_eq] at hn
      split
      · simp [getC, val, key, plus, hn.1, hn.2]
      · rfl
    · split
      · rename_i hq
        have : ord c (key q) = 0 := ord_eq.2 (hq.symm.trans (key_keq q).symm)
        rw [getC_cons_eq this]
        simp [getC, val, key, plus]
      · rename_i hq
        have : ¬ ord c (key q) = 0 := fun e => hq ((ord_eq.1 e).trans (key_keq q)).symm
        rw [getC_cons_ne this]
  | x :: l, h, q => by
    unfold addL
    split
    · rename_i hlt
      have hlt := ord_lt.1 hlt
      have hxc : ¬ ord x (key c) = 0 := fun e => hlt.ne ((ord_eq.1 e).trans (key_keq c))
      rw [getC_cons_ne hxc]
      by_cases hq : ord x (key q) = 0
      · rw [getC_cons_eq hq, getC_cons_eq hq, if_neg]
        intro e
        exact hlt.ne ((ord_eq.1 hq).trans ((key_keq q).trans e))
      · rw [getC_cons_ne hq, getC_cons_ne hq]
        exact getC_addL h.tail q
    · split
      · rename_i h1 h2
        have h2 := ord_eq.1 h2
        have hxc : ord x (key c) = 0 := ord_eq.2 (h2.trans (key_keq c).symm)
        rw [getC_cons_eq hxc]
        by_cases hq : keq q c
        · rw [if_pos hq]
          have hl : ∀ y ∈ l, ¬ keq y (key q) := fun y hy e => ((h.lt y hy).congr h2 (keq.refl y)).ne (((e.trans (key_keq q)).trans hq).symm)
          unfold nz
          split
          · rename_i hn
            simp only [nul, Bool.and_eq_true, decide_eq_true_eq] at hn
            simp only [List.nil_append]
            rw [getC_none hl]
            simp [val, key, hn.1, hn.2]
          · have : ord (plus x c) (key q) = 0 := ord_eq.2 ((plus_keq x c).trans (hq.symm.trans (key_keq q).symm))
            simp only [List.cons_append, List.nil_append]
            rw [getC_cons_eq this]
        · rw [if_neg hq]
          have hxq : ¬ ord x (key q) = 0 := fun e => hq (((ord_eq.1 e).trans (key_keq q)).symm.trans h2)
          rw [getC_cons_ne hxq, getC_append]
          intro y hy e
          have := (mem_nz hy).1
          subst this
          exact hq (((plus_keq x c).symm.trans e).trans (key_keq q)).symm
      · rename_i h1 h2
        have hgt : klt c x := by
          rcases ktri x c with h3 | h3 | h3
          · exact absurd (ord_lt.2 h3) h1
          · exact absurd (ord_eq.2 h3) h2
          · exact h3
        have hnone : ∀ q, keq q c → getC (x :: l) (key q) = key q := fun q hq => getC_none fun y hy e => by
          have : klt c y := by
            rcases List.mem_cons.1 hy with rfl | hy
            · exact hgt
            · exact hgt.trans (h.lt y hy)
          exact this.ne (((e.trans (key_keq q)).trans hq).symm)
        by_cases hq : keq q c
        · rw [if_pos hq, hnone c (keq.refl c)]
          unfold nz
          split
          · rename_i hn
            simp only [nul, Bool.and_eq_true, decide_eq_true_eq] at hn
            simp only [List.nil_append]
            rw [hnone q hq]
            simp [val, key, plus, hn.1, hn.2]
          · have : ord c (key q) = 0 := ord_eq.2 (hq.symm.trans (key_keq q).symm)
            simp only [List.cons_append, List.nil_append]
            rw [getC_cons_eq this]
            simp [val, key, plus]
        · rw [if_neg hq, getC_append]
          intro y hy e
          have := (mem_nz hy).1
          subst this
          exact hq (e.trans (key_keq q)).symm

/-- Canonical lists that hold the same are equal. -/
theorem can_ext : ∀ {a b : List Ctr}, Can a → Can b → (∀ q, val (getC a (key q)) = val (getC b (key q))) → a = b
  | [], [], _, _, _ => rfl
  | [], y :: b, _, hb, h => by
    have := h y
    rw [getC_cons_eq (ord_eq.2 (key_keq y).symm)] at this
    have hn := okc_nul hb.head
    simp [getC, val, key] at this
    simp [nul, ← this.1, ← this.2] at hn
  | x :: a, [], ha, _, h => by
    have := h x
    rw [getC_cons_eq (ord_eq.2 (key_keq x).symm)] at this
    have hn := okc_nul ha.head
    simp [getC, val, key] at this
    simp [nul, this.1, this.2] at hn
  | x :: a, y :: b, ha, hb, h => by
    have nil_of : ∀ {x y : Ctr} {a b : List Ctr}, Can (x :: a) → Can (y :: b) → (∀ q, val (getC (x :: a) (key q)) = val (getC (y :: b) (key q))) → klt x y → False := by
      intro x y a b ha hb h hlt
      have := h x
      rw [getC_cons_eq (ord_eq.2 (key_keq x).symm), val_get_head hb _ (fun e => hlt.ne' (e.trans (key_keq x))) (hlt.congr (key_keq x).symm (keq.refl y))] at this
      have hn := okc_nul ha.head
      simp [val, key] at this
      simp [nul, this.1, this.2] at hn
    rcases ktri x y with hlt | he | hgt
    · exact (nil_of ha hb h hlt).elim
    · have hx := h x
      rw [getC_cons_eq (ord_eq.2 (key_keq x).symm), getC_cons_eq (ord_eq.2 (he.symm.trans (key_keq x).symm))] at hx
      obtain rfl := ctr_ext he hx
      congr 1
      refine can_ext ha.tail hb.tail fun q => ?_
      by_cases hq : ord x (key q) = 0
      · have hnone : ∀ {l : List Ctr}, Can (x :: l) → getC l (key q) = key q := fun hl => getC_none fun c hc e => (hl.lt c hc).ne ((ord_eq.1 hq).trans e.symm)
        rw [hnone ha, hnone hb]
      · have := h q
        rw [getC_cons_ne hq, getC_cons_ne hq] at this
        exact this
    · exact (nil_of hb ha (fun q => (h q).symm) hgt).elim

/-- The reference's list. -/
def addR (c : Ctr) (l : List Ctr) : List Ctr :=
  let n := plus (getC l (key c)) c
  l.filter (fun x => decide (ord x n < 0)) ++ nz n ++ l.filter (fun x => decide (0 < ord x n))

theorem addR_eq {c : Ctr} : ∀ {l : List Ctr}, Can l → addR c l = addL c l
  | [], h => by
    have : plus (key c) c = c := by simp [plus, key]
    simp [addR, addL, getC, this]
  | x :: l, h => by
    have hord : ∀ y a, ord y (plus a c) = ord y c := fun y a => ord_congr (keq.refl y) (plus_keq a c)
    unfold addR addL
    simp only [hord, List.filter_cons]
    split
    · rename_i hlt
      have hlt' := ord_lt.1 (by simpa using hlt)
      have hxc : ¬ ord x (key c) = 0 := fun e => hlt'.ne ((ord_eq.1 e).trans (key_keq c))
      have h1 : ord x c < 0 := by simpa using hlt
      have ih := addR_eq (c := c) h.tail
      unfold addR at ih
      simp only [hord] at ih
      rw [getC_cons_ne hxc, if_pos h1, if_neg (by simp; omega), ← ih]
      simp
    · rename_i hlt
      have h1 : ¬ ord x c < 0 := by simpa using hlt
      have hl : ∀ y ∈ l, klt c y := by
        intro y hy
        rcases ktri x c with h3 | h3 | h3
        · exact absurd (ord_lt.2 h3) h1
        · exact (h.lt y hy).congr h3 (keq.refl y)
        · exact h3.trans (h.lt y hy)
      have f1 : l.filter (fun x => decide (ord x c < 0)) = [] := by
        rw [List.filter_eq_nil_iff]
        intro y hy
        have := ord_gt.2 (hl y hy)
        simp; omega
      have f2 : l.filter (fun x => decide (0 < ord x c)) = l := by
        rw [List.filter_eq_self]
        intro y hy
        have := ord_gt.2 (hl y hy)
        simp; omega
      rw [if_neg h1, f1, f2]
      split
      · rename_i h2
        have h2' : 0 < ord x c := by simpa using h2
        have hg : getC (x :: l) (key c) = key c := by
          refine getC_none fun y hy e => ?_
          rcases List.mem_cons.1 hy with rfl | hy
          · exact (ord_gt.1 h2').ne' (e.trans (key_keq c))
          · exact (hl y hy).ne' (e.trans (key_keq c))
        rw [hg, if_neg (by omega)]
        have : plus (key c) c = c := by simp [plus, key]
        simp [this]
      · rename_i h2
        have h3 : ord x c = 0 := by simp at h2; omega
        have : ord x (key c) = 0 := ord_eq.2 ((ord_eq.1 h3).trans (key_keq c).symm)
        rw [getC_cons_eq this, if_pos h3]
        simp

def tot (g : Ctr → Int) : List Ctr → Int
  | [] => 0
  | c :: l => g c + tot g l

theorem tot_addL_u {c : Ctr} : ∀ {l : List Ctr}, tot Ctr.u (addL c l) = tot Ctr.u l + c.u
  | [] => by
    unfold addL nz
    split
    · rename_i h; simp only [nul, Bool.and_eq_true, decide_eq_true_eq] at h; simp [tot, h.1]
    · simp [tot]
  | x :: l => by
    have ih := tot_addL_u (c := c) (l := l)
    unfold addL nz
    split
    · simp only [tot]; omega
    · split
      · split
        · rename_i h; have h' : c.u + x.u = 0 ∧ c.p + x.p = 0 := by
            simp only [nul, plus, Bool.and_eq_true] at h
            exact ⟨of_decide_eq_true h.1, of_decide_eq_true h.2⟩
          simp [tot]; omega
        · simp [tot, plus]; omega
      · split
        · rename_i h; simp only [nul, Bool.and_eq_true, decide_eq_true_eq] at h; simp [tot, h.1]
        · simp [tot]; omega
theorem tot_addL_p {c : Ctr} : ∀ {l : List Ctr}, tot Ctr.p (addL c l) = tot Ctr.p l + c.p
  | [] => by
    unfold addL nz
    split
    · rename_i h; simp only [nul, Bool.and_eq_true, decide_eq_true_eq] at h; simp [tot, h.2]
    · simp [tot]
  | x :: l => by
    have ih := tot_addL_p (c := c) (l := l)
    unfold addL nz
    split
    · simp only [tot]; omega
    · split
      · split
        · rename_i h; have h' : c.u + x.u = 0 ∧ c.p + x.p = 0 := by
            simp only [nul, plus, Bool.and_eq_true] at h
            exact ⟨of_decide_eq_true h.1, of_decide_eq_true h.2⟩
          simp [tot]; omega
        · simp [tot, plus]; omega
      · split
        · rename_i h; simp only [nul, Bool.and_eq_true, decide_eq_true_eq] at h; simp [tot, h.2]
        · simp [tot]; omega

end Go.Pu
namespace Go.Pu

/-- Where a counter belongs: the places that it takes. -/
def plc (c : Ctr) : List Ctr → Nat × Nat
  | [] => (0, 0)
  | x :: l => if ord x c = 0 then (0, 1) else if ord x c = 1 then (0, 0) else ((plc c l).1 + 1, (plc c l).2 + 1)

theorem plc_le (c : Ctr) : ∀ l : List Ctr, (plc c l).1 ≤ (plc c l).2 ∧ (plc c l).2 ≤ l.length
  | [] => by simp [plc]
  | x :: l => by
    have := plc_le c l
    unfold plc
    split
    · simp
    · split
      · simp
      · simp; omega

theorem plc_addL (c : Ctr) : ∀ l : List Ctr, (plc c l).1 = (plc c l).2 ∧ addL c l = l.take (plc c l).1 ++ nz c ++ l.drop (plc c l).2 ∧ (Can l → getC l (key c) = key c)
    ∨ (∃ h : (plc c l).1 < l.length, (plc c l).2 = (plc c l).1 + 1 ∧ addL c l = l.take (plc c l).1 ++ nz (plus (l[(plc c l).1]) c) ++ l.drop (plc c l).2 ∧ getC l (key c) = l[(plc c l).1])
  | [] => by simp [plc, addL, getC]
  | x :: l => by
    have ih := plc_addL c l
    have hk : ord x (key c) = ord x c := ord_congr (keq.refl x) (key_keq c)
    by_cases h0 : ord x c = 0
    · right
      have hp : plc c (x :: l) = (0, 1) := by simp only [plc, if_pos h0]
      simp only [hp]
      refine ⟨by simp, trivial, ?_, ?_⟩
      · simp only [addL]
        rw [if_neg (by omega), if_pos h0]
        simp
      · rw [getC_cons_eq (by rw [hk]; exact h0)]; rfl
    by_cases h1 : ord x c = 1
    · left
      have hp : plc c (x :: l) = (0, 0) := by simp only [plc, if_neg h0, if_pos h1]
      simp only [hp]
      refine ⟨trivial, ?_, ?_⟩
      · simp only [addL]
        rw [if_neg (by omega), if_neg h0]
        simp
      · intro hc
        refine getC_none fun y hy e => ?_
        have hlt := ord_gt1.1 h1
        rcases List.mem_cons.1 hy with rfl | hy
        · exact hlt.ne' (e.trans (key_keq c))
        · exact (hlt.trans (hc.lt y hy)).ne' (e.trans (key_keq c))
    have hlt : ord x c < 0 := by
      rcases ord_spec x c with h | h | h <;> omega
    have hp : plc c (x :: l) = ((plc c l).1 + 1, (plc c l).2 + 1) := by simp only [plc, if_neg h0, if_neg h1]
    have ha : addL c (x :: l) = x :: addL c l := by simp only [addL, if_pos hlt]
    have hg : getC (x :: l) (key c) = getC l (key c) := getC_cons_ne (by rw [hk]; exact h0)
    simp only [hp, ha, hg]
    rcases ih with ⟨i1, i2, i3⟩ | ⟨h, i1, i2, i3⟩
    · left
      refine ⟨by omega, ?_, fun hc => i3 hc.tail⟩
      rw [i2]; simp
    · right
      refine ⟨by simp; omega, by omega, ?_, ?_⟩
      · rw [i2]; simp
      · simpa using i3

/-- What adding comes to. -/
def addS (l : List Ctr) (c : Ctr) : List Ctr × Int :=
  if chk l = false ∨ keyOk c = false then ([], 8) else if rngOk c = false then ([], 6) else if rngOk (plus (getC l (key c)) c) = false then ([], 6) else (addL c l, 0)

theorem rngOk_iff {c : Ctr} : rngOk c = true ↔ 0 ≤ c.u ∧ c.u ≤ 1125899906842624 ∧ 0 ≤ c.p ∧ c.p ≤ 1125899906842624 := by
  simp only [rngOk, Bool.and_eq_true, decide_eq_true_eq, and_assoc]

theorem getC_rng {l : List Ctr} (h : Can l) (c : Ctr) : rngOk (getC l (key c)) = true := by
  by_cases hm : ∃ x ∈ l, getC l (key c) = x
  · obtain ⟨x, hx, e⟩ := hm
    rw [e]
    exact okc_rng (h.1 x hx)
  · have : getC l (key c) = key c := by
      clear h
      induction l with
      | nil => rfl
      | cons x l ih =>
        by_cases hx : ord x (key c) = 0
        · exact (hm ⟨x, by simp, getC_cons_eq hx⟩).elim
        · rw [getC_cons_ne hx]
          refine ih fun ⟨y, hy, e⟩ => hm ⟨y, by simp [hy], by rw [getC_cons_ne hx]; exact e⟩
    rw [this]
    simp [rngOk, key]

theorem addL_length (c : Ctr) : ∀ l : List Ctr, (addL c l).length ≤ l.length + 1
  | [] => by unfold addL nz; split <;> simp
  | x :: l => by
    have := addL_length c l
    unfold addL nz
    split
    · simpa using this
    · split
      · split <;> simp <;> omega
      · split <;> simp
theorem addS_length (l : List Ctr) (c : Ctr) : (addS l c).1.length ≤ l.length + 1 := by
  unfold addS
  have := addL_length c l
  repeat' split
  all_goals simp; try omega

theorem nz_nil {c : Ctr} (h : c.u = 0) (h' : c.p = 0) : nz c = [] := by simp [nz, nul, h, h']
theorem nz_one {c : Ctr} (h : ¬ (c.u = 0 ∧ c.p = 0)) : nz c = [c] := by
  have : nul c = false := by simpa [nul] using h
  simp [nz, this]


theorem addS_ok {l : List Ctr} {c : Ctr} (h : (addS l c).2 = 0) : Can l ∧ keyOk c = true ∧ rngOk c = true ∧ rngOk (plus (getC l (key c)) c) = true ∧ (addS l c).1 = addL c l := by
  unfold addS at h ⊢
  split at h
  · simp at h
  · rename_i h1
    split at h
    · simp at h
    · rename_i h2
      split at h
      · simp at h
      · rename_i h3
        simp only [not_or, Bool.not_eq_false] at h1 h2 h3
        rw [if_neg (by simp [h1]), if_neg (by simp [h2]), if_neg (by simp [h3])]
        exact ⟨(chk_iff l).1 h1.1, h1.2, h2, h3, rfl⟩
theorem addS_bad {l : List Ctr} {c : Ctr} (h : ¬ (addS l c).2 = 0) : (addS l c).1 = [] := by
  unfold addS at h ⊢
  split
  · rfl
  · rename_i h1
    rw [if_neg h1] at h
    split
    · rfl
    · rename_i h2
      rw [if_neg h2] at h
      split
      · rfl
      · rename_i h3
        rw [if_neg h3] at h
        exact (h rfl).elim
theorem addS_can {l : List Ctr} {c : Ctr} (h : (addS l c).2 = 0) : Can (addS l c).1 := by
  obtain ⟨h1, h2, h3, h4, h5⟩ := addS_ok h
  rw [h5]
  exact addL_can h2 h3 h1 h4

/-- Adding: at the key the sum; at any other key nothing. -/
theorem getC_addS {l : List Ctr} {c : Ctr} (h : (addS l c).2 = 0) : (getC (addS l c).1 (key c)).u = (getC l (key c)).u + c.u ∧ (getC (addS l c).1 (key c)).p = (getC l (key c)).p + c.p := by
  obtain ⟨h1, h2, h3, h4, h5⟩ := addS_ok h
  have := getC_addL (c := c) h1 c
  rw [if_pos (keq.refl c), ← h5] at this
  simp only [val, plus, Prod.mk.injEq] at this
  omega
theorem getC_addS_ne {l : List Ctr} {c q : Ctr} (h : (addS l c).2 = 0) (hq : ¬ keq q c) : getC (addS l c).1 (key q) = getC l (key q) := by
  obtain ⟨h1, h2, h3, h4, h5⟩ := addS_ok h
  have := getC_addL (c := c) h1 q
  rw [if_neg hq, ← h5] at this
  exact ctr_ext ((getC_keq _ _).trans (getC_keq _ _).symm) this

theorem rng_val {a b : Ctr} (h : val a = val b) : rngOk a = rngOk b := by
  simp only [val, Prod.mk.injEq] at h
  simp only [rngOk, h.1, h.2]

theorem addS_of {l : List Ctr} {c : Ctr} (h1 : Can l) (h2 : keyOk c = true) (h3 : rngOk c = true) : addS l c = if rngOk (plus (getC l (key c)) c) = false then ([], 6) else (addL c l, 0) := by
  unfold addS
  rw [if_neg (by simp [(chk_iff l).2 h1, h2]), if_neg (by simp [h3])]

/-- Two counters can be added in either order. -/
theorem addS_order {l : List Ctr} {c d : Ctr} (hc : (addS l c).2 = 0) (hd : (addS l d).2 = 0) : addS (addS l c).1 d = addS (addS l d).1 c := by
  obtain ⟨l1, c2, c3, c4, c5⟩ := addS_ok hc
  obtain ⟨_, d2, d3, d4, d5⟩ := addS_ok hd
  have ca := addS_can hc
  have da := addS_can hd
  have ga := fun q => getC_addL (c := c) l1 q
  have gb := fun q => getC_addL (c := d) l1 q
  rw [← c5] at ga
  rw [← d5] at gb
  rw [addS_of ca d2 d3, addS_of da c2 c3]
  have hr : rngOk (plus (getC (addS l c).1 (key d)) d) = rngOk (plus (getC (addS l d).1 (key c)) c) := by
    by_cases he : keq d c
    · have h1 := ga d
      have h2 := gb c
      rw [if_pos he] at h1
      rw [if_pos he.symm] at h2
      have h3 := getC_key l d c he
      refine rng_val ?_
      simp only [val, plus, Prod.mk.injEq] at h1 h2 h3 ⊢
      omega
    · have e1 := getC_addS_ne hc he
      have e2 := getC_addS_ne hd (fun h => he h.symm)
      rw [e1, e2, c4, d4]
  rw [hr]
  by_cases hz : rngOk (plus (getC (addS l d).1 (key c)) c) = true
  rotate_left
  · rw [if_pos (by simpa using hz), if_pos (by simpa using hz)]
  rw [if_neg (by simp [hz]), if_neg (by simp [hz])]
  have e : addL d (addS l c).1 = addL c (addS l d).1 := by
    have k1 := addL_can d2 d3 ca (hr.trans hz)
    have k2 := addL_can c2 c3 da hz
    refine can_ext k1 k2 fun q => ?_
    rw [getC_addL ca q, getC_addL da q]
    have h1 := ga q
    have h2 := gb q
    have h3 := ga d
    have h4 := gb c
    by_cases qd : keq q d
    · rw [if_pos qd]
      by_cases qc : keq q c
      · rw [if_pos qc]
        have dc : keq d c := qd.symm.trans qc
        rw [if_pos dc] at h3
        rw [if_pos dc.symm] at h4
        have h5 := getC_key l d c dc
        simp only [val, plus, Prod.mk.injEq] at h3 h4 h5 ⊢
        omega
      · rw [if_neg qc]
        rw [if_pos qd] at h2
        have dc : ¬ keq d c := fun h => qc (qd.trans h)
        rw [if_neg dc] at h3
        rw [h2]
        simp only [val, plus, Prod.mk.injEq] at h3 ⊢
        omega
    · rw [if_neg qd]
      by_cases qc : keq q c
      · rw [if_pos qc]
        rw [if_pos qc] at h1
        have cd : ¬ keq c d := fun h => qd (qc.trans h)
        rw [if_neg cd] at h4
        rw [h1]
        simp only [val, plus, Prod.mk.injEq] at h4 ⊢
        omega
      · rw [if_neg qc]
        rw [if_neg qc] at h1
        rw [if_neg qd] at h2
        rw [h1, h2]
  rw [e]

theorem tot_bound_u : ∀ {l : List Ctr}, (∀ c ∈ l, okc c = true) → 0 ≤ tot Ctr.u l ∧ tot Ctr.u l ≤ 1125899906842624 * l.length
  | [], _ => by simp [tot]
  | c :: l, h => by
    have h1 := rngOk_iff.1 (okc_rng (h c (by simp)))
    have h2 := tot_bound_u (l := l) (fun x hx => h x (by simp [hx]))
    simp only [tot, List.length_cons]
    omega
theorem tot_bound_p : ∀ {l : List Ctr}, (∀ c ∈ l, okc c = true) → 0 ≤ tot Ctr.p l ∧ tot Ctr.p l ≤ 1125899906842624 * l.length
  | [], _ => by simp [tot]
  | c :: l, h => by
    have h1 := rngOk_iff.1 (okc_rng (h c (by simp)))
    have h2 := tot_bound_p (l := l) (fun x hx => h x (by simp [hx]))
    simp only [tot, List.length_cons]
    omega

/-- What remains when all are added, one behind the other; what does not fit is left out. -/
def accT : List Ctr → List Ctr → List Ctr
  | m, [] => m
  | m, c :: l => accT (if (addS m c).2 = 0 then (addS m c).1 else m) l

end Go.Pu
