/- Tariffs are the same as themselves, whatever stands for no slots. -/
import Derived.Test.YtcjglgeamdfpmaaGreatXXc241
import Derived.Test.YtcjglgeamdfpmaaGreatXXpure
set_option linter.unusedSimpArgs false
set_option linter.unnecessarySimpa false
set_option linter.unusedVariables false
set_option maxRecDepth 10000
namespace Go.Am
open Go Go.Pu
theorem nth_mapm {α : Type} (g : α → V) (l1 : List α) (a : α) (l2 : List α) : nth ((l1 ++ a :: l2).map g) l1.length = g a := by
 induction l1 with
 | nil => rfl
 | cons b l1 ih => exact ih
theorem SameTexts_l (l : List Bs) (hn : l.length ≤ 1000000) : ∀ (l2 l1 : List Bs), l1 ++ l2 = l →
  Run mach0 (.c billingref24_SameTexts_l1b :: .lp billingref24_SameTexts_l1 :: .endB 0 :: .c billingref24_SameTexts_k1 :: []) .norm
   ⟨(.sl false 1 (l.map V.str) :: .sl false 1 (l.map V.str) :: .undef :: .undef :: .undef :: .int .i64 l1.length :: .undef :: .undef :: .undef :: .undef :: .undef :: .undef :: .undef :: .undef :: .undef :: .undef :: .undef :: .undef :: .undef :: .undef :: .undef :: .undef :: .undef :: .undef :: .undef :: .undef :: []), []⟩ (FinQ [.tmp 4] 0 (.ret (.bool true) []))
 | [], l1, he => by
  have q : ¬ ((l1.length : Int) < l.length) := by rw [← he]; simp
  unfold billingref24_SameTexts_l1b
  simp [go_sem, q, billingref24_SameTexts_k1]
  simp [go_sem, billingref24_SameTexts_k1b]
 | a :: l2, l1, he => by
  have ih := SameTexts_l l hn l2 (l1 ++ [a]) (by rw [← he]; simp)
  have len : l.length = l1.length + (l2.length + 1) := by rw [← he]; simp
  have q : (l1.length : Int) < l.length := by omega
  have w : IntKind.wrap .i64 ((l1.length : Int) + 1) = l1.length + 1 := wrap_i64 (by omega)
  have hnth : nth (l.map V.str) l1.length = .str a := by rw [← he]; exact nth_mapm _ _ _ _
  simp only [List.length_append, List.length_cons, List.length_nil, Nat.zero_add] at ih
  unfold billingref24_SameTexts_l1b
  simp [go_sem, q, hnth, w]
  simpa using ih
theorem e_SameTexts (l : List Bs) (hn : l.length ≤ 1000000) : acall mach0 n_billingref24_SameTexts [.sl false 1 (l.map V.str), .sl false 1 (l.map V.str)] [] = some (.ret (.bool true) []) := by
 have run := SameTexts_l l hn l [] rfl
 refine acall_fn rfl (af := a_billingref24_SameTexts) rfl rfl ?_
 simp [List.replicate, go_sem]
 simpa using run
theorem SameSteps_l (l : List StepP) (hn : l.length ≤ 1000000) : ∀ (l2 l1 : List StepP), l1 ++ l2 = l →
  Run mach0 (.c billingref24_SameSteps_l1b :: .lp billingref24_SameSteps_l1 :: .endB 0 :: .c billingref24_SameSteps_k1 :: []) .norm
   ⟨(.sl false 3 (l.map stepV) :: .sl false 3 (l.map stepV) :: .undef :: .undef :: .undef :: .int .i64 l1.length :: .undef :: .undef :: .undef :: .undef :: .undef :: .undef :: .undef :: .undef :: .undef :: .undef :: .undef :: .undef :: .undef :: .undef :: .undef :: .undef :: .undef :: .undef :: .undef :: .undef :: []), []⟩ (FinQ [.tmp 4] 0 (.ret (.bool true) []))
 | [], l1, he => by
  have q : ¬ ((l1.length : Int) < l.length) := by rw [← he]; simp
  unfold billingref24_SameSteps_l1b
  simp [go_sem, q, billingref24_SameSteps_k1]
  simp [go_sem, billingref24_SameSteps_k1b]
 | a :: l2, l1, he => by
  have ih := SameSteps_l l hn l2 (l1 ++ [a]) (by rw [← he]; simp)
  have len : l.length = l1.length + (l2.length + 1) := by rw [← he]; simp
  have q : (l1.length : Int) < l.length := by omega
  have w : IntKind.wrap .i64 ((l1.length : Int) + 1) = l1.length + 1 := wrap_i64 (by omega)
  have hnth : nth (l.map stepV) l1.length = stepV a := by rw [← he]; exact nth_mapm _ _ _ _
  simp only [List.length_append, List.length_cons, List.length_nil, Nat.zero_add] at ih
  simp only [stepV] at hnth
  unfold billingref24_SameSteps_l1b
  simp [go_sem, q, hnth, w]
  simpa using ih
theorem e_SameSteps (l : List StepP) (hn : l.length ≤ 1000000) : acall mach0 n_billingref24_SameSteps [.sl false 3 (l.map stepV), .sl false 3 (l.map stepV)] [] = some (.ret (.bool true) []) := by
 have run := SameSteps_l l hn l [] rfl
 refine acall_fn rfl (af := a_billingref24_SameSteps) rfl rfl ?_
 simp [List.replicate, go_sem]
 simpa using run
theorem e_SameRate (x : RateP) (hn : x.steps.length ≤ 1000000) : acall mach0 n_billingref24_SameRate [rateV x, rateV x] [] = some (.ret (.bool true) []) := by
 have e := e_SameSteps x.steps hn
 refine acall_fn rfl (af := a_billingref24_SameRate) rfl rfl ?_
 simp only [rateV]
 simp [List.replicate, go_sem, e]
theorem SameSlots_l (z1 z2 : Nat) (la lb : List V) (b : BandP) (i : Nat) (r : Rt) (k : List It) (hn : b.slots.length ≤ 1000000) (ha : i < la.length) (hb : i < lb.length) (h1 : nth la i = bandW z1 b) (h2 : nth lb i = bandW z2 b) (hi : i ≤ 1000000)
    (hk : Run mach0 (.c billingref24_sameBands_k1b :: .lp billingref24_sameBands_l2 :: k) .norm ⟨(.sl false 2 la :: .sl false 2 lb :: .undef :: .undef :: .undef :: .int .i64 i :: .undef :: .undef :: .undef :: .undef :: .undef :: .undef :: .undef :: .undef :: .undef :: .undef :: .undef :: .undef :: .undef :: .undef :: .undef :: .undef :: .undef :: .undef :: .undef :: .undef :: .undef :: .undef :: .undef :: .undef :: .undef :: .undef :: .undef :: .undef :: .undef :: .undef :: .undef :: .undef :: .undef :: .undef :: .undef :: .undef :: .undef :: .undef :: .undef :: .undef :: .undef :: .undef :: .undef :: .undef :: .undef :: .undef :: .undef :: .undef :: .undef :: .undef :: .undef :: .undef :: .undef :: .undef :: .undef :: .undef :: .undef :: .undef :: .undef :: .undef :: .undef :: .undef :: .undef :: .undef :: .undef :: []), []⟩ (FinQ [.tmp 4] 0 r)) :
    ∀ (l2 l1 : List SlotP), l1 ++ l2 = b.slots →
    Run mach0 (.c billingref24_sameBands_l1b :: .lp billingref24_sameBands_l1 :: .endB 2 :: .endB 1 :: .c billingref24_sameBands_k1 :: .lp billingref24_sameBands_l2 :: k) .norm
      ⟨(.sl false 2 la :: .sl false 2 lb :: .undef :: .undef :: .undef :: .int .i64 i :: .int .i64 l1.length :: .undef :: .undef :: .undef :: .undef :: .undef :: .undef :: .undef :: .undef :: .undef :: .undef :: .undef :: .undef :: .undef :: .undef :: .undef :: .undef :: .undef :: .undef :: .undef :: .undef :: .undef :: .undef :: .undef :: .undef :: .undef :: .undef :: .undef :: .undef :: .undef :: .undef :: .undef :: .undef :: .undef :: .undef :: .undef :: .undef :: .undef :: .undef :: .undef :: .undef :: .undef :: .undef :: .undef :: .undef :: .undef :: .undef :: .undef :: .undef :: .undef :: .undef :: .undef :: .undef :: .undef :: .undef :: .undef :: .undef :: .undef :: .undef :: .undef :: .undef :: .undef :: .undef :: .undef :: .undef :: []), []⟩ (FinQ [.tmp 4] 0 r)
  | [], l1, he => by
    have q : ¬ ((l1.length : Int) < b.slots.length) := by rw [← he]; simp
    have hi' : (i : Int) < la.length := by omega
    simp only [bandW, slW] at h1 h2
    unfold billingref24_sameBands_l1b
    simp [go_sem, q, h1, h2, ha, hb, billingref24_sameBands_k1]
    exact hk
  | a :: l2, l1, he => by
    have ih := SameSlots_l z1 z2 la lb b i r k hn ha hb h1 h2 hi hk l2 (l1 ++ [a]) (by rw [← he]; simp)
    have len : b.slots.length = l1.length + (l2.length + 1) := by rw [← he]; simp
    have q : (l1.length : Int) < b.slots.length := by omega
    have q' : l1.length < b.slots.length := by omega
    have w : IntKind.wrap .i64 ((l1.length : Int) + 1) = l1.length + 1 := wrap_i64 (by omega)
    have hne : ¬ b.slots = [] := by rw [← he]; simp
    have hnth : nth (b.slots.map slotV) l1.length = slotV a := by rw [← he]; exact nth_mapm _ _ _ _
    simp only [List.length_append, List.length_cons, List.length_nil, Nat.zero_add] at ih
    simp only [slotV] at hnth
    simp only [bandW, slW, if_neg hne, slotV] at h1 h2
    unfold billingref24_sameBands_l1b
    simp [go_sem, q, q', h1, h2, ha, hb, hnth, w]
    simpa using ih
end Go.Am
namespace Go.Am
open Go Go.Pu
structure TNar (t : TariffP) : Prop where
 zones : t.zones.length ≤ 1000000
 pref : ∀ z ∈ t.zones, z.pref.length ≤ 1000000
 bands : t.bands.length ≤ 1000000
 slots : ∀ b ∈ t.bands, b.slots.length ≤ 1000000
 rates : t.rates.length ≤ 1000000
 steps : ∀ x ∈ t.rates, x.steps.length ≤ 1000000
 discs : t.discs.length ≤ 1000000
 cond : ∀ d ∈ t.discs, Nar d.cond
def zTar : TariffP := ⟨[], 0, false, [], [], [], []⟩
theorem tnar_zero : TNar zTar := ⟨by decide, by simp [zTar], by decide, by simp [zTar], by decide, by simp [zTar], by decide, by simp [zTar]⟩
def ExprC (s : List UInt8) : PE × Nat := if s.length > 65536 then (.mk 0 0 [] [], 5) else match scan s with
 | .err _ e => (.mk 0 0 [] [], e)
 | .ok L => match allT exprT (L.map (·.1)) with
  | .ok t _ => (t, 0)
  | .err _ e => (.mk 0 0 [] [], e)
def TariffC (s : List UInt8) : TariffP × Nat := if s.length > 65536 then (zTar, 5) else match scan s with
 | .err _ e => (zTar, e)
 | .ok L => match allT tariffT (L.map (·.1)) with
  | .ok t _ => (t, 0)
  | .err _ e => (zTar, e)
end Go.Am
namespace Go.Am
open Go Go.Pu
def RelP {α : Type} (p : List Tk → PR α) (ts : List Tk) (e : Nat) (a : α) (us : List Tk) (e' : Nat) : Prop :=
 (e ≠ 0 → us = ts ∧ e' = e) ∧ (e = 0 → match p ts with
  | .ok b q => b = a ∧ us = q ∧ e' = 0
  | .err m k => us.length = m ∧ e' = k ∧ k ≠ 0)
structure Gd (L : List (Tk × Nat)) {α : Type} (p : List Tk → PR α) (ts : List Tk) (e : Nat) (a : α) (us : List Tk) (e' : Nat) : Prop where
 spot : At L us
 le : e' = 0 → us.length ≤ ts.length
 rel : RelP p ts e a us e'
section
variable {n : Nat} {L : List (Tk × Nat)} {ts us vs : List Tk} {e e1 e2 : Nat} {α β : Type}
theorem Gd.zero {p : List Tk → PR α} {a : α} (h : Gd L p ts e a us e1) (h1 : e1 = 0) : e = 0 := by
 by_cases he : e = 0
 ·exact he
 ·have := (h.rel.1 he).2; omega
theorem Gd.bind {p : List Tk → PR α} {f : α → List Tk → PR β} {a : α} {b : β} (h1 : Gd L p ts e a us e1) (h2 : Gd L (f a) us e1 b vs e2) : Gd L (fun t => bindP (p t) f) ts e b vs e2 := by
 refine ⟨h2.spot, fun h0 => ?_, fun he => ?_, fun he => ?_⟩
 ·exact Nat.le_trans (h2.le h0) (h1.le (h2.zero h0))
 ·obtain ⟨rfl, rfl⟩ := h1.rel.1 he
  exact h2.rel.1 he
 ·have r1 := h1.rel.2 he
  show match bindP (p ts) f with
   | .ok b' q => b' = b ∧ vs = q ∧ e2 = 0
   | .err m k => vs.length = m ∧ e2 = k ∧ k ≠ 0
  cases hp : p ts with
  | ok c q =>
   rw [hp] at r1
   obtain ⟨rfl, rfl, rfl⟩ := r1
   exact h2.rel.2 rfl
  | err m k =>
   rw [hp] at r1
   obtain ⟨r1, rfl, r3⟩ := r1
   obtain ⟨rfl, rfl⟩ := h2.rel.1 r3
   exact ⟨r1, rfl, r3⟩
theorem Gd.pure {a : α} (hA : At L ts) : Gd L (fun t => .ok a t) ts e a ts e := ⟨hA, fun _ => Nat.le_refl _, fun _ => ⟨rfl, rfl⟩, fun he => ⟨rfl, rfl, he⟩⟩
theorem Gd.eq {p p' : List Tk → PR α} {a : α} (h : Gd L p ts e a us e1) (hp : e = 0 → p ts = p' ts) : Gd L p' ts e a us e1 := by
 refine ⟨h.spot, h.le, h.rel.1, fun he => ?_⟩
 have := h.rel.2 he
 rw [hp he] at this
 exact this
theorem Gd.val {p : List Tk → PR α} {a b : α} (h : Gd L p ts e a us e1) (hb : e1 = 0 → b = a) : Gd L p ts e b us e1 := by
 by_cases h1 : e1 = 0
 ·rw [hb h1]; exact h
 ·refine ⟨h.spot, h.le, h.rel.1, fun he => ?_⟩
  have := h.rel.2 he
  cases hp : p ts with
  | ok c q => rw [hp] at this; exact absurd this.2.2 h1
  | err m k => rw [hp] at this; exact this
theorem Gd.ok {p : List Tk → PR α} {a : α} (h : Gd L p ts e a us e1) (h1 : e1 = 0) : p ts = .ok a us := by
 have he := h.zero h1
 have := h.rel.2 he
 cases hp : p ts with
 | ok c q => rw [hp] at this; rw [this.1, this.2.1]
 | err m k => rw [hp] at this; exact absurd (this.2.1 ▸ h1) this.2.2
theorem At.ok (hL : okT (L.map (·.1))) (hA : At L ts) : okT ts := by
 obtain ⟨⟨p, r, h1, h2⟩, _⟩ := hA
 intro t ht
 refine hL t ?_
 rw [h1, List.map_append, h2]
 exact List.mem_append_right _ ht
theorem At.isA {s : Bs} (hA : At L ts) (hw : isA s ts = true) : At L ts.tail := by
 unfold Go.Am.isA at hw
 rcases Bool.or_eq_true_iff.1 hw with h | h
 ·exact hA.word h
 ·exact hA.sym h
theorem g_accept (s : Bs) (e : Nat) (hA : At L ts) : ∃ b us e1, acall mach0 n_billingref24_Reader_accept [.ptr 0 0, .str s] (hf n L ts.length e) = some (.ret (.bool b) (hf n L us.length e1)) ∧ At L us ∧
  ((b = false ∧ us = ts ∧ e1 = e ∧ (e = 0 → isA s ts = false)) ∨ (b = true ∧ e = 0 ∧ e1 = 0 ∧ isA s ts = true ∧ us = ts.tail)) := by
 by_cases he : e = 0
 ·subst he
  have h := f_accept0 (n := n) s hA
  cases hw : isA s ts with
  | false =>
   rw [hw, if_neg (by decide)] at h
   exact ⟨false, ts, 0, h, hA, .inl ⟨rfl, rfl, rfl, fun _ => rfl⟩⟩
  | true =>
   rw [hw, if_pos rfl] at h
   exact ⟨true, ts.tail, 0, h, hA.isA hw, .inr ⟨rfl, rfl, rfl, rfl, rfl⟩⟩
 ·exact ⟨false, ts, e, f_acceptE (n := n) s e he hA, hA, .inl ⟨rfl, rfl, rfl, fun h => absurd h he⟩⟩
def needA (s : Bs) (ts : List Tk) : PR Unit := if isA s ts then .ok () ts.tail else failT ts 1
theorem g_expect (s : Bs) (e : Nat) (hA : At L ts) : ∃ us e1, acall mach0 n_billingref24_Reader_expect [.ptr 0 0, .str s] (hf n L ts.length e) = some (.ret (.tup []) (hf n L us.length e1)) ∧ Gd L (needA s) ts e () us e1 := by
 by_cases he : e = 0
 ·subst he
  have h := f_expect0 (n := n) s hA
  cases hw : isA s ts with
  | false =>
   rw [hw, if_neg (by decide)] at h
   refine ⟨ts, 1, h, hA, fun _ => Nat.le_refl _, fun h => absurd rfl h, fun _ => ?_⟩
   unfold needA
   rw [hw, if_neg (by decide)]
   exact ⟨rfl, rfl, by decide⟩
  | true =>
   rw [hw, if_pos rfl] at h
   refine ⟨ts.tail, 0, h, hA.isA hw, fun _ => by simp, fun h => absurd rfl h, fun _ => ?_⟩
   unfold needA
   rw [hw, if_pos rfl]
   exact ⟨rfl, rfl, rfl⟩
 ·exact ⟨ts, e, f_expectE (n := n) s e he hA, hA, fun _ => Nat.le_refl _, fun _ => ⟨rfl, rfl⟩, fun h => absurd h he⟩
theorem g_expectW (hL : okT (L.map (·.1))) (s : Bs) (hs : isSym s = false) (e : Nat) (hA : At L ts) : ∃ us e1, acall mach0 n_billingref24_Reader_expect [.ptr 0 0, .str s] (hf n L ts.length e) = some (.ret (.tup []) (hf n L us.length e1)) ∧ Gd L (needW s) ts e () us e1 := by
 obtain ⟨us, e1, c, g⟩ := g_expect (n := n) s e hA
 exact ⟨us, e1, c, g.eq fun _ => by unfold needA needW; rw [isA_word (hA.ok hL) hs]⟩
theorem g_expectS (hL : okT (L.map (·.1))) (s : Bs) (hs : headIs lowerB s = false) (e : Nat) (hA : At L ts) : ∃ us e1, acall mach0 n_billingref24_Reader_expect [.ptr 0 0, .str s] (hf n L ts.length e) = some (.ret (.tup []) (hf n L us.length e1)) ∧ Gd L (needS s) ts e () us e1 := by
 obtain ⟨us, e1, c, g⟩ := g_expect (n := n) s e hA
 exact ⟨us, e1, c, g.eq fun _ => by unfold needA needS; rw [isA_sym (hA.ok hL) hs]⟩
theorem nameT_tk (t : Tk) (r : List Tk) : nameT (t :: r) = if (decide (t.kind = 1) && !isKw t.str) = true then .ok t.str r else failT (t :: r) 1 := by
 cases t with
 | word w => cases h : isKw w <;> simp [nameT, Tk.kind, Tk.str, h]
 | _ => simp [nameT, Tk.kind]
theorem g_name (e : Nat) (hA : At L ts) : ∃ a us e1, acall mach0 n_billingref24_Reader_name [.ptr 0 0] (hf n L ts.length e) = some (.ret (.str a) (hf n L us.length e1)) ∧ Gd L nameT ts e a us e1 := by
 obtain ⟨t, r, rfl⟩ := ends_ne hA.2.1
 have e1 := f_now (n := n) e hA
 by_cases he : e = 0
 ·subst he
  have e2 := f_plain0 (n := n) hA
  have ef := f_fail0 (n := n) (L := L) (r.length + 1) 1
  cases hB : (decide (t.kind = 1) && !isKw t.str) with
  | true =>
   have ht : t ≠ .fin := by intro h; subst h; simp [Tk.kind] at hB
   have en := f_next0 (n := n) hA ht
   refine ⟨t.str, r, 0, acall_fn rfl (af := a_billingref24_Reader_name) rfl rfl ?_, hA.tl ht, fun _ => by simp, fun h => absurd rfl h, fun _ => ?_⟩
   ·rw [hB] at e2
    simp only [hf, tokV] at e1 e2 en ⊢
    simp at e1 e2 en
    simp [List.replicate, go_sem, e1, e2, en]
   ·rw [nameT_tk, if_pos hB]; exact ⟨rfl, rfl, rfl⟩
  | false =>
   refine ⟨[], t :: r, 1, acall_fn rfl (af := a_billingref24_Reader_name) rfl rfl ?_, hA, fun _ => Nat.le_refl _, fun h => absurd rfl h, fun _ => ?_⟩
   ·rw [hB] at e2
    simp only [hf, tokV] at e1 e2 ef ⊢
    simp at e1 e2 ef
    simp [List.replicate, go_sem, e1, e2, ef]
   ·rw [nameT_tk, if_neg (by rw [hB]; decide)]; exact ⟨rfl, rfl, by decide⟩
 ·have e2 := f_plainE (n := n) e he hA
  have ef := f_failE (n := n) (L := L) (r.length + 1) e 1 he
  refine ⟨[], t :: r, e, acall_fn rfl (af := a_billingref24_Reader_name) rfl rfl ?_, hA, fun _ => Nat.le_refl _, fun _ => ⟨rfl, rfl⟩, fun h => absurd h he⟩
  simp only [hf, tokV] at e1 e2 ef ⊢
  simp at e1 e2 ef
  simp [List.replicate, go_sem, e1, e2, ef]
theorem g_either (hL : okT (L.map (·.1))) (e : Nat) (hA : At L ts) : ∃ a us e1, acall mach0 n_billingref24_Reader_either [.ptr 0 0] (hf n L ts.length e) = some (.ret (.str a) (hf n L us.length e1)) ∧ Gd L nameOrAny ts e a us e1 := by
 obtain ⟨b, us, e1, c, hu, hb⟩ := g_accept (n := n) kAny e hA
 have hk : isA kAny ts = isWord kAny ts := isA_word (hA.ok hL) (by decide)
 rcases hb with ⟨rfl, rfl, rfl, hb⟩ | ⟨rfl, rfl, rfl, hb, rfl⟩
 ·obtain ⟨a, vs, e2, c2, g⟩ := g_name (n := n) e1 hA
  refine ⟨a, vs, e2, acall_fn rfl (af := a_billingref24_Reader_either) rfl rfl ?_, g.eq fun h0 => ?_⟩
  ·simp only [kAny] at c
   simp [List.replicate, go_sem, c, c2]
  ·unfold nameOrAny
   rw [← hk, hb h0, if_neg (by decide)]
 ·refine ⟨[], ts.tail, 0, acall_fn rfl (af := a_billingref24_Reader_either) rfl rfl ?_, hu, fun _ => by simp, fun h => absurd rfl h, fun _ => ?_⟩
  ·simp only [kAny] at c
   simp at c
   simp [List.replicate, go_sem, c]
  ·unfold nameOrAny
   rw [← hk, hb, if_pos rfl]
   exact ⟨rfl, rfl, rfl⟩
end
end Go.Am
namespace Go.Am
open Go Go.Pu
theorem bindP_assoc {α β γ : Type} (x : PR α) (f : α → List Tk → PR β) (g : β → List Tk → PR γ) : bindP (bindP x f) g = bindP x (fun a r => bindP (f a r) g) := by cases x <;> rfl
section
variable {n : Nat} {L : List (Tk × Nat)} {t : Tk} {ts us vs : List Tk} {e e1 e2 : Nat} {α β : Type}
theorem Gd.map {p : List Tk → PR α} {a : α} (g : α → β) (h : Gd L p ts e a us e1) : Gd L (fun t => bindP (p t) fun x r => .ok (g x) r) ts e (g a) us e1 :=
 Gd.bind (f := fun x r => .ok (g x) r) h (Gd.pure h.spot)
theorem Gd.err {p : List Tk → PR α} {a : α} {f : List Tk → α → List Tk → PR β} {b : β} (h : Gd L p ts e a us e1) (h1 : e1 ≠ 0) : Gd L (fun t => bindP (p t) (f t)) ts e b us e1 := by
 refine ⟨h.spot, h.le, h.rel.1, fun he => ?_⟩
 have := h.rel.2 he
 show match bindP (p ts) (f ts) with
   | .ok b' q => b' = b ∧ us = q ∧ e1 = 0
   | .err m k => us.length = m ∧ e1 = k ∧ k ≠ 0
 cases hp : p ts with
 | ok c q => rw [hp] at this; exact absurd this.2.2 h1
 | err m k => rw [hp] at this; exact this
def dgT (many : Nat) (most : Int) (ts : List Tk) : PR (Bs × Nat) := match ts with
 | t :: r => if digOk many most t = true then .ok (t.str, t.val) r else failT (t :: r) 1
 | [] => failT [] 1
theorem fixedT_dg {s : Nat} (m : Int) (hs : s ≠ 0) (ts : List Tk) : bindP (dgT s m ts) (fun x r => .ok (x.2 : Int) r) = fixedT s m ts := by
 cases ts with
 | nil => rfl
 | cons t ts =>
  cases t with
  | num d =>
   by_cases h1 : d.length = s <;> by_cases h2 : (value d : Int) ≤ m <;> simp [dgT, digOk, fixedT, Tk.kind, Tk.val, Tk.str, hs, h1, h2, failT]
  | _ => simp [dgT, digOk, fixedT, Tk.kind, failT]
theorem digitsT_dg (ts : List Tk) (ho : okT ts) : bindP (dgT 0 9999999999999999 ts) (fun x r => .ok x.1 r) = digitsT ts := by
 cases ts with
 | nil => rfl
 | cons t ts =>
  cases t with
  | num d =>
   have hok : (Tk.num d).ok = true := by rcases ho (.num d) (by simp) with h | h; exact h; cases h
   have hm := value_most hok
   simp [dgT, digOk, digitsT, Tk.kind, Tk.val, Tk.str, hm]
  | _ => simp [dgT, digOk, digitsT, Tk.kind, failT]
theorem value_below {d : Bs} (h : (Tk.num d).ok = true) : value d < 10 ^ d.length := by
 simp only [Tk.ok, Bool.and_eq_true, decide_eq_true_eq] at h
 have := valF_below 16 0 d h.1.2
 unfold value
 omega
theorem dgT_any {s : Nat} (m : Int) (hs : s ≠ 0) (hm : (10 : Int) ^ s ≤ m + 1) (hm' : m ≤ 9999999999999999) (ts : List Tk) (ho : okT ts) : dgT s 9999999999999999 ts = dgT s m ts := by
 cases ts with
 | nil => rfl
 | cons t ts =>
  have e : digOk s 9999999999999999 t = digOk s m t := by
   cases t with
   | num d =>
    have hok : (Tk.num d).ok = true := by rcases ho (.num d) (by simp) with h | h; exact h; cases h
    have hv := value_below hok
    by_cases h1 : d.length = s
    ·subst h1
     have h2 : (value d : Int) ≤ m := by
      have : ((value d : Nat) : Int) < ((10 ^ d.length : Nat) : Int) := by omega
      rw [Int.natCast_pow] at this
      have e10 : ((10 : Nat) : Int) = 10 := rfl
      rw [e10] at this
      omega
     have h3 : (value d : Int) ≤ 9999999999999999 := by omega
     simp [digOk, Tk.kind, Tk.val, Tk.str, h2, h3]
    ·simp [digOk, Tk.kind, Tk.val, Tk.str, hs, h1]
   | _ => simp [digOk, Tk.kind]
  simp only [dgT, e]
theorem f_digitsE (many : Nat) (most : Int) (e : Nat) (he : e ≠ 0) (h : At L (t :: ts)) : acall mach0 n_billingref24_Reader_digits [.ptr 0 0, .int .i64 many, .int .i64 most] (hf n L (ts.length + 1) e) =
  some (if digOk many most t = true then .ret (tokV t.kind t.val (posV n L (ts.length + 1)) t.str) (hf n L (ts.length + 1) e) else .ret (tokV 0 0 0 []) (hf n L (ts.length + 1) e)) := by
 refine acall_fn rfl (af := a_billingref24_Reader_digits) rfl rfl ?_
 have e1 := f_now (n := n) e h
 have ef := f_failE (n := n) (L := L) (ts.length + 1) e 1 he
 have en := f_nextE (n := n) (L := L) (ts.length + 1) e he
 simp only [hf, tokV] at e1 ef en ⊢
 simp at e1 ef en
 by_cases hk : t.kind = 2
 ·obtain ⟨d, rfl⟩ := num_of_kind hk
  simp only [Tk.kind, Tk.val, Tk.str] at e1
  simp at e1
  by_cases h0 : many = 0
  ·by_cases hv : (value d : Int) ≤ most
   ·have hv' : ¬ most < (value d : Int) := by omega
    simp [List.replicate, go_sem, e1, en, h0, hv, hv', digOk, Tk.kind, Tk.val, Tk.str]
   ·have hv' : most < (value d : Int) := by omega
    simp [List.replicate, go_sem, e1, ef, h0, hv, hv', digOk, Tk.kind, Tk.val, Tk.str]
  ·have h0' : (0 : Int) < many := by omega
   have h0n : 0 < many := by omega
   by_cases hl : d.length = many
   ·by_cases hv : (value d : Int) ≤ most
    ·have hv' : ¬ most < (value d : Int) := by omega
     simp [List.replicate, go_sem, e1, en, h0, h0', h0n, hl, hv, hv', digOk, Tk.kind, Tk.val, Tk.str]
    ·have hv' : most < (value d : Int) := by omega
     simp [List.replicate, go_sem, e1, ef, h0, h0', h0n, hl, hv, hv', digOk, Tk.kind, Tk.val, Tk.str]
   ·have hl' : ¬ (d.length : Int) = many := by omega
    simp [List.replicate, go_sem, e1, ef, h0, h0', h0n, hl, nt' hl', digOk, Tk.kind, Tk.val, Tk.str]
 ·have hk' : ¬ (t.kind : Int) = 2 := by omega
  simp [List.replicate, go_sem, e1, ef, hk, nt' hk', digOk]
theorem g_digits (many : Nat) (most : Int) (h0 : 0 ≤ most) (e : Nat) (hA : At L ts) : ∃ k p d v us e1, acall mach0 n_billingref24_Reader_digits [.ptr 0 0, .int .i64 many, .int .i64 most] (hf n L ts.length e) = some (.ret (tokV k ((v : Nat) : Int) p d) (hf n L us.length e1)) ∧ Gd L (dgT many most) ts e (d, v) us e1 ∧ (v : Int) ≤ most := by
 obtain ⟨t, r, rfl⟩ := ends_ne hA.2.1
 by_cases he : e = 0
 ·subst he
  have c := f_digits0 (n := n) many most hA
  cases hd : digOk many most t with
  | true =>
   have hv : (t.val : Int) ≤ most := by simp only [digOk, Bool.and_eq_true, decide_eq_true_eq] at hd; exact hd.2
   have ht : t ≠ .fin := by intro h; subst h; simp [digOk, Tk.kind] at hd
   rw [hd, if_pos rfl] at c
   exact ⟨_, _, _, _, r, 0, c, ⟨hA.tl ht, fun _ => by simp, fun h => absurd rfl h, fun _ => by simp only [dgT, hd, if_true]; exact ⟨trivial, trivial, trivial⟩⟩, hv⟩
  | false =>
   rw [hd, if_neg (by decide)] at c
   exact ⟨0, 0, [], 0, t :: r, 1, c, ⟨hA, fun _ => Nat.le_refl _, fun h => absurd rfl h, fun _ => by simp only [dgT, hd, failT]; exact ⟨rfl, rfl, by decide⟩⟩, h0⟩
 ·have c := f_digitsE (n := n) many most e he hA
  have g : ∀ x, Gd L (dgT many most) (t :: r) e x (t :: r) e := fun x => ⟨hA, fun _ => Nat.le_refl _, fun _ => ⟨rfl, rfl⟩, fun h => absurd h he⟩
  cases hd : digOk many most t with
  | true =>
   have hv : (t.val : Int) ≤ most := by simp only [digOk, Bool.and_eq_true, decide_eq_true_eq] at hd; exact hd.2
   rw [hd, if_pos rfl] at c
   exact ⟨_, _, _, _, t :: r, e, c, g _, hv⟩
  | false =>
   rw [hd, if_neg (by decide)] at c
   exact ⟨0, 0, [], 0, t :: r, e, c, g _, h0⟩
theorem g_number (hL : okT (L.map (·.1))) (e : Nat) (hA : At L ts) : ∃ a us e1, acall mach0 n_billingref24_Reader_number [.ptr 0 0] (hf n L ts.length e) = some (.ret (.int .i64 a) (hf n L us.length e1)) ∧ Gd L numberT ts e a us e1 := by
 obtain ⟨t, r, rfl⟩ := ends_ne hA.2.1
 have ho := hA.ok hL
 by_cases he : e = 0
 ·subst he
  have c := f_number0 (n := n) hA (ho t (by simp))
  cases hn : numberT (t :: r) with
  | ok v q =>
   rw [hn] at c
   have hq : t ≠ .fin ∧ q = r := by
    cases t with
    | num d =>
     simp only [numberT] at hn
     split at hn
     ·cases hn; exact ⟨by simp, rfl⟩
     ·cases hn
    | _ => simp [numberT, failT] at hn
   obtain ⟨ht, rfl⟩ := hq
   exact ⟨v, q, 0, c, hA.tl ht, fun _ => by simp, fun h => absurd rfl h, fun _ => by rw [hn]; exact ⟨rfl, rfl, rfl⟩⟩
  | err m k =>
   rw [hn] at c
   have hq : m = (t :: r).length ∧ k = 1 := by
    cases t with
    | num d =>
     simp only [numberT] at hn
     split at hn
     ·cases hn
     ·simp only [failT, PR.err.injEq] at hn; exact ⟨hn.1.symm, hn.2.symm⟩
    | _ => simp only [numberT, failT, PR.err.injEq] at hn; exact ⟨hn.1.symm, hn.2.symm⟩
   obtain ⟨rfl, rfl⟩ := hq
   exact ⟨0, t :: r, 1, c, hA, fun _ => Nat.le_refl _, fun h => absurd rfl h, fun _ => by rw [hn]; exact ⟨rfl, rfl, by decide⟩⟩
 ·have e1 := f_now (n := n) e hA
  have ef := f_failE (n := n) (L := L) (r.length + 1) e 1 he
  have ed := f_digitsE (n := n) 0 9999999999999999 e he hA
  have g : ∀ x, Gd L numberT (t :: r) e x (t :: r) e := fun x => ⟨hA, fun _ => Nat.le_refl _, fun _ => ⟨rfl, rfl⟩, fun h => absurd h he⟩
  by_cases h1 : 1 < t.str.length
  ·cases hs : t.str with
   | nil => rw [hs] at h1; simp at h1
   | cons c d =>
    rw [hs] at e1 h1 ed
    have h1' : (1 : Int) < ((d.length : Int) + 1) := by simp at h1; omega
    by_cases h2 : c.toNat = 48
    ·have h2' : (c.toNat : Int) = 48 := by omega
     refine ⟨0, t :: r, e, acall_fn rfl (af := a_billingref24_Reader_number) rfl rfl ?_, g _⟩
     simp only [hf, tokV] at e1 ef ed ⊢
     simp at e1 ef
     simp [List.replicate, go_sem, e1, ef, h1', bt' h2']
    ·have h2' : ¬ (c.toNat : Int) = 48 := by omega
     refine ⟨if digOk 0 9999999999999999 t = true then t.val else 0, t :: r, e, acall_fn rfl (af := a_billingref24_Reader_number) rfl rfl ?_, g _⟩
     simp only [hf, tokV] at e1 ef ed ⊢
     simp at e1 ed
     cases hd : digOk 0 9999999999999999 t <;> simp [hd] at ed <;> simp [List.replicate, go_sem, e1, ed, h1', bf' h2']
  ·have h1' : ¬ (1 : Int) < (t.str.length : Int) := by omega
   refine ⟨if digOk 0 9999999999999999 t = true then t.val else 0, t :: r, e, acall_fn rfl (af := a_billingref24_Reader_number) rfl rfl ?_, g _⟩
   simp only [hf, tokV] at e1 ef ed ⊢
   simp at e1 ed
   cases hd : digOk 0 9999999999999999 t <;> simp [hd] at ed <;> simp [List.replicate, go_sem, e1, ed, h1']
end
end Go.Am
namespace Go.Am
open Go Go.Pu
section
variable {n : Nat} {L : List (Tk × Nat)} {t : Tk} {ts us vs : List Tk} {e e1 e2 e3 m : Nat} {α β : Type}
theorem f_nextX (e : Nat) (h : At L (t :: ts)) (ht : t ≠ .fin) : acall mach0 n_billingref24_Reader_next [.ptr 0 0] (hf n L (ts.length + 1) e) = some (.ret (.tup []) (hf n L (if e = 0 then ts else t :: ts).length e)) := by
 by_cases he : e = 0
 ·subst he; exact f_next0 h ht
 ·rw [if_neg he]; exact f_nextE (ts.length + 1) e he
theorem f_failX (m e e' : Nat) : acall mach0 n_billingref24_Reader_fail [.ptr 0 0, .int .i64 e'] (hf n L m e) = some (.ret (.tup []) (hf n L m (if e = 0 then e' else e))) := by
 by_cases he : e = 0
 ·subst he; exact f_fail0 m e'
 ·rw [if_neg he]; exact f_failE m e e' he
theorem Gd.next {p : List Tk → PR α} {a : α} (hA : At L (t :: ts)) (ht : t ≠ .fin) (hp : p (t :: ts) = .ok a ts) : Gd L p (t :: ts) e a (if e = 0 then ts else t :: ts) e := by
 by_cases he : e = 0
 ·subst he
  exact ⟨hA.tl ht, fun _ => by simp, fun h => absurd rfl h, fun _ => by rw [hp]; exact ⟨rfl, rfl, rfl⟩⟩
 ·rw [if_neg he]
  exact ⟨hA, fun _ => Nat.le_refl _, fun _ => ⟨rfl, rfl⟩, fun h => absurd h he⟩
theorem Gd.fail {p : List Tk → PR α} {b : α} {k : Nat} (hA : At L ts) (hk : k ≠ 0) (hp : p ts = failT ts k) : Gd L p ts e b ts (if e = 0 then k else e) := by
 by_cases he : e = 0
 ·subst he
  exact ⟨hA, fun _ => Nat.le_refl _, fun h => absurd rfl h, fun _ => by rw [hp]; exact ⟨rfl, rfl, hk⟩⟩
 ·rw [if_neg he]
  exact ⟨hA, fun _ => Nat.le_refl _, fun _ => ⟨rfl, rfl⟩, fun h => absurd h he⟩
theorem Gd.tail {p p' : List Tk → PR α} {a : α} (h : Gd L p ts.tail 0 a us e1) (hp : p' ts = p ts.tail) : Gd L p' ts 0 a us e1 := by
 refine ⟨h.spot, fun h0 => Nat.le_trans (h.le h0) (by simp), fun he => absurd rfl he, fun _ => ?_⟩
 have := h.rel.2 rfl
 rw [hp]
 exact this
theorem Gd.stop {hd : List Tk → Bool} {item : List Tk → PR α} {acc : List α} (hA : At L ts) (hh : e = 0 → hd ts = false) : Gd L (manyT hd item m acc) ts e acc ts e := by
 cases m with
 | zero => exact Gd.pure hA
 | succ m => exact (Gd.pure (a := acc) hA).eq fun h0 => by simp only [manyT, hh h0]; rfl
theorem Gd.more {hd : List Tk → Bool} {item : List Tk → PR α} {acc acc' : List α} {x : α} (hh : hd ts = true) (h : Gd L item ts.tail 0 x vs e2) (h3 : Gd L (manyT hd item m (acc ++ [x])) vs e2 acc' us e3) : Gd L (manyT hd item (m + 1) acc) ts 0 acc' us e3 :=
 Gd.tail (Gd.bind (f := fun a r => manyT hd item m (acc ++ [a]) r) h h3) (by simp only [manyT, hh, if_true])
theorem Gd.opt {w : Bs} {p : List Tk → PR α} {a d : α} (hh : isWord w ts = true) (h : Gd L p ts.tail 0 a us e1) : Gd L (fun t => if isWord w t = true then p t.tail else .ok d t) ts 0 a us e1 :=
 Gd.tail h (by simp only [hh, if_true])
theorem Gd.skip {w : Bs} {p : List Tk → PR α} {d : α} (hA : At L ts) (hh : e = 0 → isWord w ts = false) : Gd L (fun t => if isWord w t = true then p t.tail else .ok d t) ts e d ts e :=
 (Gd.pure (a := d) hA).eq fun h0 => by rw [hh h0, if_neg (by decide)]
theorem Gd.sep {item : List Tk → PR α} {x : α} {acc : List α} (h : Gd L item ts e x vs e2) (h3 : Gd L (manyT (isSymT [44]) item vs.length [x]) vs e2 acc us e3) : Gd L (sepT item) ts e acc us e3 :=
 Gd.bind (f := fun a r => manyT (isSymT [44]) item r.length [a] r) h (h3.eq fun _ => rfl)
theorem Gd.many {hd : List Tk → Bool} {item : List Tk → PR α} {acc : List α} (h : Gd L (manyT hd item ts.length []) ts e acc us e3) : Gd L (fun r => manyT hd item r.length [] r) ts e acc us e3 := h.eq fun _ => rfl
theorem g_acceptW (hL : okT (L.map (·.1))) (s : Bs) (hs : isSym s = false) (e : Nat) (hA : At L ts) : ∃ b us e1, acall mach0 n_billingref24_Reader_accept [.ptr 0 0, .str s] (hf n L ts.length e) = some (.ret (.bool b) (hf n L us.length e1)) ∧ At L us ∧
  ((b = false ∧ us = ts ∧ e1 = e ∧ (e = 0 → isWord s ts = false)) ∨ (b = true ∧ e = 0 ∧ e1 = 0 ∧ isWord s ts = true ∧ us = ts.tail)) := by
 obtain ⟨b, us, e1, c, hu, h⟩ := g_accept (n := n) s e hA
 rw [isA_word (hA.ok hL) hs] at h
 exact ⟨b, us, e1, c, hu, h⟩
theorem g_acceptS (hL : okT (L.map (·.1))) (s : Bs) (hs : headIs lowerB s = false) (e : Nat) (hA : At L ts) : ∃ b us e1, acall mach0 n_billingref24_Reader_accept [.ptr 0 0, .str s] (hf n L ts.length e) = some (.ret (.bool b) (hf n L us.length e1)) ∧ At L us ∧
  ((b = false ∧ us = ts ∧ e1 = e ∧ (e = 0 → isSymT s ts = false)) ∨ (b = true ∧ e = 0 ∧ e1 = 0 ∧ isSymT s ts = true ∧ us = ts.tail)) := by
 obtain ⟨b, us, e1, c, hu, h⟩ := g_accept (n := n) s e hA
 rw [isA_sym (hA.ok hL) hs] at h
 exact ⟨b, us, e1, c, hu, h⟩
theorem g_expr (hL : okT (L.map (·.1))) (e : Nat) (hA : At L ts) : ∃ a us e1, acall mach0 n_billingref24_Reader_expr [.ptr 0 0] (hf n L ts.length e) = some (.ret (exprV a) (hf n L us.length e1)) ∧ Gd L exprT ts e a us e1 := by
 by_cases he : e = 0
 ·subst he
  obtain ⟨a, c, h1, h2⟩ := f_expr (n := n) hA (hA.ok hL)
  cases hp : exprT ts with
  | ok b q =>
   rw [hp] at c
   obtain rfl := h1 b q hp
   have hq := hA.expr hp
   exact ⟨a, q, 0, c, hq, fun _ => exprT_le hp, fun h => absurd rfl h, fun _ => by rw [hp]; exact ⟨rfl, rfl, rfl⟩⟩
  | err m k =>
   rw [hp] at c
   obtain ⟨hk, us, hu, rfl⟩ := h2 m k hp
   exact ⟨a, us, k, c, hu, fun h => absurd h hk, fun h => absurd rfl h, fun _ => by rw [hp]; exact ⟨rfl, rfl, hk⟩⟩
 ·obtain ⟨a, c⟩ := exprE (n := n) e ts he hA
  exact ⟨a, ts, e, c, hA, fun _ => Nat.le_refl _, fun _ => ⟨rfl, rfl⟩, fun h => absurd h he⟩
end
end Go.Am
namespace Go.Am
open Go Go.Pu
theorem d_rLength (y m : Int) (hy : 0 ≤ y) : acall mach0 n_billingref24_Length [.int .i64 y, .int .i64 m] [] = some (.ret (.int .i64 (dlen y m)) []) := by
 refine acall_fn rfl (af := a_billingref24_Length) rfl rfl ?_
 have t4 : y.tmod 4 = y % 4 := Int.tmod_eq_emod_of_nonneg hy
 have t1 : y.tmod 100 = y % 100 := Int.tmod_eq_emod_of_nonneg hy
 have t0 : y.tmod 400 = y % 400 := Int.tmod_eq_emod_of_nonneg hy
 have w4 : IntKind.wrap .i64 (y % 4) = y % 4 := wrap_i64 (by omega)
 have w1 : IntKind.wrap .i64 (y % 100) = y % 100 := wrap_i64 (by omega)
 have w0 : IntKind.wrap .i64 (y % 400) = y % 400 := wrap_i64 (by omega)
 unfold dlen leap
 by_cases h2 : m = 2
 ·subst h2
  by_cases a0 : y % 400 = 0
  ·have a4 : y % 4 = 0 := by omega
   have a1 : y % 100 = 0 := by omega
   simp [List.replicate, go_sem, t0, t1, t4, w0, w1, w4, a0, a1, a4]
  ·by_cases a4 : y % 4 = 0
   ·by_cases a1 : y % 100 = 0
    ·simp [List.replicate, go_sem, t0, t1, t4, w0, w1, w4, a0, a1, a4, bf' a0]
    ·simp [List.replicate, go_sem, t0, t1, t4, w0, w1, w4, a0, a1, a4, bf' a0, nt' a1]
   ·simp [List.replicate, go_sem, t0, t1, t4, w0, w1, w4, a0, a4, bf' a0, bf' a4]
 ·by_cases c4 : m = 4
  ·subst c4; simp [List.replicate, go_sem]
  by_cases c6 : m = 6
  ·subst c6; simp [List.replicate, go_sem]
  by_cases c9 : m = 9
  ·subst c9; simp [List.replicate, go_sem]
  by_cases c11 : m = 11
  ·subst c11; simp [List.replicate, go_sem]
  simp [List.replicate, go_sem, h2, c4, c6, c9, c11, bf' h2, bf' c4, bf' c6, bf' c9, bf' c11]
theorem d_ylen (y : Int) : ylen y = 337 + dlen y 2 := by unfold ylen dlen; simp; split <;> rfl
theorem rday_l2 (y N : Int) (M : Nat) (r : Rt) (hM : M ≤ 11) (hy : 0 ≤ y) (hN : 0 ≤ N) (hN' : N ≤ 1000000)
    (hk : Run mach0 (.c billingref24_Day_k1b :: []) .norm ⟨(.undef :: .undef :: .undef :: .undef :: .undef :: .undef :: .undef :: .undef :: .int .i64 (N + mcum y M) :: .undef :: .undef :: .undef :: .undef :: .undef :: .undef :: .undef :: .undef :: .undef :: .undef :: .undef :: .undef :: .undef :: .undef :: .undef :: .undef :: .undef :: .undef :: .undef :: .undef :: .undef :: .undef :: .undef :: .undef :: .undef :: .undef :: .undef :: .undef :: .undef :: .undef :: .undef :: .undef :: .undef :: .undef :: .undef :: .undef :: .undef :: .undef :: .undef :: .undef :: .undef :: .undef :: .undef :: .undef :: .undef :: .undef :: .undef :: .undef :: .undef :: .undef :: []), []⟩ (FinQ [.tmp 6, .tmp 7] 0 r)) :
    ∀ (n i : Nat) (v c : Int), i + n = M → v = N + mcum y i → c = (i : Int) + 1 →
    Run mach0 (.c billingref24_Day_l2b :: .lp billingref24_Day_l2 :: .endB 2 :: .c billingref24_Day_k1 :: []) .norm ⟨(.int .i64 y :: .int .i64 ((M : Int) + 1) :: .undef :: .undef :: .undef :: .undef :: .undef :: .undef :: .int .i64 v :: .undef :: .int .i64 c :: .undef :: .undef :: .undef :: .undef :: .undef :: .undef :: .undef :: .undef :: .undef :: .undef :: .undef :: .undef :: .undef :: .undef :: .undef :: .undef :: .undef :: .undef :: .undef :: .undef :: .undef :: .undef :: .undef :: .undef :: .undef :: .undef :: .undef :: .undef :: .undef :: .undef :: .undef :: .undef :: .undef :: .undef :: .undef :: .undef :: .undef :: .undef :: .undef :: .undef :: .undef :: .undef :: .undef :: .undef :: .undef :: .undef :: .undef :: .undef :: []), []⟩ (FinQ [.tmp 6, .tmp 7] 0 r)
  | 0, i, v, c, hi, hv, hc => by
    obtain rfl : i = M := by omega
    subst hv; subst hc
    unfold billingref24_Day_l2b
    simp [go_sem, billingref24_Day_k1]
    exact hk
  | n + 1, i, v, c, hi, hv, hc => by
    subst hv; subst hc
    have ih := rday_l2 y N M r hM hy hN hN' hk n (i + 1) _ _ (by omega) rfl rfl
    have e := d_rLength y ((i : Int) + 1) hy
    have q : (i : Int) + 1 < (M : Int) + 1 := by omega
    have hm : mcum y (i + 1) = mcum y i + dlen y ((i : Int) + 1) := rfl
    have b1 := mcum_nonneg y (i + 1)
    have b2 := mcum_hi (y := y) (m := i + 1) (by omega)
    have w1 : IntKind.wrap .i64 (N + mcum y i + dlen y ((i : Int) + 1)) = N + mcum y (i + 1) := by rw [hm, ← Int.add_assoc]; exact wrap_i64 (by omega)
    have w2 : IntKind.wrap .i64 ((i : Int) + 1 + 1) = (i : Int) + 1 + 1 := wrap_i64 (by omega)
    have q' : i < M := by omega
    unfold billingref24_Day_l2b
    simp [go_sem, q, q', e, w1, w2]
    exact ih
theorem rday_l1 (Y m D : Int) (r : Rt) (hY : 2000 ≤ Y) (hY' : Y ≤ 2399) (hD : 0 ≤ D) (hD' : D ≤ 100)
    (hk : Run mach0 (.c billingref24_Day_k2b :: []) .norm ⟨(.int .i64 Y :: .int .i64 m :: .undef :: .undef :: .undef :: .undef :: .undef :: .undef :: .int .i64 (D + bef Y) :: .undef :: .undef :: .undef :: .undef :: .undef :: .undef :: .undef :: .undef :: .undef :: .undef :: .undef :: .undef :: .undef :: .undef :: .undef :: .undef :: .undef :: .undef :: .undef :: .undef :: .undef :: .undef :: .undef :: .undef :: .undef :: .undef :: .undef :: .undef :: .undef :: .undef :: .undef :: .undef :: .undef :: .undef :: .undef :: .undef :: .undef :: .undef :: .undef :: .undef :: .undef :: .undef :: .undef :: .undef :: .undef :: .undef :: .undef :: .undef :: .undef :: .undef :: []), []⟩ (FinQ [.tmp 6, .tmp 7] 0 r)) :
    ∀ (n : Nat) (y v : Int), y + n = Y → 2000 ≤ y → v = D + bef y →
    Run mach0 (.c billingref24_Day_l1b :: .lp billingref24_Day_l1 :: .endB 0 :: .c billingref24_Day_k2 :: []) .norm ⟨(.int .i64 Y :: .int .i64 m :: .undef :: .undef :: .undef :: .undef :: .undef :: .undef :: .int .i64 v :: .int .i64 y :: .undef :: .undef :: .undef :: .undef :: .undef :: .undef :: .undef :: .undef :: .undef :: .undef :: .undef :: .undef :: .undef :: .undef :: .undef :: .undef :: .undef :: .undef :: .undef :: .undef :: .undef :: .undef :: .undef :: .undef :: .undef :: .undef :: .undef :: .undef :: .undef :: .undef :: .undef :: .undef :: .undef :: .undef :: .undef :: .undef :: .undef :: .undef :: .undef :: .undef :: .undef :: .undef :: .undef :: .undef :: .undef :: .undef :: .undef :: .undef :: .undef :: []), []⟩ (FinQ [.tmp 6, .tmp 7] 0 r)
  | 0, y, v, hy, hy0, hv => by
    obtain rfl : y = Y := by omega
    subst hv
    unfold billingref24_Day_l1b
    simp [go_sem, billingref24_Day_k2]
    exact hk
  | n + 1, y, v, hy, hy0, hv => by
    have e := d_rLength y 2 (by omega)
    have hs := bef_succ hy0
    have ht := d_ylen y
    have hlo := dlen_lo y 2
    have hhi := dlen_hi y 2
    have hb := bef_le (a := y + 1) (b := 2400) (by omega) (by omega)
    have b1 := bef_lo0 hy0
    have b2 := bef_end
    have ih := rday_l1 Y m D r hY hY' hD hD' hk n (y + 1) (v + 337 + dlen y 2) (by omega) (by omega) (by omega)
    have q : y < Y := by omega
    have w1 : IntKind.wrap .i64 (v + 337) = v + 337 := wrap_i64 (by omega)
    have w2 : IntKind.wrap .i64 (v + 337 + dlen y 2) = v + 337 + dlen y 2 := wrap_i64 (by omega)
    have w3 : IntKind.wrap .i64 (y + 1) = y + 1 := wrap_i64 (by omega)
    unfold billingref24_Day_l1b
    simp [go_sem, e, q, w1, w2, w3]
    exact ih
def dayR (y m d : Int) : V := match dayQ y m d with
 | some v => .tup [.int .i64 v, .bool true]
 | none => .tup [.int .i64 0, .bool false]
theorem e_rDay (y m d : Int) (hy : 0 ≤ y) : acall mach0 n_billingref24_Day [.int .i64 y, .int .i64 m, .int .i64 d] [] = some (.ret (dayR y m d) []) := by
 refine acall_fn rfl (af := a_billingref24_Day) rfl rfl ?_
 unfold dayR dayQ lenQ
 have e := d_rLength y m hy
 by_cases h1 : y < 2000
 ·have : d < 1 ∨ (0 : Int) < d := by omega
  simp [List.replicate, go_sem, h1, e, this]
 by_cases h2 : 2399 < y
 ·have : d < 1 ∨ (0 : Int) < d := by omega
  simp [List.replicate, go_sem, h1, h2, e, this]
 by_cases h3 : m < 1
 ·have : d < 1 ∨ (0 : Int) < d := by omega
  simp [List.replicate, go_sem, h1, h2, h3, e, this]
 by_cases h4 : 12 < m
 ·have : d < 1 ∨ (0 : Int) < d := by omega
  simp [List.replicate, go_sem, h1, h2, h3, h4, e, this]
 by_cases h5 : d < 1
 ·simp [List.replicate, go_sem, h1, h2, h3, h4, h5, e]
 by_cases h6 : dlen y m < d
 ·simp [List.replicate, go_sem, h1, h2, h3, h4, h5, h6, e]
 obtain ⟨M, hM⟩ : ∃ M : Nat, m = (M : Int) + 1 := ⟨(m - 1).toNat, by omega⟩
 subst hM
 have b1 := bef_lo0 (show 2000 ≤ y by omega)
 have b2 := bef_le (a := y) (b := 2400) (by omega) (by omega)
 have b3 := bef_end
 have b4 := dlen_hi y ((M : Int) + 1)
 have w : IntKind.wrap .i64 (d - 1) = d - 1 := wrap_i64 (by omega)
 have e1 : ((M : Int) + 1 - 1).toNat = M := by omega
 have e2 : bef y + mcum y M + d - 1 = d - 1 + bef y + mcum y M := by omega
 have l2 := rday_l2 y (d - 1 + bef y) M (.ret (.tup [.int .i64 (d - 1 + bef y + mcum y M), .bool true]) []) (by omega) hy (by omega) (by omega) (by
  unfold billingref24_Day_k1b
  simp [go_sem]) M 0 (d - 1 + bef y) 1 (Nat.zero_add _) (by simp [mcum]) (by simp)
 have l1 := rday_l1 y ((M : Int) + 1) (d - 1) _ (by omega) (by omega) (by omega) (by omega) (by
  unfold billingref24_Day_k2b
  simp [go_sem]
  exact l2) (y - 2000).toNat 2000 (d - 1) (by omega) (by omega) (by rw [bef_zero]; omega)
 simp [List.replicate, go_sem, h1, h2, h3, h4, h5, h6, e, w, e1, e2]
 exact l1
end Go.Am
namespace Go.Am
open Go Go.Pu
def dateR (ts : List Tk) : PR Int :=
 bindP (fixedT 4 9999 ts) fun y r => bindP (needS [45] r) fun _ r => bindP (fixedT 2 99 r) fun m r => bindP (needS [45] r) fun _ r => bindP (fixedT 2 99 r) fun d r =>
 match dayQ y m d with
 | some n => .ok n r
 | none => failT ts 15
theorem dateT_R (ts : List Tk) : bindP (dateR ts) (fun n r => .ok (n * 86400) r) = dateT ts := by
 unfold dateT dateR
 simp only [bindP_assoc]
 congr 1; funext y r
 congr 1; funext _ r
 congr 1; funext m r
 congr 1; funext _ r
 congr 1; funext d r
 cases dayQ y m d <;> rfl
section
variable {n : Nat} {L : List (Tk × Nat)} {t : Tk} {ts us vs : List Tk} {e e1 : Nat}
theorem Gd.fix {s v : Nat} {d : Bs} (hL : okT (L.map (·.1))) (m : Int) (hs : s ≠ 0) (hm : (10 : Int) ^ s ≤ m + 1) (hm' : m ≤ 9999999999999999) (hA : At L ts) (h : Gd L (dgT s 9999999999999999) ts e (d, v) us e1) : Gd L (fixedT s m) ts e (v : Int) us e1 :=
 (h.map (fun x => ((x.2 : Nat) : Int))).eq fun _ => by
  show bindP (dgT s 9999999999999999 ts) (fun x r => .ok (x.2 : Int) r) = fixedT s m ts
  rw [dgT_any m hs hm hm' ts (hA.ok hL), fixedT_dg m hs]
theorem Gd.fx {s v : Nat} {d : Bs} {m : Int} (hs : s ≠ 0) (h : Gd L (dgT s m) ts e (d, v) us e1) : Gd L (fixedT s m) ts e (v : Int) us e1 :=
 (h.map (fun x => ((x.2 : Nat) : Int))).eq fun _ => by
  show bindP (dgT s m ts) (fun x r => .ok (x.2 : Int) r) = fixedT s m ts
  rw [fixedT_dg m hs]
theorem g_date (hL : okT (L.map (·.1))) (e : Nat) (hA : At L ts) : ∃ a us e1, acall mach0 n_billingref24_Reader_date [.ptr 0 0] (hf n L ts.length e) = some (.ret (.int .i64 a) (hf n L us.length e1)) ∧ Gd L dateR ts e a us e1 := by
 obtain ⟨k1, p1, d1, y, q1, e1, c1, g1, b1⟩ := g_digits (n := n) 4 9999999999999999 (by decide) e hA
 obtain ⟨q2, e2, c2, g2⟩ := g_expectS (n := n) hL [45] (by decide) e1 g1.spot
 obtain ⟨k3, p3, d3, m, q3, e3, c3, g3, b3⟩ := g_digits (n := n) 2 9999999999999999 (by decide) e2 g2.spot
 obtain ⟨q4, e4, c4, g4⟩ := g_expectS (n := n) hL [45] (by decide) e3 g3.spot
 obtain ⟨k5, p5, d5, d, q5, e5, c5, g5, b5⟩ := g_digits (n := n) 2 9999999999999999 (by decide) e4 g4.spot
 have cd := e_rDay y m d (by omega)
 unfold dayR at cd
 have f1 := g1.fix hL 9999 (by decide) (by decide) (by decide) hA
 have f3 := g3.fix hL 99 (by decide) (by decide) (by decide) g2.spot
 have f5 := g5.fix hL 99 (by decide) (by decide) (by decide) g4.spot
 simp only [tokV] at c1 c3 c5
 by_cases z5 : e5 = 0
 ·have z4 := g5.zero z5
  have z3 := g4.zero z4
  have z2 := g3.zero z3
  have z1 := g2.zero z2
  have z0 := g1.zero z1
  subst z5 z4 z3 z2 z1 z0
  have r1 := f1.ok rfl
  have r2 := g2.ok rfl
  have r3 := f3.ok rfl
  have r4 := g4.ok rfl
  have r5 := f5.ok rfl
  have l1 := f1.le rfl
  have l2 := g2.le rfl
  have l3 := f3.le rfl
  have l4 := g4.le rfl
  have l5 := f5.le rfl
  have ef := f_fail0 (n := n) (L := L) ts.length 15
  simp only [hf] at c1 c2 c3 c4 c5 ef ⊢
  simp at c1 c2 c3 c4 c5 ef
  cases hd : dayQ y m d with
  | some v =>
   rw [hd] at cd
   refine ⟨v, q5, 0, acall_fn rfl (af := a_billingref24_Reader_date) rfl rfl ?_, g5.spot, fun _ => by omega, fun h => absurd rfl h, fun _ => ?_⟩
   ·simp [List.replicate, go_sem, c1, c2, c3, c4, c5, cd]
   ·unfold dateR
    simp only [r1, r2, r3, r4, r5, bindP_ok, hd]
    exact ⟨trivial, trivial, trivial⟩
  | none =>
   rw [hd] at cd
   refine ⟨0, ts, 15, acall_fn rfl (af := a_billingref24_Reader_date) rfl rfl ?_, hA, fun _ => Nat.le_refl _, fun h => absurd rfl h, fun _ => ?_⟩
   ·simp [List.replicate, go_sem, c1, c2, c3, c4, c5, cd, ef]
   ·unfold dateR
    simp only [r1, r2, r3, r4, r5, bindP_ok, hd]
    exact ⟨rfl, rfl, by decide⟩
 ·have z5' : ¬ (e5 : Int) = 0 := by omega
  have g : ∀ b, Gd L dateR ts e b q5 e5 := fun b =>
   (f1.bind (f := fun y r => bindP (needS [45] r) fun _ r => bindP (fixedT 2 99 r) fun m r => bindP (needS [45] r) fun _ r => bindP (fixedT 2 99 r) fun d r => match dayQ y m d with | some n => .ok n r | none => failT ts 15)
    (g2.bind (f := fun _ r => bindP (fixedT 2 99 r) fun m r => bindP (needS [45] r) fun _ r => bindP (fixedT 2 99 r) fun d r => match dayQ y m d with | some n => .ok n r | none => failT ts 15)
    (f3.bind (f := fun m r => bindP (needS [45] r) fun _ r => bindP (fixedT 2 99 r) fun d r => match dayQ y m d with | some n => .ok n r | none => failT ts 15)
    (g4.bind (f := fun _ r => bindP (fixedT 2 99 r) fun d r => match dayQ y m d with | some n => .ok n r | none => failT ts 15)
    (f5.err (f := fun _ d r => match dayQ y m d with | some n => .ok n r | none => failT ts 15) (b := b) z5))))).eq fun _ => rfl
  simp only [hf] at c1 c2 c3 c4 c5 ⊢
  cases hd : dayQ y m d with
  | some v =>
   rw [hd] at cd
   refine ⟨v, q5, e5, acall_fn rfl (af := a_billingref24_Reader_date) rfl rfl ?_, g v⟩
   simp at c1 c2 c3 c4 c5
   simp [List.replicate, go_sem, c1, c2, c3, c4, c5, cd, bf' z5']
  | none =>
   rw [hd] at cd
   refine ⟨0, q5, e5, acall_fn rfl (af := a_billingref24_Reader_date) rfl rfl ?_, g 0⟩
   simp at c1 c2 c3 c4 c5
   simp [List.replicate, go_sem, c1, c2, c3, c4, c5, cd, bf' z5']
theorem isNum_tk (t : Tk) (r : List Tk) : isNum (t :: r) = decide (t.kind = 2) := by cases t <;> rfl
theorem g_clock (e : Nat) (hL : okT (L.map (·.1))) (hA : At L ts) : ∃ a us e1, acall mach0 n_billingref24_Reader_clock [.ptr 0 0] (hf n L ts.length e) = some (.ret (.int .i64 a) (hf n L us.length e1)) ∧ Gd L clockT ts e a us e1 ∧ 0 ≤ a ∧ a ≤ 86400 := by
 by_cases he : e = 0
 ·subst he
  obtain ⟨t, r, rfl⟩ := ends_ne hA.2.1
  have c0 := f_now (n := n) 0 hA
  by_cases hk : t.kind = 2
  ·obtain ⟨k1, p1, d1, h, q1, e1, c1, g1, b1⟩ := g_digits (n := n) 2 23 (by decide) 0 hA
   obtain ⟨q2, e2, c2, g2⟩ := g_expectS (n := n) hL [58] (by decide) e1 g1.spot
   obtain ⟨k3, p3, d3, m, q3, e3, c3, g3, b3⟩ := g_digits (n := n) 2 59 (by decide) e2 g2.spot
   obtain ⟨q4, e4, c4, g4⟩ := g_expectS (n := n) hL [58] (by decide) e3 g3.spot
   obtain ⟨k5, p5, d5, s, q5, e5, c5, g5, b5⟩ := g_digits (n := n) 2 59 (by decide) e4 g4.spot
   have hn : isNum (t :: r) = true := by rw [isNum_tk]; simp [hk]
   have w1 : IntKind.wrap .i64 (3600 * (h : Int)) = 3600 * h := wrap_i64 (by omega)
   have w2 : IntKind.wrap .i64 (60 * (m : Int)) = 60 * m := wrap_i64 (by omega)
   have w3 : IntKind.wrap .i64 (3600 * (h : Int) + 60 * m) = 3600 * h + 60 * m := wrap_i64 (by omega)
   have w4 : IntKind.wrap .i64 (3600 * (h : Int) + 60 * m + s) = 3600 * h + 60 * m + s := wrap_i64 (by omega)
   refine ⟨3600 * h + 60 * m + s, q5, e5, acall_fn rfl (af := a_billingref24_Reader_clock) rfl rfl ?_, ?_, by omega, by omega⟩
   ·simp only [tokV] at c0 c1 c3 c5
    simp only [hf] at c0 c1 c2 c3 c4 c5 ⊢
    simp at c0 c1 c2 c3 c4 c5
    simp [List.replicate, go_sem, c0, hk, c1, c2, c3, c4, c5, w1, w2, w3, w4]
   ·have g : Gd L clockN (t :: r) 0 (3600 * (h : Int) + 60 * m + s) q5 e5 :=
     (g1.fx (by decide)).bind (f := fun h r => bindP (needS [58] r) fun _ r => bindP (fixedT 2 59 r) fun m r => bindP (needS [58] r) fun _ r => bindP (fixedT 2 59 r) fun s r => .ok (3600 * h + 60 * m + s) r)
     (g2.bind (f := fun _ r => bindP (fixedT 2 59 r) fun m r => bindP (needS [58] r) fun _ r => bindP (fixedT 2 59 r) fun s r => .ok (3600 * (h : Int) + 60 * m + s) r)
     ((g3.fx (by decide)).bind (f := fun m r => bindP (needS [58] r) fun _ r => bindP (fixedT 2 59 r) fun s r => .ok (3600 * (h : Int) + 60 * m + s) r)
     (g4.bind (f := fun _ r => bindP (fixedT 2 59 r) fun s r => .ok (3600 * (h : Int) + 60 * (m : Int) + s) r)
     ((g5.fx (by decide)).map (fun s => 3600 * (h : Int) + 60 * (m : Int) + s)))))
    exact g.eq fun _ => by unfold clockT; rw [hn, if_pos rfl]
  ·have hk' : ¬ (t.kind : Int) = 2 := by omega
   have hn : isNum (t :: r) = false := by rw [isNum_tk]; simp [hk]
   refine ⟨0, t :: r, 0, acall_fn rfl (af := a_billingref24_Reader_clock) rfl rfl ?_, (Gd.pure (a := (0 : Int)) hA).eq fun _ => by unfold clockT; rw [hn, if_neg (by decide)], by decide, by decide⟩
   simp only [hf, tokV] at c0 ⊢
   simp at c0
   simp [List.replicate, go_sem, c0, nt' hk']
 ·have he' : ¬ (e : Int) = 0 := by omega
  refine ⟨0, ts, e, acall_fn rfl (af := a_billingref24_Reader_clock) rfl rfl ?_, ⟨hA, fun _ => Nat.le_refl _, fun _ => ⟨rfl, rfl⟩, fun h => absurd h he⟩, by decide, by decide⟩
  simp [List.replicate, go_sem, nt' he']
def mostOf (b : Bool) : Int := if b then 24 else 23
theorem g_time (b : Bool) (e : Nat) (hL : okT (L.map (·.1))) (hA : At L ts) : ∃ a us e1, acall mach0 n_billingref24_Reader_time [.ptr 0 0, .bool b] (hf n L ts.length e) = some (.ret (.int .i64 a) (hf n L us.length e1)) ∧ Gd L (timeT (mostOf b)) ts e a us e1 := by
  obtain ⟨k1, p1, d1, h, q1, e1, c1, g1, b1⟩ := g_digits (n := n) 2 (mostOf b) (by cases b <;> decide) e hA
  obtain ⟨q2, e2, c2, g2⟩ := g_expectS (n := n) hL [58] (by decide) e1 g1.spot
  have hb : (h : Int) ≤ 24 := by cases b <;> simp [mostOf] at b1 <;> omega
  obtain ⟨k3, p3, d3, m, q3, e3, c3, g3, b3⟩ := g_digits (n := n) 2 (if (h : Int) = 24 then 0 else 59) (by split <;> decide) e2 g2.spot
  have b3' : (m : Int) ≤ 59 := by split at b3 <;> omega
  have w1 : IntKind.wrap .i64 (60 * (h : Int)) = 60 * h := wrap_i64 (by omega)
  have w2 : IntKind.wrap .i64 (60 * (h : Int) + m) = 60 * h + m := wrap_i64 (by omega)
  refine ⟨60 * h + m, q3, e3, acall_fn rfl (af := a_billingref24_Reader_time) rfl rfl ?_, ?_⟩
  · simp only [tokV] at c1 c3
    simp only [hf] at c1 c2 c3 ⊢
    by_cases h24 : (h : Int) = 24
    · rw [if_pos h24] at c3
      have h24n : h = 24 := by omega
      subst h24n
      simp at w1 w2
      cases b <;> simp [mostOf] at c1 c2 c3 <;> simp [List.replicate, go_sem, c1, c2, c3, w1, w2]
    · rw [if_neg h24] at c3
      cases b <;> simp [mostOf] at c1 c2 c3 <;> simp [List.replicate, go_sem, c1, c2, c3, w1, w2, bf' h24]
  · exact (g1.fx (by decide)).bind (f := fun h r => bindP (needS [58] r) fun _ r => bindP (fixedT 2 (if h = 24 then 0 else 59) r) fun m r => .ok (60 * h + m) r)
      (g2.bind (f := fun _ r => bindP (fixedT 2 (if (h : Int) = 24 then 0 else 59) r) fun m r => .ok (60 * (h : Int) + m) r)
      ((g3.fx (by decide)).map (fun m => 60 * (h : Int) + m)))
end
end Go.Am
namespace Go.Am
open Go Go.Pu
theorem d_Days : acall mach0 n_billingref24_Days [] [] = some (.ret (.sl true 1 (ssV dayWs)) []) := (acall_iff _).2 ⟨60, by kernel_rfl⟩
theorem d_Kinds : acall mach0 n_billingref24_Kinds [] [] = some (.ret (.sl false 1 (ssV kindWs)) []) := (acall_iff _).2 ⟨60, by kernel_rfl⟩
section
variable {n : Nat} {L : List (Tk × Nat)} {t : Tk} {ts us vs : List Tk} {e e1 : Nat}
theorem g_word (l : List Bs) (hl : l.length ≤ 1000) (h1 : 0 < l.length) (least : Int) (e : Nat) (hA : At L ts) : ∃ a us e1, acall mach0 n_billingref24_Reader_word [.ptr 0 0, .sl false 1 (ssV l), .int .i64 least] (hf n L ts.length e) = some (.ret (.int .i64 a) (hf n L us.length e1)) ∧ Gd L (wordT l least) ts e a us e1 ∧ 0 ≤ a ∧ a < l.length ∧ (e1 = 0 → least ≤ a) := by
 obtain ⟨t, r, rfl⟩ := ends_ne hA.2.1
 have c0 := f_now (n := n) e hA
 have cp := e_Place false l t.str hl
 have ef := f_failX (n := n) (L := L) (r.length + 1) e 1
 have bad : wordT l least (t :: r) = failT (t :: r) 1 → Gd L (wordT l least) (t :: r) e 0 (t :: r) (if e = 0 then 1 else e) ∧ (0 : Int) ≤ 0 ∧ (0 : Int) < l.length ∧ ((if e = 0 then 1 else e) = 0 → least ≤ 0) := fun h =>
  ⟨Gd.fail hA (by decide) h, by omega, by omega, fun hz => by split at hz <;> omega⟩
 generalize (if e = 0 then 1 else e) = e1 at *
 by_cases hk : t.kind = 1
 ·obtain ⟨w, rfl⟩ := word_of_kind hk
  have en := f_nextX (n := n) e hA (by simp)
  have e4 : Go.Pu.wordT l least (.word w :: r) = if wplace l w < least ∨ wplace l w < 0 then failT (.word w :: r) 1 else .ok (wplace l w) r := rfl
  simp only [Tk.kind, Tk.val, Tk.str] at c0 cp
  by_cases hp : wplace l w < least
  ·refine ⟨0, .word w :: r, e1, acall_fn rfl (af := a_billingref24_Reader_word) rfl rfl ?_, bad (by rw [e4, if_pos (.inl hp)])⟩
   simp only [hf, tokV] at c0 ef ⊢
   simp at c0 ef
   simp [List.replicate, go_sem, c0, cp, hp, ef]
  ·by_cases hp2 : wplace l w < 0
   ·refine ⟨0, .word w :: r, e1, acall_fn rfl (af := a_billingref24_Reader_word) rfl rfl ?_, bad (by rw [e4, if_pos (.inr hp2)])⟩
    simp only [hf, tokV] at c0 ef ⊢
    simp at c0 ef
    simp [List.replicate, go_sem, c0, cp, hp, hp2, ef]
   ·have hi := wplace_hi w l
    refine ⟨wplace l w, if e = 0 then r else .word w :: r, e, acall_fn rfl (af := a_billingref24_Reader_word) rfl rfl ?_, Gd.next hA (by simp) (by rw [e4, if_neg (by omega)]), by omega, by omega, fun _ => by omega⟩
    generalize (if e = 0 then r else .word w :: r) = us at *
    simp only [hf, tokV] at c0 en ⊢
    simp at c0 en
    simp [List.replicate, go_sem, c0, cp, hp, hp2, en]
 ·have hk' : ¬ (t.kind : Int) = 1 := by omega
  have e3 : Go.Pu.wordT l least (t :: r) = failT (t :: r) 1 := by cases t <;> simp [Go.Pu.wordT, Tk.kind] at hk ⊢
  refine ⟨0, t :: r, e1, acall_fn rfl (af := a_billingref24_Reader_word) rfl rfl ?_, bad e3⟩
  simp only [hf, tokV] at c0 ef ⊢
  simp at c0 ef
  simp [List.replicate, go_sem, c0, cp, nt' hk', ef]
theorem slot_l2 (hL : okT (L.map (·.1))) : ∀ (m : Nat) (last days : Int) (ts : List Tk) (e : Nat), (e = 0 → ts.length ≤ m) → 0 ≤ last → last ≤ 7 → (e = 0 → 0 ≤ days ∧ days < 2 ^ (last + 1).toNat) → At L ts →
    ∃ days' us e1, Gd L (Go.Pu.daysT m last days) ts e days' us e1 ∧ ∀ (K : List It) (P : Ex → St → Prop),
    (Run mach0 (.c billingref24_Reader_slot_k1b :: K) .norm ⟨(.ptr 0 0 :: .undef :: .box [.int .i64 0, .int .i64 0, .int .i64 0] :: .undef :: .int .i64 days' :: .undef :: .undef :: .undef :: .undef :: .undef :: .undef :: .undef :: .undef :: .undef :: .undef :: .undef :: .undef :: .undef :: .undef :: .undef :: .undef :: .undef :: .undef :: .undef :: .undef :: .undef :: .undef :: .undef :: .undef :: .undef :: .undef :: .undef :: .undef :: []), hf n L us.length e1⟩ P →
    Run mach0 (.c billingref24_Reader_slot_l1b :: .lp billingref24_Reader_slot_l1 :: .endB 0 :: .c billingref24_Reader_slot_k1 :: K) .norm ⟨(.ptr 0 0 :: .undef :: .box [.int .i64 0, .int .i64 0, .int .i64 0] :: .int .i64 last :: .int .i64 days :: .undef :: .undef :: .undef :: .undef :: .undef :: .undef :: .undef :: .undef :: .undef :: .undef :: .undef :: .undef :: .undef :: .undef :: .undef :: .undef :: .undef :: .undef :: .undef :: .undef :: .undef :: .undef :: .undef :: .undef :: .undef :: .undef :: .undef :: .undef :: []), hf n L ts.length e⟩ P) := by
  intro m
  induction m with
  | zero =>
    intro last days ts e hm h0 h7 hd hA
    obtain ⟨b, us, e1, c, hu, hb⟩ := g_acceptS (n := n) hL [43] (by decide) e hA
    rcases hb with ⟨rfl, rfl, rfl, hb⟩ | ⟨rfl, rfl, rfl, hb, rfl⟩
    · refine ⟨days, us, e1, Gd.pure hA, fun K P hk => ?_⟩
      unfold billingref24_Reader_slot_l1b
      simp [go_sem, c, billingref24_Reader_slot_k1]
      exact hk
    · obtain ⟨t, r, rfl⟩ := ends_ne hA.2.1
      have := hm rfl
      simp at this
  | succ m ih =>
    intro last days ts e hm h0 h7 hd hA
    obtain ⟨b, us, e1, c, hu, hb⟩ := g_acceptS (n := n) hL [43] (by decide) e hA
    rcases hb with ⟨rfl, rfl, rfl, hb⟩ | ⟨rfl, rfl, rfl, hb, hus⟩
    · refine ⟨days, us, e1, (Gd.pure (a := days) hA).eq fun h => by conv => rhs; unfold Go.Pu.daysT
                                                                    rw [hb h, if_neg (by decide)], fun K P hk => ?_⟩
      unfold billingref24_Reader_slot_l1b
      simp [go_sem, c, billingref24_Reader_slot_k1]
      exact hk
    · obtain ⟨k, vs, e2, c2, g2, k0, k8, kl⟩ := g_word (n := n) dayWs (by decide) (by decide) (last + 1) 0 hu
      have k7 : k ≤ 7 := by
        have e8 : dayWs.length = 8 := rfl
        rw [e8] at k8; omega
      have dd := hd rfl
      have w : IntKind.wrap .i64 (last + 1) = last + 1 := wrap_i64 (by omega)
      have sh := shl_i64 k0 k7
      have hlen : e2 = 0 → vs.length ≤ m := fun h => by
        have h1 := g2.le h
        have h2 := hm rfl
        obtain ⟨t, r, rfl⟩ := ends_ne hA.2.1
        simp only [hus, List.tail_cons, List.length_cons] at h1 h2
        omega
      have hor : e2 = 0 → bits .or .i64 days (2 ^ k.toNat) = days + 2 ^ k.toNat ∧ days + 2 ^ k.toNat < 2 ^ (k + 1).toNat := fun h => by
        obtain ⟨p1, p2⟩ := pow_step (kl h) h0 dd.2
        exact ⟨or_i64 k0 k7 dd.1 p1, p2⟩
      have hp0 : (0 : Int) ≤ 2 ^ k.toNat := Int.le_of_lt (Int.pow_pos (by decide))
      obtain ⟨d', us', e3, g3, run⟩ := ih k (bits .or .i64 days (2 ^ k.toNat)) vs e2 hlen k0 k7 (fun h => by rw [(hor h).1]; exact ⟨by omega, (hor h).2⟩) g2.spot
      refine ⟨d', us', e3, ?_, fun K P hk => ?_⟩
      · rw [hus] at g2
        refine Gd.tail (p := fun t => bindP (wordT dayWs (last + 1) t) fun k r => Go.Pu.daysT m k (days + 2 ^ k.toNat) r) (Gd.bind (f := fun k r => Go.Pu.daysT m k (days + 2 ^ k.toNat) r) g2 (g3.eq fun h => by rw [(hor h).1])) ?_
        conv => lhs; unfold Go.Pu.daysT
        rw [hb, if_pos rfl]
      · have run := run K P hk
        unfold billingref24_Reader_slot_l1b
        simp [go_sem, c, d_Days, w, c2, k0, sh]
        exact run
theorem g_slot (hL : okT (L.map (·.1))) (e : Nat) (hA : At L ts) : ∃ a us e1, acall mach0 n_billingref24_Reader_slot [.ptr 0 0] (hf n L ts.length e) = some (.ret (slotV a) (hf n L us.length e1)) ∧ Gd L slotT ts e a us e1 := by
  obtain ⟨k, q1, e1, c1, g1, k0, k8, kl⟩ := g_word (n := n) dayWs (by decide) (by decide) 0 e hA
  have k7 : k ≤ 7 := by
    have e8 : dayWs.length = 8 := rfl
    rw [e8] at k8; omega
  have sh := shl_i64 k0 k7
  have hp0 : (0 : Int) ≤ 2 ^ k.toNat := Int.le_of_lt (Int.pow_pos (by decide))
  have hp1 : (2 : Int) ^ k.toNat < 2 ^ (k + 1).toNat := by
    rw [show (k + 1).toNat = k.toNat + 1 by omega, Int.pow_succ]
    have := Int.pow_pos (n := 2) (m := k.toNat) (by decide)
    omega
  obtain ⟨d, q2, e2, g2, run⟩ := slot_l2 (n := n) hL q1.length k (2 ^ k.toNat) q1 e1 (fun _ => Nat.le_refl _) k0 k7 (fun _ => ⟨hp0, hp1⟩) g1.spot
  obtain ⟨a, q3, e3, c3, g3⟩ := g_time (n := n) false e2 hL g2.spot
  obtain ⟨q4, e4, c4, g4⟩ := g_expectS (n := n) hL [45] (by decide) e3 g3.spot
  obtain ⟨b, q5, e5, c5, g5⟩ := g_time (n := n) true e4 hL g4.spot
  refine ⟨⟨d, a, b⟩, q5, e5, acall_fn rfl (af := a_billingref24_Reader_slot) rfl rfl ?_, ?_⟩
  · have run := run [] (FinQ [.cell 2 (some 3)] 1 (.ret (slotV ⟨d, a, b⟩) (hf n L q5.length e5))) (by
      unfold billingref24_Reader_slot_k1b
      simp [go_sem, c3, c4, c5, slotV])
    simp [List.replicate, go_sem, d_Days, c1, k0, sh]
    exact run
  · exact g1.bind (f := fun k r => bindP (daysT r.length k (2 ^ k.toNat) r) fun d r => bindP (timeT 23 r) fun a r => bindP (needS [45] r) fun _ r => bindP (timeT 24 r) fun b r => .ok (⟨d, a, b⟩ : SlotP) r)
      ((g2.eq (p' := fun r => Go.Pu.daysT r.length k (2 ^ k.toNat) r) fun _ => rfl).bind (f := fun d r => bindP (timeT 23 r) fun a r => bindP (needS [45] r) fun _ r => bindP (timeT 24 r) fun b r => .ok (⟨d, a, b⟩ : SlotP) r)
      (Gd.bind (p := timeT 23) (f := fun a r => bindP (needS [45] r) fun _ r => bindP (timeT 24 r) fun b r => .ok (⟨d, a, b⟩ : SlotP) r) g3
      (g4.bind (f := fun _ r => bindP (timeT 24 r) fun b r => .ok (⟨d, a, b⟩ : SlotP) r)
      (Gd.map (p := timeT 24) (fun b => (⟨d, a, b⟩ : SlotP)) g5))))
end
end Go.Am
namespace Go.Am
open Go Go.Pu
section
variable {n : Nat} {L : List (Tk × Nat)} {t : Tk} {ts us vs : List Tk} {e e1 : Nat}
theorem g_opt (hL : okT (L.map (·.1))) (w : Bs) (hw : isSym w = false) (e : Nat) (hA : At L ts) : ∃ b us e1, acall mach0 n_billingref24_Reader_accept [.ptr 0 0, .str w] (hf n L ts.length e) = some (.ret (.bool b) (hf n L us.length e1)) ∧
  ((b = false ∧ Gd L (optN w) ts e 0 us e1) ∨ (b = true ∧ ∃ a vs e2, acall mach0 n_billingref24_Reader_number [.ptr 0 0] (hf n L us.length e1) = some (.ret (.int .i64 a) (hf n L vs.length e2)) ∧ Gd L (optN w) ts e a vs e2)) := by
 obtain ⟨b, us, e1, c, hu, hb⟩ := g_acceptW (n := n) hL w hw e hA
 refine ⟨b, us, e1, c, ?_⟩
 rcases hb with ⟨rfl, rfl, rfl, hb⟩ | ⟨rfl, rfl, rfl, hb, rfl⟩
 ·exact .inl ⟨rfl, Gd.skip hA hb⟩
 ·obtain ⟨a, vs, e2, c2, g2⟩ := g_number (n := n) hL 0 hu
  exact .inr ⟨rfl, a, vs, e2, c2, Gd.opt hb g2⟩
theorem g_step (hL : okT (L.map (·.1))) (e : Nat) (hA : At L ts) : ∃ a us e1, acall mach0 n_billingref24_Reader_step [.ptr 0 0] (hf n L ts.length e) = some (.ret (stepV a) (hf n L us.length e1)) ∧ Gd L tierT ts e a us e1 := by
 obtain ⟨b, q0, e0, c0, h0⟩ := g_opt (n := n) hL kUpto (by decide) e hA
 have key : ∃ u q1 e1, Gd L (optN kUpto) ts e u q1 e1 ∧ ∀ (a : Int) (q2 : List Tk) (e2 : Nat) (q3 : List Tk) (e3 : Nat) (p : Int) (q4 : List Tk) (e4 : Nat) (q5 : List Tk) (e5 : Nat), acall mach0 n_billingref24_Reader_expect [.ptr 0 0, .str kPer] (hf n L q1.length e1) = some (.ret (.tup []) (hf n L q2.length e2)) →
   acall mach0 n_billingref24_Reader_number [.ptr 0 0] (hf n L q2.length e2) = some (.ret (.int .i64 a) (hf n L q3.length e3)) →
   acall mach0 n_billingref24_Reader_expect [.ptr 0 0, .str kAt] (hf n L q3.length e3) = some (.ret (.tup []) (hf n L q4.length e4)) →
   acall mach0 n_billingref24_Reader_number [.ptr 0 0] (hf n L q4.length e4) = some (.ret (.int .i64 p) (hf n L q5.length e5)) →
   acall mach0 n_billingref24_Reader_step [.ptr 0 0] (hf n L ts.length e) = some (.ret (stepV ⟨u, a, p⟩) (hf n L q5.length e5)) := by
  rcases h0 with ⟨rfl, g⟩ | ⟨rfl, u, q1, e1, c1, g⟩
  ·refine ⟨0, q0, e0, g, fun a q2 e2 q3 e3 p q4 e4 q5 e5 c2 c3 c4 c5 => acall_fn rfl (af := a_billingref24_Reader_step) rfl rfl ?_⟩
   simp only [kUpto, kPer, kAt] at c0 c2 c4
   simp [List.replicate, go_sem, c0, c2, c3, c4, c5, stepV]
  ·refine ⟨u, q1, e1, g, fun a q2 e2 q3 e3 p q4 e4 q5 e5 c2 c3 c4 c5 => acall_fn rfl (af := a_billingref24_Reader_step) rfl rfl ?_⟩
   simp only [kUpto, kPer, kAt] at c0 c2 c4
   simp [List.replicate, go_sem, c0, c1, c2, c3, c4, c5, stepV]
 obtain ⟨u, q1, e1, g1, walk⟩ := key
 obtain ⟨q2, e2, c2, g2⟩ := g_expectW (n := n) hL kPer (by decide) e1 g1.spot
 obtain ⟨a, q3, e3, c3, g3⟩ := g_number (n := n) hL e2 g2.spot
 obtain ⟨q4, e4, c4, g4⟩ := g_expectW (n := n) hL kAt (by decide) e3 g3.spot
 obtain ⟨p, q5, e5, c5, g5⟩ := g_number (n := n) hL e4 g4.spot
 exact ⟨⟨u, a, p⟩, q5, e5, walk a q2 e2 q3 e3 p q4 e4 q5 e5 c2 c3 c4 c5,
  g1.bind (f := fun u r => bindP (needW kPer r) fun _ r => bindP (numberT r) fun q r => bindP (needW kAt r) fun _ r => bindP (numberT r) fun p r => .ok (⟨u, q, p⟩ : StepP) r)
  (g2.bind (f := fun _ r => bindP (numberT r) fun q r => bindP (needW kAt r) fun _ r => bindP (numberT r) fun p r => .ok (⟨u, q, p⟩ : StepP) r)
  (g3.bind (f := fun q r => bindP (needW kAt r) fun _ r => bindP (numberT r) fun p r => .ok (⟨u, q, p⟩ : StepP) r)
  (g4.bind (f := fun _ r => bindP (numberT r) fun p r => .ok (⟨u, a, p⟩ : StepP) r)
  (g5.map (fun p => (⟨u, a, p⟩ : StepP))))))⟩
theorem zone_x1 (hL : okT (L.map (·.1))) (name : Bs) : ∀ (m : Nat) (acc : List Bs) (ts : List Tk) (e : Nat), (e = 0 → ts.length ≤ m) → acc.length + m ≤ 80000 → At L ts →
  ∃ acc' us e1, acc.length ≤ acc'.length ∧ Gd L (manyT (isSymT [44]) digitsT m acc) ts e acc' us e1 ∧ ∀ (K : List It) (P : Ex → St → Prop),
  (Run mach0 (.c billingref24_Reader_zone_k1b :: K) .norm ⟨(.ptr 0 0 :: .undef :: .box [.str [], .sl false 1 []] :: .box [.str name, .sl true 1 (acc'.map V.str)] :: .undef :: .undef :: .undef :: .undef :: .undef :: .undef :: .undef :: .undef :: .undef :: .undef :: .undef :: .undef :: .undef :: .undef :: .undef :: .undef :: .undef :: .undef :: .undef :: .undef :: .undef :: .undef :: .undef :: .undef :: []), hf n L us.length e1⟩ P →
  Run mach0 (.c billingref24_Reader_zone_l1b :: .lp billingref24_Reader_zone_l1 :: .endB 0 :: .c billingref24_Reader_zone_k1 :: K) .norm ⟨(.ptr 0 0 :: .undef :: .box [.str [], .sl false 1 []] :: .box [.str name, .sl true 1 (acc.map V.str)] :: .undef :: .undef :: .undef :: .undef :: .undef :: .undef :: .undef :: .undef :: .undef :: .undef :: .undef :: .undef :: .undef :: .undef :: .undef :: .undef :: .undef :: .undef :: .undef :: .undef :: .undef :: .undef :: .undef :: .undef :: []), hf n L ts.length e⟩ P) := by
 intro m
 induction m with
 | zero =>
  intro acc ts e hm hacc hA
  obtain ⟨b, us, e1, c, hu, hb⟩ := g_acceptS (n := n) hL [44] (by decide) e hA
  rcases hb with ⟨rfl, rfl, rfl, hb⟩ | ⟨rfl, rfl, rfl, hb, rfl⟩
  ·refine ⟨acc, us, e1, Nat.le_refl _, Gd.stop hA hb, fun K P hk => ?_⟩
   unfold billingref24_Reader_zone_l1b
   simp [go_sem, c, billingref24_Reader_zone_k1]
   exact hk
  ·obtain ⟨t, r, rfl⟩ := ends_ne hA.2.1
   have := hm rfl
   simp at this
 | succ m ih =>
  intro acc ts e hm hacc hA
  obtain ⟨b, us, e1, c, hu, hb⟩ := g_acceptS (n := n) hL [44] (by decide) e hA
  rcases hb with ⟨rfl, rfl, rfl, hb⟩ | ⟨rfl, rfl, rfl, hb, hus⟩
  ·refine ⟨acc, us, e1, Nat.le_refl _, Gd.stop hA hb, fun K P hk => ?_⟩
   unfold billingref24_Reader_zone_l1b
   simp [go_sem, c, billingref24_Reader_zone_k1]
   exact hk
  ·obtain ⟨k0, p0, x, v0, vs, e2, c2, g0, b2⟩ := g_digits (n := n) 0 9999999999999999 (by decide) 0 hu
   have g2 : Gd L digitsT us 0 x vs e2 := (g0.map (fun x => x.1)).eq fun _ => digitsT_dg us (hu.ok hL)
   simp only [tokV] at c2
   simp at c2
   have hlen : e2 = 0 → vs.length ≤ m := fun h => by
    have h1 := g2.le h
    have h2 := hm rfl
    obtain ⟨t, r, rfl⟩ := ends_ne hA.2.1
    simp only [hus, List.tail_cons, List.length_cons] at h1 h2
    omega
   have qb : (acc.length + 1) * 16 ≤ 140737488355328 := by omega
   obtain ⟨acc', us', e3, hle, g3, run⟩ := ih (acc ++ [x]) vs e2 hlen (by simp; omega) g2.spot
   refine ⟨acc', us', e3, by simp at hle; omega, ?_, fun K P hk => ?_⟩
   ·have g2 := g2
    rw [hus] at g2
    exact Gd.more hb g2 g3
   ·have run := run K P hk
    simp only [List.map_append, List.map_cons, List.map_nil] at run
    unfold billingref24_Reader_zone_l1b
    simp [go_sem, c, c2, qb]
    simpa using run
theorem g_zone (hL : okT (L.map (·.1))) (e : Nat) (hA : At L ts) : ∃ a us e1, acall mach0 n_billingref24_Reader_zone [.ptr 0 0] (hf n L ts.length e) = some (.ret (zoneV a) (hf n L us.length e1)) ∧ Gd L zoneT ts e a us e1 := by
 obtain ⟨nm, q1, e1, c1, g1⟩ := g_name (n := n) e hA
 obtain ⟨k0, p0, x, v0, q2, e2, c2, g0, b2⟩ := g_digits (n := n) 0 9999999999999999 (by decide) e1 g1.spot
 have g2 : Gd L digitsT q1 e1 x q2 e2 := (g0.map (fun x => x.1)).eq fun _ => digitsT_dg q1 (g1.spot.ok hL)
 obtain ⟨l, q3, e3, _, g3, run⟩ := zone_x1 (n := n) hL nm q2.length [x] q2 e2 (fun _ => Nat.le_refl _) (by have := g2.spot.len; have := hA.2.2; simp only [List.length_singleton]; omega) g2.spot
 obtain ⟨q4, e4, c4, g4⟩ := g_expectS (n := n) hL [59] (by decide) e3 g3.spot
 refine ⟨⟨nm, l⟩, q4, e4, acall_fn rfl (af := a_billingref24_Reader_zone) rfl rfl ?_,
  g1.bind (f := fun n r => bindP (sepT digitsT r) fun l r => bindP (needS [59] r) fun _ r => .ok (⟨n, l⟩ : ZoneP) r)
  ((Gd.sep g2 g3).bind (f := fun l r => bindP (needS [59] r) fun _ r => .ok (⟨nm, l⟩ : ZoneP) r)
  (g4.map (fun _ => (⟨nm, l⟩ : ZoneP))))⟩
 have run := run [] (FinQ [.cell 2 (some 2)] 1 (.ret (zoneV ⟨nm, l⟩) (hf n L q4.length e4))) (by
  unfold billingref24_Reader_zone_k1b
  simp [go_sem, c4, zoneV])
 simp only [tokV] at c2
 simp at c2
 simp only [List.map_cons, List.map_nil] at run
 simp [List.replicate, go_sem, c1, c2]
 exact run
theorem band_x1 (hL : okT (L.map (·.1))) (name : Bs) : ∀ (m : Nat) (acc : List SlotP) (ts : List Tk) (e : Nat), (e = 0 → ts.length ≤ m) → acc.length + m ≤ 80000 → At L ts →
  ∃ acc' us e1, acc.length ≤ acc'.length ∧ Gd L (manyT (isSymT [44]) slotT m acc) ts e acc' us e1 ∧ ∀ (K : List It) (P : Ex → St → Prop),
  (Run mach0 (.c billingref24_Reader_band_k1b :: K) .norm ⟨(.ptr 0 0 :: .undef :: .box [.str [], .sl false 3 []] :: .box [.str name, .sl true 3 (acc'.map slotV)] :: .undef :: .undef :: .undef :: .undef :: .undef :: .undef :: .undef :: .undef :: .undef :: .undef :: .undef :: .undef :: .undef :: .undef :: .undef :: .undef :: .undef :: .undef :: .undef :: .undef :: .undef :: .undef :: .undef :: .undef :: .undef :: .undef :: .undef :: []), hf n L us.length e1⟩ P →
  Run mach0 (.c billingref24_Reader_band_l1b :: .lp billingref24_Reader_band_l1 :: .endB 0 :: .c billingref24_Reader_band_k1 :: K) .norm ⟨(.ptr 0 0 :: .undef :: .box [.str [], .sl false 3 []] :: .box [.str name, .sl true 3 (acc.map slotV)] :: .undef :: .undef :: .undef :: .undef :: .undef :: .undef :: .undef :: .undef :: .undef :: .undef :: .undef :: .undef :: .undef :: .undef :: .undef :: .undef :: .undef :: .undef :: .undef :: .undef :: .undef :: .undef :: .undef :: .undef :: .undef :: .undef :: .undef :: []), hf n L ts.length e⟩ P) := by
 intro m
 induction m with
 | zero =>
  intro acc ts e hm hacc hA
  obtain ⟨b, us, e1, c, hu, hb⟩ := g_acceptS (n := n) hL [44] (by decide) e hA
  rcases hb with ⟨rfl, rfl, rfl, hb⟩ | ⟨rfl, rfl, rfl, hb, rfl⟩
  ·refine ⟨acc, us, e1, Nat.le_refl _, Gd.stop hA hb, fun K P hk => ?_⟩
   unfold billingref24_Reader_band_l1b
   simp [go_sem, c, billingref24_Reader_band_k1]
   exact hk
  ·obtain ⟨t, r, rfl⟩ := ends_ne hA.2.1
   have := hm rfl
   simp at this
 | succ m ih =>
  intro acc ts e hm hacc hA
  obtain ⟨b, us, e1, c, hu, hb⟩ := g_acceptS (n := n) hL [44] (by decide) e hA
  rcases hb with ⟨rfl, rfl, rfl, hb⟩ | ⟨rfl, rfl, rfl, hb, hus⟩
  ·refine ⟨acc, us, e1, Nat.le_refl _, Gd.stop hA hb, fun K P hk => ?_⟩
   unfold billingref24_Reader_band_l1b
   simp [go_sem, c, billingref24_Reader_band_k1]
   exact hk
  ·obtain ⟨x, vs, e2, c2, g2⟩ := g_slot (n := n) hL 0 hu
   have hlen : e2 = 0 → vs.length ≤ m := fun h => by
    have h1 := g2.le h
    have h2 := hm rfl
    obtain ⟨t, r, rfl⟩ := ends_ne hA.2.1
    simp only [hus, List.tail_cons, List.length_cons] at h1 h2
    omega
   have qb : (acc.length + 1) * 24 ≤ 140737488355328 := by omega
   obtain ⟨acc', us', e3, hle, g3, run⟩ := ih (acc ++ [x]) vs e2 hlen (by simp; omega) g2.spot
   refine ⟨acc', us', e3, by simp at hle; omega, ?_, fun K P hk => ?_⟩
   ·have g2 := g2
    rw [hus] at g2
    exact Gd.more hb g2 g3
   ·have run := run K P hk
    simp only [List.map_append, List.map_cons, List.map_nil] at run
    unfold billingref24_Reader_band_l1b
    simp [go_sem, c, slotV, c2, qb]
    simpa [slotV] using run
theorem g_band (hL : okT (L.map (·.1))) (e : Nat) (hA : At L ts) : ∃ a us e1, acall mach0 n_billingref24_Reader_band [.ptr 0 0] (hf n L ts.length e) = some (.ret (bandW 0 a) (hf n L us.length e1)) ∧ Gd L bandT ts e a us e1 := by
 obtain ⟨nm, q1, e1, c1, g1⟩ := g_name (n := n) e hA
 obtain ⟨b, q2, e2, c2, hu, hb⟩ := g_acceptW (n := n) hL kOther (by decide) e1 g1.spot
 simp only [kOther] at c2
 rcases hb with ⟨rfl, rfl, rfl, hb⟩ | ⟨rfl, rfl, rfl, hb, hus⟩
 ·obtain ⟨x, q3, e3, c3, g3⟩ := g_slot (n := n) hL e2 hu
  obtain ⟨l, q4, e4, hl, g4, run⟩ := band_x1 (n := n) hL nm q3.length [x] q3 e3 (fun _ => Nat.le_refl _) (by have := g3.spot.len; have := hA.2.2; simp only [List.length_singleton]; omega) g3.spot
  obtain ⟨q5, e5, c5, g5⟩ := g_expectS (n := n) hL [59] (by decide) e4 g4.spot
  have hne : ¬ l = [] := by intro h; subst h; simp at hl
  refine ⟨⟨nm, l⟩, q5, e5, acall_fn rfl (af := a_billingref24_Reader_band) rfl rfl ?_,
   g1.bind (f := fun n r => bindP (slotsT r) fun l r => bindP (needS [59] r) fun _ r => .ok (⟨n, l⟩ : BandP) r)
   (((Gd.sep g3 g4).eq (p' := slotsT) fun h => by unfold slotsT; rw [hb h, if_neg (by decide)]).bind (f := fun l r => bindP (needS [59] r) fun _ r => .ok (⟨nm, l⟩ : BandP) r)
   (g5.map (fun _ => (⟨nm, l⟩ : BandP))))⟩
  have run := run [] (FinQ [.cell 2 (some 2)] 1 (.ret (bandW 0 ⟨nm, l⟩) (hf n L q5.length e5))) (by
   unfold billingref24_Reader_band_k1b
   simp [go_sem, c5, bandW, slW, hne])
  simp only [List.map_cons, List.map_nil, slotV] at run c3
  simp [List.replicate, go_sem, c1, c2, c3]
  exact run
 ·obtain ⟨q3, e3, c3, g3⟩ := g_expectS (n := n) hL [59] (by decide) 0 hu
  have g2 : Gd L slotsT q1 0 [] q2 0 := by
   rw [hus] at hu ⊢
   exact Gd.tail (p := fun t => .ok [] t) (Gd.pure hu) (by unfold slotsT; rw [hb, if_pos rfl])
  refine ⟨⟨nm, []⟩, q3, e3, acall_fn rfl (af := a_billingref24_Reader_band) rfl rfl ?_,
   g1.bind (f := fun n r => bindP (slotsT r) fun l r => bindP (needS [59] r) fun _ r => .ok (⟨n, l⟩ : BandP) r)
   (g2.bind (f := fun l r => bindP (needS [59] r) fun _ r => .ok (⟨nm, l⟩ : BandP) r)
   (g3.map (fun _ => (⟨nm, []⟩ : BandP))))⟩
  simp [List.replicate, go_sem, c1, c2, c3, bandW, slW]
theorem rate_x1 (hL : okT (L.map (·.1))) (kind setup : Int) (zone band : Bs) : ∀ (m : Nat) (acc : List StepP) (ts : List Tk) (e : Nat), (e = 0 → ts.length ≤ m) → acc.length + m ≤ 80000 → At L ts →
  ∃ acc' us e1, acc.length ≤ acc'.length ∧ Gd L (manyT (isSymT [44]) tierT m acc) ts e acc' us e1 ∧ ∀ (K : List It) (P : Ex → St → Prop),
  (Run mach0 (.c billingref24_Reader_rate_k1b :: K) .norm ⟨(.ptr 0 0 :: .undef :: .box [.int .i64 0, .str [], .str [], .int .i64 0, .sl false 3 []] :: .box [.int .i64 kind, .str zone, .str band, .int .i64 setup, .sl true 3 (acc'.map stepV)] :: .undef :: .undef :: .undef :: .undef :: .undef :: .undef :: .undef :: .undef :: .undef :: .undef :: .undef :: .undef :: .undef :: .undef :: .undef :: .undef :: .undef :: .undef :: .undef :: .undef :: .undef :: .undef :: .undef :: .undef :: .undef :: .undef :: .undef :: .undef :: .undef :: .undef :: .undef :: .undef :: .undef :: .undef :: .undef :: .undef :: .undef :: .undef :: .undef :: []), hf n L us.length e1⟩ P →
  Run mach0 (.c billingref24_Reader_rate_l1b :: .lp billingref24_Reader_rate_l1 :: .endB 0 :: .c billingref24_Reader_rate_k1 :: K) .norm ⟨(.ptr 0 0 :: .undef :: .box [.int .i64 0, .str [], .str [], .int .i64 0, .sl false 3 []] :: .box [.int .i64 kind, .str zone, .str band, .int .i64 setup, .sl true 3 (acc.map stepV)] :: .undef :: .undef :: .undef :: .undef :: .undef :: .undef :: .undef :: .undef :: .undef :: .undef :: .undef :: .undef :: .undef :: .undef :: .undef :: .undef :: .undef :: .undef :: .undef :: .undef :: .undef :: .undef :: .undef :: .undef :: .undef :: .undef :: .undef :: .undef :: .undef :: .undef :: .undef :: .undef :: .undef :: .undef :: .undef :: .undef :: .undef :: .undef :: .undef :: []), hf n L ts.length e⟩ P) := by
 intro m
 induction m with
 | zero =>
  intro acc ts e hm hacc hA
  obtain ⟨b, us, e1, c, hu, hb⟩ := g_acceptS (n := n) hL [44] (by decide) e hA
  rcases hb with ⟨rfl, rfl, rfl, hb⟩ | ⟨rfl, rfl, rfl, hb, rfl⟩
  ·refine ⟨acc, us, e1, Nat.le_refl _, Gd.stop hA hb, fun K P hk => ?_⟩
   unfold billingref24_Reader_rate_l1b
   simp [go_sem, c, billingref24_Reader_rate_k1]
   exact hk
  ·obtain ⟨t, r, rfl⟩ := ends_ne hA.2.1
   have := hm rfl
   simp at this
 | succ m ih =>
  intro acc ts e hm hacc hA
  obtain ⟨b, us, e1, c, hu, hb⟩ := g_acceptS (n := n) hL [44] (by decide) e hA
  rcases hb with ⟨rfl, rfl, rfl, hb⟩ | ⟨rfl, rfl, rfl, hb, hus⟩
  ·refine ⟨acc, us, e1, Nat.le_refl _, Gd.stop hA hb, fun K P hk => ?_⟩
   unfold billingref24_Reader_rate_l1b
   simp [go_sem, c, billingref24_Reader_rate_k1]
   exact hk
  ·obtain ⟨x, vs, e2, c2, g2⟩ := g_step (n := n) hL 0 hu
   have hlen : e2 = 0 → vs.length ≤ m := fun h => by
    have h1 := g2.le h
    have h2 := hm rfl
    obtain ⟨t, r, rfl⟩ := ends_ne hA.2.1
    simp only [hus, List.tail_cons, List.length_cons] at h1 h2
    omega
   have qb : (acc.length + 1) * 24 ≤ 140737488355328 := by omega
   obtain ⟨acc', us', e3, hle, g3, run⟩ := ih (acc ++ [x]) vs e2 hlen (by simp; omega) g2.spot
   refine ⟨acc', us', e3, by simp at hle; omega, ?_, fun K P hk => ?_⟩
   ·have g2 := g2
    rw [hus] at g2
    exact Gd.more hb g2 g3
   ·have run := run K P hk
    simp only [List.map_append, List.map_cons, List.map_nil] at run
    unfold billingref24_Reader_rate_l1b
    simp [go_sem, c, stepV, c2, qb]
    simpa [stepV] using run
theorem g_rate (hL : okT (L.map (·.1))) (e : Nat) (hA : At L ts) : ∃ a us e1, acall mach0 n_billingref24_Reader_rate [.ptr 0 0] (hf n L ts.length e) = some (.ret (rateV a) (hf n L us.length e1)) ∧ Gd L rateT ts e a us e1 := by
 obtain ⟨k, q1, e1, c1, g1, k0, k4, _⟩ := g_word (n := n) kindWs (by decide) (by decide) 0 e hA
 have k5 : k ≤ 4 := by
  have e4 : kindWs.length = 4 := rfl
  rw [e4] at k4; omega
 have wk : IntKind.wrap .i64 (1 + k) = k + 1 := by rw [wrap_i64 (by omega)]; omega
 obtain ⟨q2, e2, c2, g2⟩ := g_expectW (n := n) hL kTo (by decide) e1 g1.spot
 obtain ⟨z, q3, e3, c3, g3⟩ := g_either (n := n) hL e2 g2.spot
 obtain ⟨q4, e4, c4, g4⟩ := g_expectW (n := n) hL kIn (by decide) e3 g3.spot
 obtain ⟨b, q5, e5, c5, g5⟩ := g_either (n := n) hL e4 g4.spot
 obtain ⟨d, q6, e6, c6, h6⟩ := g_opt (n := n) hL kSetup (by decide) e5 g5.spot
 simp only [kTo, kIn, kSetup] at c2 c4 c6
 have fin : ∀ s q7 e7, Gd L (optN kSetup) q5 e5 s q7 e7 → ∃ l us e1, Gd L rateT ts e ⟨k + 1, z, b, s, l⟩ us e1 ∧ ∃ (x : StepP) (q8 : List Tk) (e8 : Nat), acall mach0 n_billingref24_Reader_step [.ptr 0 0] (hf n L q7.length e7) = some (.ret (stepV x) (hf n L q8.length e8)) ∧
   Run mach0 (.c billingref24_Reader_rate_l1b :: .lp billingref24_Reader_rate_l1 :: .endB 0 :: .c billingref24_Reader_rate_k1 :: []) .norm ⟨(.ptr 0 0 :: .undef :: .box [.int .i64 0, .str [], .str [], .int .i64 0, .sl false 3 []] :: .box [.int .i64 (k + 1), .str z, .str b, .int .i64 s, .sl true 3 [stepV x]] :: .undef :: .undef :: .undef :: .undef :: .undef :: .undef :: .undef :: .undef :: .undef :: .undef :: .undef :: .undef :: .undef :: .undef :: .undef :: .undef :: .undef :: .undef :: .undef :: .undef :: .undef :: .undef :: .undef :: .undef :: .undef :: .undef :: .undef :: .undef :: .undef :: .undef :: .undef :: .undef :: .undef :: .undef :: .undef :: .undef :: .undef :: .undef :: .undef :: []), hf n L q8.length e8⟩ (FinQ [.cell 2 (some 5)] 1 (.ret (rateV ⟨k + 1, z, b, s, l⟩) (hf n L us.length e1))) := by
  intro s q7 e7 g7
  obtain ⟨x, q8, e8, c8, g8⟩ := g_step (n := n) hL e7 g7.spot
  obtain ⟨l, q9, e9, _, g9, run⟩ := rate_x1 (n := n) hL (k + 1) s z b q8.length [x] q8 e8 (fun _ => Nat.le_refl _) (by have := g8.spot.len; have := hA.2.2; simp only [List.length_singleton]; omega) g8.spot
  obtain ⟨qa, ea, ca, ga⟩ := g_expectS (n := n) hL [59] (by decide) e9 g9.spot
  have run := run [] (FinQ [.cell 2 (some 5)] 1 (.ret (rateV ⟨k + 1, z, b, s, l⟩) (hf n L qa.length ea))) (by
   unfold billingref24_Reader_rate_k1b
   simp [go_sem, ca, rateV])
  exact ⟨l, qa, ea,
   g1.bind (f := fun k r => bindP (needW kTo r) fun _ r => bindP (nameOrAny r) fun z r => bindP (needW kIn r) fun _ r => bindP (nameOrAny r) fun b r => bindP (optN kSetup r) fun s r => bindP (sepT tierT r) fun l r => bindP (needS [59] r) fun _ r => .ok (⟨k + 1, z, b, s, l⟩ : RateP) r)
   (g2.bind (f := fun _ r => bindP (nameOrAny r) fun z r => bindP (needW kIn r) fun _ r => bindP (nameOrAny r) fun b r => bindP (optN kSetup r) fun s r => bindP (sepT tierT r) fun l r => bindP (needS [59] r) fun _ r => .ok (⟨k + 1, z, b, s, l⟩ : RateP) r)
   (g3.bind (f := fun z r => bindP (needW kIn r) fun _ r => bindP (nameOrAny r) fun b r => bindP (optN kSetup r) fun s r => bindP (sepT tierT r) fun l r => bindP (needS [59] r) fun _ r => .ok (⟨k + 1, z, b, s, l⟩ : RateP) r)
   (g4.bind (f := fun _ r => bindP (nameOrAny r) fun b r => bindP (optN kSetup r) fun s r => bindP (sepT tierT r) fun l r => bindP (needS [59] r) fun _ r => .ok (⟨k + 1, z, b, s, l⟩ : RateP) r)
   (g5.bind (f := fun b r => bindP (optN kSetup r) fun s r => bindP (sepT tierT r) fun l r => bindP (needS [59] r) fun _ r => .ok (⟨k + 1, z, b, s, l⟩ : RateP) r)
   (g7.bind (f := fun s r => bindP (sepT tierT r) fun l r => bindP (needS [59] r) fun _ r => .ok (⟨k + 1, z, b, s, l⟩ : RateP) r)
   ((Gd.sep g8 g9).bind (f := fun l r => bindP (needS [59] r) fun _ r => .ok (⟨k + 1, z, b, s, l⟩ : RateP) r)
   (ga.map (fun _ => (⟨k + 1, z, b, s, l⟩ : RateP))))))))), x, q8, e8, c8, run⟩
 rcases h6 with ⟨rfl, g⟩ | ⟨rfl, s, q7, e7, c7, g⟩
 ·obtain ⟨l, us, e1, G, x, q8, e8, c8, run⟩ := fin 0 q6 e6 g
  refine ⟨_, us, e1, acall_fn rfl (af := a_billingref24_Reader_rate) rfl rfl ?_, G⟩
  simp only [stepV] at c8 run
  simp [List.replicate, go_sem, d_Kinds, c1, wk, c2, c3, c4, c5, c6, c8]
  exact run
 ·obtain ⟨l, us, e1, G, x, q8, e8, c8, run⟩ := fin s q7 e7 g
  refine ⟨_, us, e1, acall_fn rfl (af := a_billingref24_Reader_rate) rfl rfl ?_, G⟩
  simp only [stepV] at c8 run
  simp [List.replicate, go_sem, d_Kinds, c1, wk, c2, c3, c4, c5, c6, c7, c8]
  exact run
theorem g_discount (hL : okT (L.map (·.1))) (e : Nat) (hA : At L ts) : ∃ a us e1, acall mach0 n_billingref24_Reader_discount [.ptr 0 0] (hf n L ts.length e) = some (.ret (discV a) (hf n L us.length e1)) ∧ Gd L discT ts e a us e1 := by
 obtain ⟨nm, q1, e1, c1, g1⟩ := g_name (n := n) e hA
 obtain ⟨p, q2, e2, c2, g2⟩ := g_number (n := n) hL e1 g1.spot
 obtain ⟨q3, e3, c3, g3⟩ := g_expectW (n := n) hL kPoints (by decide) e2 g2.spot
 obtain ⟨q4, e4, c4, g4⟩ := g_expectW (n := n) hL kWhen (by decide) e3 g3.spot
 obtain ⟨x, q5, e5, c5, g5⟩ := g_expr (n := n) hL e4 g4.spot
 obtain ⟨q6, e6, c6, g6⟩ := g_expectS (n := n) hL [59] (by decide) e5 g5.spot
 refine ⟨⟨nm, p, x⟩, q6, e6, acall_fn rfl (af := a_billingref24_Reader_discount) rfl rfl ?_,
  g1.bind (f := fun n r => bindP (numberT r) fun p r => bindP (needW kPoints r) fun _ r => bindP (needW kWhen r) fun _ r => bindP (exprT r) fun e r => bindP (needS [59] r) fun _ r => .ok (⟨n, p, e⟩ : DiscP) r)
  (g2.bind (f := fun p r => bindP (needW kPoints r) fun _ r => bindP (needW kWhen r) fun _ r => bindP (exprT r) fun e r => bindP (needS [59] r) fun _ r => .ok (⟨nm, p, e⟩ : DiscP) r)
  (g3.bind (f := fun _ r => bindP (needW kWhen r) fun _ r => bindP (exprT r) fun e r => bindP (needS [59] r) fun _ r => .ok (⟨nm, p, e⟩ : DiscP) r)
  (g4.bind (f := fun _ r => bindP (exprT r) fun e r => bindP (needS [59] r) fun _ r => .ok (⟨nm, p, e⟩ : DiscP) r)
  (g5.bind (f := fun e r => bindP (needS [59] r) fun _ r => .ok (⟨nm, p, e⟩ : DiscP) r)
  (g6.map (fun _ => (⟨nm, p, x⟩ : DiscP)))))))⟩
 obtain ⟨op, num, text, args⟩ := x
 simp only [kPoints, kWhen, exprV] at c3 c4 c5
 simp [List.replicate, go_sem, c1, c2, c3, c4, c5, c6, discV, exprC]
end
end Go.Am
namespace Go.Am
open Go Go.Pu
structure Wd where
 z : Nat
 b : Nat
 r : Nat
 d : Nat
structure Wd.Ok (W : Wd) (t : TariffP) : Prop where
 z : t.zones ≠ [] → W.z = 2
 b : t.bands ≠ [] → W.b = 2
 r : t.rates ≠ [] → W.r = 5
 d : t.discs ≠ [] → W.d = 6
def tariffX (W : Wd) (z : Nat) (t : TariffP) : V := .agg [.str t.name, .int .i64 t.start, .bool t.split, .sl false W.z (t.zones.map zoneV), .sl false W.b (t.bands.map (bandW z)), .sl false W.r (t.rates.map rateV), .sl false W.d (t.discs.map discV)]
theorem SameRatesX_l (w : Nat) (l : List RateP) (hw : l ≠ [] → w = 5) (hn : l.length ≤ 1000000) (H : ∀ x ∈ l, x.steps.length ≤ 1000000) : ∀ (l2 l1 : List RateP), l1 ++ l2 = l →
  Run mach0 (.c billingref24_sameRates_l1b :: .lp billingref24_sameRates_l1 :: .endB 0 :: .c billingref24_sameRates_k1 :: []) .norm
   ⟨(.sl false 5 (l.map rateV) :: .sl false w (l.map rateV) :: .undef :: .undef :: .undef :: .int .i64 l1.length :: .undef :: .undef :: .undef :: .undef :: .undef :: .undef :: .undef :: .undef :: .undef :: .undef :: .undef :: .undef :: .undef :: .undef :: .undef :: .undef :: .undef :: .undef :: .undef :: .undef :: .undef :: []), []⟩ (FinQ [.tmp 4] 0 (.ret (.bool true) []))
 | [], l1, he => by
  have q : ¬ ((l1.length : Int) < l.length) := by rw [← he]; simp
  unfold billingref24_sameRates_l1b
  simp [go_sem, q, billingref24_sameRates_k1]
  simp [go_sem, billingref24_sameRates_k1b]
 | a :: l2, l1, he => by
  obtain rfl := hw (by rw [← he]; simp)
  have ih := SameRatesX_l 5 l hw hn H l2 (l1 ++ [a]) (by rw [← he]; simp)
  have len : l.length = l1.length + (l2.length + 1) := by rw [← he]; simp
  have q : (l1.length : Int) < l.length := by omega
  have ww : IntKind.wrap .i64 ((l1.length : Int) + 1) = l1.length + 1 := wrap_i64 (by omega)
  have hnth : nth (l.map rateV) l1.length = rateV a := by rw [← he]; exact nth_mapm _ _ _ _
  have e := e_SameRate a (H a (by rw [← he]; simp))
  simp only [List.length_append, List.length_cons, List.length_nil, Nat.zero_add] at ih
  simp only [rateV] at hnth e
  unfold billingref24_sameRates_l1b
  simp [go_sem, q, hnth, e, ww]
  simpa using ih
theorem x_sameRates (w : Nat) (l : List RateP) (hw : l ≠ [] → w = 5) (hn : l.length ≤ 1000000) (H : ∀ x ∈ l, x.steps.length ≤ 1000000) : acall mach0 n_billingref24_sameRates [.sl false 5 (l.map rateV), .sl false w (l.map rateV)] [] = some (.ret (.bool true) []) := by
 have run := SameRatesX_l w l hw hn H l [] rfl
 refine acall_fn rfl (af := a_billingref24_sameRates) rfl rfl ?_
 simp [List.replicate, go_sem]
 simpa using run
theorem SameBandsX_l (w z1 z2 : Nat) (l : List BandP) (hw : l ≠ [] → w = 2) (hn : l.length ≤ 1000000) (H : ∀ b ∈ l, b.slots.length ≤ 1000000) : ∀ (l2 l1 : List BandP), l1 ++ l2 = l →
  Run mach0 (.c billingref24_sameBands_l2b :: .lp billingref24_sameBands_l2 :: .endB 0 :: .c billingref24_sameBands_k2 :: []) .norm
   ⟨(.sl false 2 (l.map (bandW z1)) :: .sl false w (l.map (bandW z2)) :: .undef :: .undef :: .undef :: .int .i64 l1.length :: .undef :: .undef :: .undef :: .undef :: .undef :: .undef :: .undef :: .undef :: .undef :: .undef :: .undef :: .undef :: .undef :: .undef :: .undef :: .undef :: .undef :: .undef :: .undef :: .undef :: .undef :: .undef :: .undef :: .undef :: .undef :: .undef :: .undef :: .undef :: .undef :: .undef :: .undef :: .undef :: .undef :: .undef :: .undef :: .undef :: .undef :: .undef :: .undef :: .undef :: .undef :: .undef :: .undef :: .undef :: .undef :: .undef :: .undef :: .undef :: .undef :: .undef :: .undef :: .undef :: .undef :: .undef :: .undef :: .undef :: .undef :: .undef :: .undef :: .undef :: .undef :: .undef :: .undef :: .undef :: .undef :: []), []⟩ (FinQ [.tmp 4] 0 (.ret (.bool true) []))
 | [], l1, he => by
  have q : ¬ ((l1.length : Int) < l.length) := by rw [← he]; simp
  unfold billingref24_sameBands_l2b
  simp [go_sem, q, billingref24_sameBands_k2]
  simp [go_sem, billingref24_sameBands_k2b]
 | a :: l2, l1, he => by
  obtain rfl := hw (by rw [← he]; simp)
  have ih := SameBandsX_l 2 z1 z2 l hw hn H l2 (l1 ++ [a]) (by rw [← he]; simp)
  have len : l.length = l1.length + (l2.length + 1) := by rw [← he]; simp
  have q : (l1.length : Int) < l.length := by omega
  have q' : l1.length < l.length := by omega
  have ww : IntKind.wrap .i64 ((l1.length : Int) + 1) = l1.length + 1 := wrap_i64 (by omega)
  have h1 : nth (l.map (bandW z1)) l1.length = bandW z1 a := by rw [← he]; exact nth_mapm _ _ _ _
  have h2 : nth (l.map (bandW z2)) l1.length = bandW z2 a := by rw [← he]; exact nth_mapm _ _ _ _
  have sl := SameSlots_l z1 z2 (l.map (bandW z1)) (l.map (bandW z2)) a l1.length (.ret (.bool true) []) (.endB 0 :: .c billingref24_sameBands_k2 :: []) (H a (by rw [← he]; simp)) (by simpa using q') (by simpa using q') h1 h2 (by omega) (by
   unfold billingref24_sameBands_k1b
   simp only [List.length_append, List.length_cons, List.length_nil, Nat.zero_add] at ih
   simp [go_sem, ww]
   simpa using ih) a.slots [] rfl
  simp only [bandW, slW] at h1 h2
  unfold billingref24_sameBands_l2b
  simp [go_sem, q, q', h1, h2]
  simpa using sl
theorem x_sameBands (w z1 z2 : Nat) (l : List BandP) (hw : l ≠ [] → w = 2) (hn : l.length ≤ 1000000) (H : ∀ b ∈ l, b.slots.length ≤ 1000000) : acall mach0 n_billingref24_sameBands [.sl false 2 (l.map (bandW z1)), .sl false w (l.map (bandW z2))] [] = some (.ret (.bool true) []) := by
 have run := SameBandsX_l w z1 z2 l hw hn H l [] rfl
 refine acall_fn rfl (af := a_billingref24_sameBands) rfl rfl ?_
 simp [List.replicate, go_sem]
 simpa using run
theorem SameDiscsX_l (z1 z2 : Nat) (W : Wd) (t : TariffP) (hW : W.Ok t) (hN : TNar t) (k : List It) (r : Rt)
    (hk : Run mach0 (.c billingref24_SameTariff_k1b :: k) .norm ⟨(.undef :: .undef :: .rptr (tariffW z1 t).cells :: .rptr (tariffX W z2 t).cells :: .undef :: .undef :: .undef :: .undef :: .undef :: .undef :: .undef :: .undef :: .undef :: .undef :: .undef :: .undef :: .undef :: .undef :: .undef :: .undef :: .undef :: .undef :: .undef :: .undef :: .undef :: .undef :: .undef :: .undef :: .undef :: .undef :: .undef :: .undef :: .undef :: .undef :: .undef :: .undef :: .undef :: .undef :: .undef :: .undef :: .undef :: .undef :: .undef :: .undef :: .undef :: .undef :: .undef :: .undef :: .undef :: .undef :: .undef :: .undef :: .undef :: .undef :: .undef :: .undef :: .undef :: .undef :: .undef :: .undef :: .undef :: .undef :: .undef :: .undef :: .undef :: .undef :: .undef :: .undef :: .undef :: .undef :: .undef :: .undef :: .undef :: .undef :: .undef :: .undef :: .undef :: .undef :: .undef :: .undef :: .undef :: .undef :: .undef :: .undef :: .undef :: .undef :: .undef :: .undef :: .undef :: .undef :: .undef :: .undef :: .undef :: .undef :: .undef :: .undef :: .undef :: .undef :: .undef :: .undef :: .undef :: .undef :: .undef :: .undef :: .undef :: .undef :: .undef :: .undef :: .undef :: .undef :: .undef :: .undef :: .undef :: .undef :: .undef :: .undef :: .undef :: .undef :: .undef :: .undef :: .undef :: .undef :: .undef :: .undef :: .undef :: .undef :: .undef :: .undef :: .undef :: .undef :: .undef :: .undef :: .undef :: .undef :: .undef :: .undef :: .undef :: .undef :: .undef :: .undef :: .undef :: .undef :: .undef :: []), []⟩ (FinQ [.tmp 4] 0 r)) : ∀ (l2 l1 : List DiscP), l1 ++ l2 = t.discs →
    Run mach0 (.c billingref24_SameTariff_l2b :: .lp billingref24_SameTariff_l2 :: .endB 2 :: .c billingref24_SameTariff_k1 :: k) .norm
      ⟨(.undef :: .undef :: .rptr (tariffW z1 t).cells :: .rptr (tariffX W z2 t).cells :: .undef :: .undef :: .int .i64 l1.length :: .undef :: .undef :: .undef :: .undef :: .undef :: .undef :: .undef :: .undef :: .undef :: .undef :: .undef :: .undef :: .undef :: .undef :: .undef :: .undef :: .undef :: .undef :: .undef :: .undef :: .undef :: .undef :: .undef :: .undef :: .undef :: .undef :: .undef :: .undef :: .undef :: .undef :: .undef :: .undef :: .undef :: .undef :: .undef :: .undef :: .undef :: .undef :: .undef :: .undef :: .undef :: .undef :: .undef :: .undef :: .undef :: .undef :: .undef :: .undef :: .undef :: .undef :: .undef :: .undef :: .undef :: .undef :: .undef :: .undef :: .undef :: .undef :: .undef :: .undef :: .undef :: .undef :: .undef :: .undef :: .undef :: .undef :: .undef :: .undef :: .undef :: .undef :: .undef :: .undef :: .undef :: .undef :: .undef :: .undef :: .undef :: .undef :: .undef :: .undef :: .undef :: .undef :: .undef :: .undef :: .undef :: .undef :: .undef :: .undef :: .undef :: .undef :: .undef :: .undef :: .undef :: .undef :: .undef :: .undef :: .undef :: .undef :: .undef :: .undef :: .undef :: .undef :: .undef :: .undef :: .undef :: .undef :: .undef :: .undef :: .undef :: .undef :: .undef :: .undef :: .undef :: .undef :: .undef :: .undef :: .undef :: .undef :: .undef :: .undef :: .undef :: .undef :: .undef :: .undef :: .undef :: .undef :: .undef :: .undef :: .undef :: .undef :: .undef :: .undef :: .undef :: .undef :: .undef :: .undef :: []), []⟩ (FinQ [.tmp 4] 0 r)
  | [], l1, he => by
    have q : ¬ ((l1.length : Int) < t.discs.length) := by rw [← he]; simp
    simp only [tariffW, tariffX, V.cells] at hk ⊢
    unfold billingref24_SameTariff_l2b
    simp [go_sem, q, billingref24_SameTariff_k1]
    exact hk
  | a :: l2, l1, he => by
    have ih := SameDiscsX_l z1 z2 W t hW hN k r hk l2 (l1 ++ [a]) (by rw [← he]; simp)
    have hwd : W.d = 6 := hW.d (by rw [← he]; simp)
    have hn := hN.discs
    have len : t.discs.length = l1.length + (l2.length + 1) := by rw [← he]; simp
    have q : (l1.length : Int) < t.discs.length := by omega
    have q' : l1.length < t.discs.length := by omega
    have w : IntKind.wrap .i64 ((l1.length : Int) + 1) = l1.length + 1 := wrap_i64 (by omega)
    have hnth : nth (t.discs.map discV) l1.length = discV a := by rw [← he]; exact nth_mapm _ _ _ _
    have e := e_SameExpr a.cond (hN.cond a (by rw [← he]; simp))
    obtain ⟨name, points, cond⟩ := a
    obtain ⟨op2, num2, text2, args2⟩ := cond
    simp only [List.length_append, List.length_cons, List.length_nil, Nat.zero_add, tariffW, tariffX, V.cells] at ih ⊢
    simp only [discV, exprC, exprV, List.cons_append, List.nil_append] at hnth e
    unfold billingref24_SameTariff_l2b
    simp [go_sem, q, q', hnth, e, w, hwd]
    simpa [hwd] using ih
theorem SameZonesX_l (z1 z2 : Nat) (W : Wd) (t : TariffP) (hW : W.Ok t) (hN : TNar t) (k : List It) (r : Rt)
    (hk : Run mach0 (.c billingref24_SameTariff_k2b :: k) .norm ⟨(.undef :: .undef :: .rptr (tariffW z1 t).cells :: .rptr (tariffX W z2 t).cells :: .undef :: .undef :: .undef :: .undef :: .undef :: .undef :: .undef :: .undef :: .undef :: .undef :: .undef :: .undef :: .undef :: .undef :: .undef :: .undef :: .undef :: .undef :: .undef :: .undef :: .undef :: .undef :: .undef :: .undef :: .undef :: .undef :: .undef :: .undef :: .undef :: .undef :: .undef :: .undef :: .undef :: .undef :: .undef :: .undef :: .undef :: .undef :: .undef :: .undef :: .undef :: .undef :: .undef :: .undef :: .undef :: .undef :: .undef :: .undef :: .undef :: .undef :: .undef :: .undef :: .undef :: .undef :: .undef :: .undef :: .undef :: .undef :: .undef :: .undef :: .undef :: .undef :: .undef :: .undef :: .undef :: .undef :: .undef :: .undef :: .undef :: .undef :: .undef :: .undef :: .undef :: .undef :: .undef :: .undef :: .undef :: .undef :: .undef :: .undef :: .undef :: .undef :: .undef :: .undef :: .undef :: .undef :: .undef :: .undef :: .undef :: .undef :: .undef :: .undef :: .undef :: .undef :: .undef :: .undef :: .undef :: .undef :: .undef :: .undef :: .undef :: .undef :: .undef :: .undef :: .undef :: .undef :: .undef :: .undef :: .undef :: .undef :: .undef :: .undef :: .undef :: .undef :: .undef :: .undef :: .undef :: .undef :: .undef :: .undef :: .undef :: .undef :: .undef :: .undef :: .undef :: .undef :: .undef :: .undef :: .undef :: .undef :: .undef :: .undef :: .undef :: .undef :: .undef :: .undef :: .undef :: .undef :: .undef :: []), []⟩ (FinQ [.tmp 4] 0 r)) : ∀ (l2 l1 : List ZoneP), l1 ++ l2 = t.zones →
    Run mach0 (.c billingref24_SameTariff_l1b :: .lp billingref24_SameTariff_l1 :: .endB 0 :: .c billingref24_SameTariff_k2 :: k) .norm
      ⟨(.undef :: .undef :: .rptr (tariffW z1 t).cells :: .rptr (tariffX W z2 t).cells :: .undef :: .int .i64 l1.length :: .undef :: .undef :: .undef :: .undef :: .undef :: .undef :: .undef :: .undef :: .undef :: .undef :: .undef :: .undef :: .undef :: .undef :: .undef :: .undef :: .undef :: .undef :: .undef :: .undef :: .undef :: .undef :: .undef :: .undef :: .undef :: .undef :: .undef :: .undef :: .undef :: .undef :: .undef :: .undef :: .undef :: .undef :: .undef :: .undef :: .undef :: .undef :: .undef :: .undef :: .undef :: .undef :: .undef :: .undef :: .undef :: .undef :: .undef :: .undef :: .undef :: .undef :: .undef :: .undef :: .undef :: .undef :: .undef :: .undef :: .undef :: .undef :: .undef :: .undef :: .undef :: .undef :: .undef :: .undef :: .undef :: .undef :: .undef :: .undef :: .undef :: .undef :: .undef :: .undef :: .undef :: .undef :: .undef :: .undef :: .undef :: .undef :: .undef :: .undef :: .undef :: .undef :: .undef :: .undef :: .undef :: .undef :: .undef :: .undef :: .undef :: .undef :: .undef :: .undef :: .undef :: .undef :: .undef :: .undef :: .undef :: .undef :: .undef :: .undef :: .undef :: .undef :: .undef :: .undef :: .undef :: .undef :: .undef :: .undef :: .undef :: .undef :: .undef :: .undef :: .undef :: .undef :: .undef :: .undef :: .undef :: .undef :: .undef :: .undef :: .undef :: .undef :: .undef :: .undef :: .undef :: .undef :: .undef :: .undef :: .undef :: .undef :: .undef :: .undef :: .undef :: .undef :: .undef :: .undef :: .undef :: []), []⟩ (FinQ [.tmp 4] 0 r)
  | [], l1, he => by
    have q : ¬ ((l1.length : Int) < t.zones.length) := by rw [← he]; simp
    simp only [tariffW, tariffX, V.cells] at hk ⊢
    unfold billingref24_SameTariff_l1b
    simp [go_sem, q, billingref24_SameTariff_k2]
    exact hk
  | a :: l2, l1, he => by
    have ih := SameZonesX_l z1 z2 W t hW hN k r hk l2 (l1 ++ [a]) (by rw [← he]; simp)
    have hwd : W.z = 2 := hW.z (by rw [← he]; simp)
    have hn := hN.zones
    have len : t.zones.length = l1.length + (l2.length + 1) := by rw [← he]; simp
    have q : (l1.length : Int) < t.zones.length := by omega
    have q' : l1.length < t.zones.length := by omega
    have w : IntKind.wrap .i64 ((l1.length : Int) + 1) = l1.length + 1 := wrap_i64 (by omega)
    have hnth : nth (t.zones.map zoneV) l1.length = zoneV a := by rw [← he]; exact nth_mapm _ _ _ _
    have e := e_SameTexts a.pref (hN.pref a (by rw [← he]; simp))
    simp only [List.length_append, List.length_cons, List.length_nil, Nat.zero_add, tariffW, tariffX, V.cells] at ih ⊢
    simp only [zoneV] at hnth
    unfold billingref24_SameTariff_l1b
    simp [go_sem, q, q', hnth, e, w, hwd]
    simpa [hwd] using ih
theorem x_SameTariff (z1 z2 : Nat) (W : Wd) (t : TariffP) (hW : W.Ok t) (hN : TNar t) : acall mach0 n_billingref24_SameTariff [tariffW z1 t, tariffX W z2 t] [] = some (.ret (.bool true) []) := by
 have e1 := x_sameBands W.b z1 z2 t.bands hW.b hN.bands hN.slots
 have e2 := x_sameRates W.r t.rates hW.r hN.rates hN.steps
 have last : Run mach0 (.c billingref24_SameTariff_k1b :: []) .norm ⟨(.undef :: .undef :: .rptr (tariffW z1 t).cells :: .rptr (tariffX W z2 t).cells :: .undef :: .undef :: .undef :: .undef :: .undef :: .undef :: .undef :: .undef :: .undef :: .undef :: .undef :: .undef :: .undef :: .undef :: .undef :: .undef :: .undef :: .undef :: .undef :: .undef :: .undef :: .undef :: .undef :: .undef :: .undef :: .undef :: .undef :: .undef :: .undef :: .undef :: .undef :: .undef :: .undef :: .undef :: .undef :: .undef :: .undef :: .undef :: .undef :: .undef :: .undef :: .undef :: .undef :: .undef :: .undef :: .undef :: .undef :: .undef :: .undef :: .undef :: .undef :: .undef :: .undef :: .undef :: .undef :: .undef :: .undef :: .undef :: .undef :: .undef :: .undef :: .undef :: .undef :: .undef :: .undef :: .undef :: .undef :: .undef :: .undef :: .undef :: .undef :: .undef :: .undef :: .undef :: .undef :: .undef :: .undef :: .undef :: .undef :: .undef :: .undef :: .undef :: .undef :: .undef :: .undef :: .undef :: .undef :: .undef :: .undef :: .undef :: .undef :: .undef :: .undef :: .undef :: .undef :: .undef :: .undef :: .undef :: .undef :: .undef :: .undef :: .undef :: .undef :: .undef :: .undef :: .undef :: .undef :: .undef :: .undef :: .undef :: .undef :: .undef :: .undef :: .undef :: .undef :: .undef :: .undef :: .undef :: .undef :: .undef :: .undef :: .undef :: .undef :: .undef :: .undef :: .undef :: .undef :: .undef :: .undef :: .undef :: .undef :: .undef :: .undef :: .undef :: .undef :: .undef :: .undef :: .undef :: .undef :: []), []⟩ (FinQ [.tmp 4] 0 (.ret (.bool true) [])) := by
  simp only [tariffW, tariffX, V.cells]
  unfold billingref24_SameTariff_k1b
  simp [go_sem, e1, e2]
 have d := SameDiscsX_l z1 z2 W t hW hN [] _ last t.discs [] rfl
 have z := SameZonesX_l z1 z2 W t hW hN [] _ (by
  simp only [tariffW, tariffX, V.cells] at d ⊢
  unfold billingref24_SameTariff_k2b
  simp [go_sem]
  simpa using d) t.zones [] rfl
 refine acall_fn rfl (af := a_billingref24_SameTariff) rfl rfl ?_
 simp only [tariffW, tariffX, V.cells] at z ⊢
 simp [List.replicate, go_sem]
 simpa using z
end Go.Am
namespace Go.Am
open Go Go.Pu
def lsV {α : Type} (w : Nat) (f : α → V) (l : List α) : V := match l with
 | [] => .sl false 0 []
 | a :: l => .sl true w (f a :: l.map f)
def lsF {α : Type} (w : Nat) (f : α → V) (l : List α) : V := .sl false (if l = [] then 0 else w) (l.map f)
theorem lsV_nil {α : Type} (w : Nat) (f : α → V) : lsV w f [] = .sl false 0 [] := rfl
theorem lsV_cons {α : Type} (w : Nat) (f : α → V) (a : α) (l : List α) : lsV w f (a :: l) = .sl true w (f a :: l.map f) := rfl
section
variable {n : Nat} {L : List (Tk × Nat)} {t : Tk} {ts us vs : List Tk} {e e1 : Nat}
theorem tariff_x1 (hL : okT (L.map (·.1))) (name : Bs) (start : Int) (split : Bool) : ∀ (m : Nat) (acc : List ZoneP) (ts : List Tk) (e : Nat), (e = 0 → ts.length ≤ m) → acc.length + m ≤ 80000 → At L ts →
  ∃ acc' us e1, acc.length ≤ acc'.length ∧ Gd L (manyT (isWord kZone) zoneT m acc) ts e acc' us e1 ∧ ∀ (K : List It) (P : Ex → St → Prop),
  (Run mach0 (.c billingref24_Reader_tariff_k4b :: K) .norm ⟨(.ptr 0 0 :: .undef :: .box [.str [], .int .i64 0, .bool false, .sl false 2 [], .sl false 2 [], .sl false 5 [], .sl false 6 []] :: .box [.str name, .int .i64 start, .bool split, lsV 2 zoneV acc', .sl false 0 [], .sl false 0 [], .sl false 0 []] :: .undef :: .undef :: .undef :: .undef :: .undef :: .undef :: .undef :: .undef :: .undef :: .undef :: .undef :: .undef :: .undef :: .undef :: .undef :: .undef :: .undef :: .undef :: .undef :: .undef :: .undef :: .undef :: .undef :: .undef :: .undef :: .undef :: .undef :: .undef :: .undef :: .undef :: .undef :: .undef :: .undef :: .undef :: .undef :: .undef :: .undef :: .undef :: .undef :: .undef :: .undef :: .undef :: .undef :: .undef :: .undef :: .undef :: .undef :: .undef :: .undef :: .undef :: .undef :: .undef :: .undef :: .undef :: .undef :: .undef :: .undef :: .undef :: .undef :: []), hf n L us.length e1⟩ P →
  Run mach0 (.c billingref24_Reader_tariff_l1b :: .lp billingref24_Reader_tariff_l1 :: .endB 0 :: .c billingref24_Reader_tariff_k4 :: K) .norm ⟨(.ptr 0 0 :: .undef :: .box [.str [], .int .i64 0, .bool false, .sl false 2 [], .sl false 2 [], .sl false 5 [], .sl false 6 []] :: .box [.str name, .int .i64 start, .bool split, lsV 2 zoneV acc, .sl false 0 [], .sl false 0 [], .sl false 0 []] :: .undef :: .undef :: .undef :: .undef :: .undef :: .undef :: .undef :: .undef :: .undef :: .undef :: .undef :: .undef :: .undef :: .undef :: .undef :: .undef :: .undef :: .undef :: .undef :: .undef :: .undef :: .undef :: .undef :: .undef :: .undef :: .undef :: .undef :: .undef :: .undef :: .undef :: .undef :: .undef :: .undef :: .undef :: .undef :: .undef :: .undef :: .undef :: .undef :: .undef :: .undef :: .undef :: .undef :: .undef :: .undef :: .undef :: .undef :: .undef :: .undef :: .undef :: .undef :: .undef :: .undef :: .undef :: .undef :: .undef :: .undef :: .undef :: .undef :: []), hf n L ts.length e⟩ P) := by
 intro m
 induction m with
 | zero =>
  intro acc ts e hm hacc hA
  obtain ⟨b, us, e1, c, hu, hb⟩ := g_acceptW (n := n) hL kZone (by decide) e hA
  rcases hb with ⟨rfl, rfl, rfl, hb⟩ | ⟨rfl, rfl, rfl, hb, rfl⟩
  ·refine ⟨acc, us, e1, Nat.le_refl _, Gd.stop hA hb, fun K P hk => ?_⟩
   unfold billingref24_Reader_tariff_l1b
   simp only [kZone] at c
   simp [go_sem, c, billingref24_Reader_tariff_k4]
   exact hk
  ·obtain ⟨t, r, rfl⟩ := ends_ne hA.2.1
   have := hm rfl
   simp at this
 | succ m ih =>
  intro acc ts e hm hacc hA
  obtain ⟨b, us, e1, c, hu, hb⟩ := g_acceptW (n := n) hL kZone (by decide) e hA
  rcases hb with ⟨rfl, rfl, rfl, hb⟩ | ⟨rfl, rfl, rfl, hb, hus⟩
  ·refine ⟨acc, us, e1, Nat.le_refl _, Gd.stop hA hb, fun K P hk => ?_⟩
   unfold billingref24_Reader_tariff_l1b
   simp only [kZone] at c
   simp [go_sem, c, billingref24_Reader_tariff_k4]
   exact hk
  ·obtain ⟨x, vs, e2, c2, g2⟩ := g_zone (n := n) hL 0 hu
   have hlen : e2 = 0 → vs.length ≤ m := fun h => by
    have h1 := g2.le h
    have h2 := hm rfl
    obtain ⟨t, r, rfl⟩ := ends_ne hA.2.1
    simp only [hus, List.tail_cons, List.length_cons] at h1 h2
    omega
   have qb : (acc.length + 1) * 40 ≤ 140737488355328 := by omega
   obtain ⟨acc', us', e3, hle, g3, run⟩ := ih (acc ++ [x]) vs e2 hlen (by simp; omega) g2.spot
   refine ⟨acc', us', e3, by simp at hle; omega, ?_, fun K P hk => ?_⟩
   ·have g2 := g2
    rw [hus] at g2
    exact Gd.more hb g2 g3
   ·have run := run K P hk
    unfold billingref24_Reader_tariff_l1b
    simp only [kZone] at c
    cases acc with
    | nil =>
     simp only [List.nil_append, lsV_cons, List.map_nil, zoneV] at run
     simp only [lsV_nil]
     simp [go_sem, c, c2, zoneV]
     exact run
    | cons a0 l0 =>
     simp only [List.cons_append, lsV_cons, List.map_append, List.map_cons, List.map_nil, zoneV] at run
     simp only [List.length_cons] at qb
     simp only [lsV_cons]
     simp [go_sem, c, c2, qb, zoneV]
     simpa [zoneV] using run
theorem tariff_x2 (hL : okT (L.map (·.1))) (name : Bs) (start : Int) (split : Bool) (Z : V) : ∀ (m : Nat) (acc : List BandP) (ts : List Tk) (e : Nat), (e = 0 → ts.length ≤ m) → acc.length + m ≤ 80000 → At L ts →
  ∃ acc' us e1, acc.length ≤ acc'.length ∧ Gd L (manyT (isWord kBand) bandT m acc) ts e acc' us e1 ∧ ∀ (K : List It) (P : Ex → St → Prop),
  (Run mach0 (.c billingref24_Reader_tariff_k3b :: K) .norm ⟨(.ptr 0 0 :: .undef :: .box [.str [], .int .i64 0, .bool false, .sl false 2 [], .sl false 2 [], .sl false 5 [], .sl false 6 []] :: .box [.str name, .int .i64 start, .bool split, Z, lsV 2 (bandW 0) acc', .sl false 0 [], .sl false 0 []] :: .undef :: .undef :: .undef :: .undef :: .undef :: .undef :: .undef :: .undef :: .undef :: .undef :: .undef :: .undef :: .undef :: .undef :: .undef :: .undef :: .undef :: .undef :: .undef :: .undef :: .undef :: .undef :: .undef :: .undef :: .undef :: .undef :: .undef :: .undef :: .undef :: .undef :: .undef :: .undef :: .undef :: .undef :: .undef :: .undef :: .undef :: .undef :: .undef :: .undef :: .undef :: .undef :: .undef :: .undef :: .undef :: .undef :: .undef :: .undef :: .undef :: .undef :: .undef :: .undef :: .undef :: .undef :: .undef :: .undef :: .undef :: .undef :: .undef :: []), hf n L us.length e1⟩ P →
  Run mach0 (.c billingref24_Reader_tariff_l2b :: .lp billingref24_Reader_tariff_l2 :: .endB 2 :: .c billingref24_Reader_tariff_k3 :: K) .norm ⟨(.ptr 0 0 :: .undef :: .box [.str [], .int .i64 0, .bool false, .sl false 2 [], .sl false 2 [], .sl false 5 [], .sl false 6 []] :: .box [.str name, .int .i64 start, .bool split, Z, lsV 2 (bandW 0) acc, .sl false 0 [], .sl false 0 []] :: .undef :: .undef :: .undef :: .undef :: .undef :: .undef :: .undef :: .undef :: .undef :: .undef :: .undef :: .undef :: .undef :: .undef :: .undef :: .undef :: .undef :: .undef :: .undef :: .undef :: .undef :: .undef :: .undef :: .undef :: .undef :: .undef :: .undef :: .undef :: .undef :: .undef :: .undef :: .undef :: .undef :: .undef :: .undef :: .undef :: .undef :: .undef :: .undef :: .undef :: .undef :: .undef :: .undef :: .undef :: .undef :: .undef :: .undef :: .undef :: .undef :: .undef :: .undef :: .undef :: .undef :: .undef :: .undef :: .undef :: .undef :: .undef :: .undef :: []), hf n L ts.length e⟩ P) := by
 intro m
 induction m with
 | zero =>
  intro acc ts e hm hacc hA
  obtain ⟨b, us, e1, c, hu, hb⟩ := g_acceptW (n := n) hL kBand (by decide) e hA
  rcases hb with ⟨rfl, rfl, rfl, hb⟩ | ⟨rfl, rfl, rfl, hb, rfl⟩
  ·refine ⟨acc, us, e1, Nat.le_refl _, Gd.stop hA hb, fun K P hk => ?_⟩
   unfold billingref24_Reader_tariff_l2b
   simp only [kBand] at c
   simp [go_sem, c, billingref24_Reader_tariff_k3]
   exact hk
  ·obtain ⟨t, r, rfl⟩ := ends_ne hA.2.1
   have := hm rfl
   simp at this
 | succ m ih =>
  intro acc ts e hm hacc hA
  obtain ⟨b, us, e1, c, hu, hb⟩ := g_acceptW (n := n) hL kBand (by decide) e hA
  rcases hb with ⟨rfl, rfl, rfl, hb⟩ | ⟨rfl, rfl, rfl, hb, hus⟩
  ·refine ⟨acc, us, e1, Nat.le_refl _, Gd.stop hA hb, fun K P hk => ?_⟩
   unfold billingref24_Reader_tariff_l2b
   simp only [kBand] at c
   simp [go_sem, c, billingref24_Reader_tariff_k3]
   exact hk
  ·obtain ⟨x, vs, e2, c2, g2⟩ := g_band (n := n) hL 0 hu
   have hlen : e2 = 0 → vs.length ≤ m := fun h => by
    have h1 := g2.le h
    have h2 := hm rfl
    obtain ⟨t, r, rfl⟩ := ends_ne hA.2.1
    simp only [hus, List.tail_cons, List.length_cons] at h1 h2
    omega
   have qb : (acc.length + 1) * 40 ≤ 140737488355328 := by omega
   obtain ⟨acc', us', e3, hle, g3, run⟩ := ih (acc ++ [x]) vs e2 hlen (by simp; omega) g2.spot
   refine ⟨acc', us', e3, by simp at hle; omega, ?_, fun K P hk => ?_⟩
   ·have g2 := g2
    rw [hus] at g2
    exact Gd.more hb g2 g3
   ·have run := run K P hk
    unfold billingref24_Reader_tariff_l2b
    simp only [kBand] at c
    cases acc with
    | nil =>
     simp only [List.nil_append, lsV_cons, List.map_nil, bandW, slW] at run
     simp only [lsV_nil]
     simp [go_sem, c, c2, bandW, slW]
     exact run
    | cons a0 l0 =>
     simp only [List.cons_append, lsV_cons, List.map_append, List.map_cons, List.map_nil, bandW, slW] at run
     simp only [List.length_cons] at qb
     simp only [lsV_cons]
     simp [go_sem, c, c2, qb, bandW, slW]
     simpa [bandW, slW] using run
theorem tariff_x3 (hL : okT (L.map (·.1))) (name : Bs) (start : Int) (split : Bool) (Z : V) (B : V) : ∀ (m : Nat) (acc : List RateP) (ts : List Tk) (e : Nat), (e = 0 → ts.length ≤ m) → acc.length + m ≤ 80000 → At L ts →
  ∃ acc' us e1, acc.length ≤ acc'.length ∧ Gd L (manyT (isWord kRate) rateT m acc) ts e acc' us e1 ∧ ∀ (K : List It) (P : Ex → St → Prop),
  (Run mach0 (.c billingref24_Reader_tariff_k2b :: K) .norm ⟨(.ptr 0 0 :: .undef :: .box [.str [], .int .i64 0, .bool false, .sl false 2 [], .sl false 2 [], .sl false 5 [], .sl false 6 []] :: .box [.str name, .int .i64 start, .bool split, Z, B, lsV 5 rateV acc', .sl false 0 []] :: .undef :: .undef :: .undef :: .undef :: .undef :: .undef :: .undef :: .undef :: .undef :: .undef :: .undef :: .undef :: .undef :: .undef :: .undef :: .undef :: .undef :: .undef :: .undef :: .undef :: .undef :: .undef :: .undef :: .undef :: .undef :: .undef :: .undef :: .undef :: .undef :: .undef :: .undef :: .undef :: .undef :: .undef :: .undef :: .undef :: .undef :: .undef :: .undef :: .undef :: .undef :: .undef :: .undef :: .undef :: .undef :: .undef :: .undef :: .undef :: .undef :: .undef :: .undef :: .undef :: .undef :: .undef :: .undef :: .undef :: .undef :: .undef :: .undef :: []), hf n L us.length e1⟩ P →
  Run mach0 (.c billingref24_Reader_tariff_l3b :: .lp billingref24_Reader_tariff_l3 :: .endB 4 :: .c billingref24_Reader_tariff_k2 :: K) .norm ⟨(.ptr 0 0 :: .undef :: .box [.str [], .int .i64 0, .bool false, .sl false 2 [], .sl false 2 [], .sl false 5 [], .sl false 6 []] :: .box [.str name, .int .i64 start, .bool split, Z, B, lsV 5 rateV acc, .sl false 0 []] :: .undef :: .undef :: .undef :: .undef :: .undef :: .undef :: .undef :: .undef :: .undef :: .undef :: .undef :: .undef :: .undef :: .undef :: .undef :: .undef :: .undef :: .undef :: .undef :: .undef :: .undef :: .undef :: .undef :: .undef :: .undef :: .undef :: .undef :: .undef :: .undef :: .undef :: .undef :: .undef :: .undef :: .undef :: .undef :: .undef :: .undef :: .undef :: .undef :: .undef :: .undef :: .undef :: .undef :: .undef :: .undef :: .undef :: .undef :: .undef :: .undef :: .undef :: .undef :: .undef :: .undef :: .undef :: .undef :: .undef :: .undef :: .undef :: .undef :: []), hf n L ts.length e⟩ P) := by
 intro m
 induction m with
 | zero =>
  intro acc ts e hm hacc hA
  obtain ⟨b, us, e1, c, hu, hb⟩ := g_acceptW (n := n) hL kRate (by decide) e hA
  rcases hb with ⟨rfl, rfl, rfl, hb⟩ | ⟨rfl, rfl, rfl, hb, rfl⟩
  ·refine ⟨acc, us, e1, Nat.le_refl _, Gd.stop hA hb, fun K P hk => ?_⟩
   unfold billingref24_Reader_tariff_l3b
   simp only [kRate] at c
   simp [go_sem, c, billingref24_Reader_tariff_k2]
   exact hk
  ·obtain ⟨t, r, rfl⟩ := ends_ne hA.2.1
   have := hm rfl
   simp at this
 | succ m ih =>
  intro acc ts e hm hacc hA
  obtain ⟨b, us, e1, c, hu, hb⟩ := g_acceptW (n := n) hL kRate (by decide) e hA
  rcases hb with ⟨rfl, rfl, rfl, hb⟩ | ⟨rfl, rfl, rfl, hb, hus⟩
  ·refine ⟨acc, us, e1, Nat.le_refl _, Gd.stop hA hb, fun K P hk => ?_⟩
   unfold billingref24_Reader_tariff_l3b
   simp only [kRate] at c
   simp [go_sem, c, billingref24_Reader_tariff_k2]
   exact hk
  ·obtain ⟨x, vs, e2, c2, g2⟩ := g_rate (n := n) hL 0 hu
   have hlen : e2 = 0 → vs.length ≤ m := fun h => by
    have h1 := g2.le h
    have h2 := hm rfl
    obtain ⟨t, r, rfl⟩ := ends_ne hA.2.1
    simp only [hus, List.tail_cons, List.length_cons] at h1 h2
    omega
   have qb : (acc.length + 1) * 72 ≤ 140737488355328 := by omega
   obtain ⟨acc', us', e3, hle, g3, run⟩ := ih (acc ++ [x]) vs e2 hlen (by simp; omega) g2.spot
   refine ⟨acc', us', e3, by simp at hle; omega, ?_, fun K P hk => ?_⟩
   ·have g2 := g2
    rw [hus] at g2
    exact Gd.more hb g2 g3
   ·have run := run K P hk
    unfold billingref24_Reader_tariff_l3b
    simp only [kRate] at c
    cases acc with
    | nil =>
     simp only [List.nil_append, lsV_cons, List.map_nil, rateV] at run
     simp only [lsV_nil]
     simp [go_sem, c, c2, rateV]
     exact run
    | cons a0 l0 =>
     simp only [List.cons_append, lsV_cons, List.map_append, List.map_cons, List.map_nil, rateV] at run
     simp only [List.length_cons] at qb
     simp only [lsV_cons]
     simp [go_sem, c, c2, qb, rateV]
     simpa [rateV] using run
theorem tariff_x4 (hL : okT (L.map (·.1))) (name : Bs) (start : Int) (split : Bool) (Z : V) (B : V) (R : V) : ∀ (m : Nat) (acc : List DiscP) (ts : List Tk) (e : Nat), (e = 0 → ts.length ≤ m) → acc.length + m ≤ 80000 → At L ts →
  ∃ acc' us e1, acc.length ≤ acc'.length ∧ Gd L (manyT (isWord kDisc) discT m acc) ts e acc' us e1 ∧ ∀ (K : List It) (P : Ex → St → Prop),
  (Run mach0 (.c billingref24_Reader_tariff_k1b :: K) .norm ⟨(.undef :: .undef :: .box [.str [], .int .i64 0, .bool false, .sl false 2 [], .sl false 2 [], .sl false 5 [], .sl false 6 []] :: .box [.str name, .int .i64 start, .bool split, Z, B, R, lsV 6 discV acc'] :: .undef :: .undef :: .undef :: .undef :: .undef :: .undef :: .undef :: .undef :: .undef :: .undef :: .undef :: .undef :: .undef :: .undef :: .undef :: .undef :: .undef :: .undef :: .undef :: .undef :: .undef :: .undef :: .undef :: .undef :: .undef :: .undef :: .undef :: .undef :: .undef :: .undef :: .undef :: .undef :: .undef :: .undef :: .undef :: .undef :: .undef :: .undef :: .undef :: .undef :: .undef :: .undef :: .undef :: .undef :: .undef :: .undef :: .undef :: .undef :: .undef :: .undef :: .undef :: .undef :: .undef :: .undef :: .undef :: .undef :: .undef :: .undef :: .undef :: []), hf n L us.length e1⟩ P →
  Run mach0 (.c billingref24_Reader_tariff_l4b :: .lp billingref24_Reader_tariff_l4 :: .endB 6 :: .c billingref24_Reader_tariff_k1 :: K) .norm ⟨(.ptr 0 0 :: .undef :: .box [.str [], .int .i64 0, .bool false, .sl false 2 [], .sl false 2 [], .sl false 5 [], .sl false 6 []] :: .box [.str name, .int .i64 start, .bool split, Z, B, R, lsV 6 discV acc] :: .undef :: .undef :: .undef :: .undef :: .undef :: .undef :: .undef :: .undef :: .undef :: .undef :: .undef :: .undef :: .undef :: .undef :: .undef :: .undef :: .undef :: .undef :: .undef :: .undef :: .undef :: .undef :: .undef :: .undef :: .undef :: .undef :: .undef :: .undef :: .undef :: .undef :: .undef :: .undef :: .undef :: .undef :: .undef :: .undef :: .undef :: .undef :: .undef :: .undef :: .undef :: .undef :: .undef :: .undef :: .undef :: .undef :: .undef :: .undef :: .undef :: .undef :: .undef :: .undef :: .undef :: .undef :: .undef :: .undef :: .undef :: .undef :: .undef :: []), hf n L ts.length e⟩ P) := by
 intro m
 induction m with
 | zero =>
  intro acc ts e hm hacc hA
  obtain ⟨b, us, e1, c, hu, hb⟩ := g_acceptW (n := n) hL kDisc (by decide) e hA
  rcases hb with ⟨rfl, rfl, rfl, hb⟩ | ⟨rfl, rfl, rfl, hb, rfl⟩
  ·refine ⟨acc, us, e1, Nat.le_refl _, Gd.stop hA hb, fun K P hk => ?_⟩
   unfold billingref24_Reader_tariff_l4b
   simp only [kDisc] at c
   simp [go_sem, c, billingref24_Reader_tariff_k1]
   exact hk
  ·obtain ⟨t, r, rfl⟩ := ends_ne hA.2.1
   have := hm rfl
   simp at this
 | succ m ih =>
  intro acc ts e hm hacc hA
  obtain ⟨b, us, e1, c, hu, hb⟩ := g_acceptW (n := n) hL kDisc (by decide) e hA
  rcases hb with ⟨rfl, rfl, rfl, hb⟩ | ⟨rfl, rfl, rfl, hb, hus⟩
  ·refine ⟨acc, us, e1, Nat.le_refl _, Gd.stop hA hb, fun K P hk => ?_⟩
   unfold billingref24_Reader_tariff_l4b
   simp only [kDisc] at c
   simp [go_sem, c, billingref24_Reader_tariff_k1]
   exact hk
  ·obtain ⟨x, vs, e2, c2, g2⟩ := g_discount (n := n) hL 0 hu
   obtain ⟨nm, po, ⟨op, num, text, args⟩⟩ := x
   have hlen : e2 = 0 → vs.length ≤ m := fun h => by
    have h1 := g2.le h
    have h2 := hm rfl
    obtain ⟨t, r, rfl⟩ := ends_ne hA.2.1
    simp only [hus, List.tail_cons, List.length_cons] at h1 h2
    omega
   have qb : (acc.length + 1) * 80 ≤ 140737488355328 := by omega
   obtain ⟨acc', us', e3, hle, g3, run⟩ := ih (acc ++ [⟨nm, po, .mk op num text args⟩]) vs e2 hlen (by simp; omega) g2.spot
   refine ⟨acc', us', e3, by simp at hle; omega, ?_, fun K P hk => ?_⟩
   ·have g2 := g2
    rw [hus] at g2
    exact Gd.more hb g2 g3
   ·have run := run K P hk
    unfold billingref24_Reader_tariff_l4b
    simp only [kDisc] at c
    cases acc with
    | nil =>
     simp only [List.nil_append, lsV_cons, List.map_nil, discV, exprC] at run
     simp only [lsV_nil]
     simp [go_sem, c, c2, discV, exprC]
     exact run
    | cons a0 l0 =>
     simp only [List.cons_append, lsV_cons, List.map_append, List.map_cons, List.map_nil, discV, exprC] at run
     simp only [List.length_cons] at qb
     simp only [lsV_cons]
     simp [go_sem, c, c2, qb, discV, exprC]
     simpa [discV, exprC] using run
theorem g_split (hL : okT (L.map (·.1))) (e : Nat) (hA : At L ts) : ∃ b us e1, acall mach0 n_billingref24_Reader_accept [.ptr 0 0, .str kSplit] (hf n L ts.length e) = some (.ret (.bool b) (hf n L us.length e1)) ∧ Gd L splitT ts e b us e1 := by
 obtain ⟨b, us, e1, c, hu, hb⟩ := g_acceptW (n := n) hL kSplit (by decide) e hA
 refine ⟨b, us, e1, c, ?_⟩
 rcases hb with ⟨rfl, rfl, rfl, hb⟩ | ⟨rfl, rfl, rfl, hb, rfl⟩
 ·exact (Gd.pure (a := false) hA).eq fun h => by unfold splitT; rw [hb h, if_neg (by decide)]
 ·exact Gd.tail (p := fun t => .ok true t) (Gd.pure hu) (by unfold splitT; rw [hb, if_pos rfl])
def wdOf (t : TariffP) : Wd := ⟨if t.zones = [] then 0 else 2, if t.bands = [] then 0 else 2, if t.rates = [] then 0 else 5, if t.discs = [] then 0 else 6⟩
theorem wdOf_ok (t : TariffP) : (wdOf t).Ok t := ⟨fun h => by simp [wdOf, h], fun h => by simp [wdOf, h], fun h => by simp [wdOf, h], fun h => by simp [wdOf, h]⟩
def restT (nm : Bs) (S : Int) (sp : Bool) (ts : List Tk) : PR TariffP :=
 bindP (manyT (isWord kZone) zoneT ts.length [] ts) fun zs r => bindP (manyT (isWord kBand) bandT r.length [] r) fun bs r => bindP (manyT (isWord kRate) rateT r.length [] r) fun rs r => bindP (manyT (isWord kDisc) discT r.length [] r) fun ds r => .ok ⟨nm, S, sp, zs, bs, rs, ds⟩ r
theorem g_rest (hL : okT (L.map (·.1))) (nm : Bs) (S : Int) (sp : Bool) (e : Nat) (hA : At L ts) : ∃ a us e1, Gd L (restT nm S sp) ts e a us e1 ∧ (a.name = nm ∧ a.start = S ∧ a.split = sp) ∧
    Run mach0 (.c billingref24_Reader_tariff_l1b :: .lp billingref24_Reader_tariff_l1 :: .endB 0 :: .c billingref24_Reader_tariff_k4 :: []) .norm ⟨(.ptr 0 0 :: .undef :: .box [.str [], .int .i64 0, .bool false, .sl false 2 [], .sl false 2 [], .sl false 5 [], .sl false 6 []] :: .box [.str nm, .int .i64 S, .bool sp, .sl false 0 [], .sl false 0 [], .sl false 0 [], .sl false 0 []] :: .undef :: .undef :: .undef :: .undef :: .undef :: .undef :: .undef :: .undef :: .undef :: .undef :: .undef :: .undef :: .undef :: .undef :: .undef :: .undef :: .undef :: .undef :: .undef :: .undef :: .undef :: .undef :: .undef :: .undef :: .undef :: .undef :: .undef :: .undef :: .undef :: .undef :: .undef :: .undef :: .undef :: .undef :: .undef :: .undef :: .undef :: .undef :: .undef :: .undef :: .undef :: .undef :: .undef :: .undef :: .undef :: .undef :: .undef :: .undef :: .undef :: .undef :: .undef :: .undef :: .undef :: .undef :: .undef :: .undef :: .undef :: .undef :: .undef :: []), hf n L ts.length e⟩
      (FinQ [.cell 2 (some 7)] 1 (.ret (tariffX (wdOf a) 0 a) (hf n L us.length e1))) := by
  have bd : ∀ {us : List Tk}, At L us → ([] : List Nat).length + us.length ≤ 80000 := fun h => by have := h.len; have := h.2.2; simp only [List.length_nil]; omega
  obtain ⟨zs, q1, e1, _, g1, r1⟩ := tariff_x1 (n := n) hL nm S sp ts.length [] ts e (fun _ => Nat.le_refl _) (bd hA) hA
  obtain ⟨bs, q2, e2, _, g2, r2⟩ := tariff_x2 (n := n) hL nm S sp (lsV 2 zoneV zs) q1.length [] q1 e1 (fun _ => Nat.le_refl _) (bd g1.spot) g1.spot
  obtain ⟨rs, q3, e3, _, g3, r3⟩ := tariff_x3 (n := n) hL nm S sp (lsV 2 zoneV zs) (lsV 2 (bandW 0) bs) q2.length [] q2 e2 (fun _ => Nat.le_refl _) (bd g2.spot) g2.spot
  obtain ⟨ds, q4, e4, _, g4, r4⟩ := tariff_x4 (n := n) hL nm S sp (lsV 2 zoneV zs) (lsV 2 (bandW 0) bs) (lsV 5 rateV rs) q3.length [] q3 e3 (fun _ => Nat.le_refl _) (bd g3.spot) g3.spot
  refine ⟨⟨nm, S, sp, zs, bs, rs, ds⟩, q4, e4, ?_, ⟨rfl, rfl, rfl⟩, ?_⟩
  · exact (g1.many.bind (f := fun zs r => bindP (manyT (isWord kBand) bandT r.length [] r) fun bs r => bindP (manyT (isWord kRate) rateT r.length [] r) fun rs r => bindP (manyT (isWord kDisc) discT r.length [] r) fun ds r => .ok (⟨nm, S, sp, zs, bs, rs, ds⟩ : TariffP) r)
      (g2.many.bind (f := fun bs r => bindP (manyT (isWord kRate) rateT r.length [] r) fun rs r => bindP (manyT (isWord kDisc) discT r.length [] r) fun ds r => .ok (⟨nm, S, sp, zs, bs, rs, ds⟩ : TariffP) r)
      (g3.many.bind (f := fun rs r => bindP (manyT (isWord kDisc) discT r.length [] r) fun ds r => .ok (⟨nm, S, sp, zs, bs, rs, ds⟩ : TariffP) r)
      (g4.many.map (fun ds => (⟨nm, S, sp, zs, bs, rs, ds⟩ : TariffP))))))
  · have r4 := r4 [] (FinQ [.cell 2 (some 7)] 1 (.ret (tariffX (wdOf ⟨nm, S, sp, zs, bs, rs, ds⟩) 0 ⟨nm, S, sp, zs, bs, rs, ds⟩) (hf n L q4.length e4))) (by
      unfold billingref24_Reader_tariff_k1b
      cases zs <;> cases bs <;> cases rs <;> cases ds <;> simp [go_sem, lsV, tariffX, wdOf])
    simp only [lsV_nil] at r4
    have r3 := r3 [] _ (by
      unfold billingref24_Reader_tariff_k2b
      simp [go_sem]
      exact r4)
    simp only [lsV_nil] at r3
    have r2 := r2 [] _ (by
      unfold billingref24_Reader_tariff_k3b
      simp [go_sem]
      exact r3)
    simp only [lsV_nil] at r2
    have r1 := r1 [] _ (by
      unfold billingref24_Reader_tariff_k4b
      simp [go_sem]
      exact r2)
    simp only [lsV_nil] at r1
    exact r1
theorem date_hi {a : Int} (h : dateR ts = .ok a us) : 0 ≤ a ∧ a ≤ 146097 := by
 have h2 : dateT ts = .ok (a * 86400) us := by rw [← dateT_R, h, bindP_ok]
 have := dateT_ok h2
 omega
theorem g_tariff (hL : okT (L.map (·.1))) (e : Nat) (hA : At L ts) : ∃ a us e1, acall mach0 n_billingref24_Reader_tariff [.ptr 0 0] (hf n L ts.length e) = some (.ret (tariffX (wdOf a) 0 a) (hf n L us.length e1)) ∧ Gd L tariffT ts e a us e1 := by
 obtain ⟨q1, e1, c1, g1⟩ := g_expectW (n := n) hL kTariff (by decide) e hA
 obtain ⟨nm, q2, e2, c2, g2⟩ := g_name (n := n) e1 g1.spot
 obtain ⟨q3, e3, c3, g3⟩ := g_expectW (n := n) hL kFrom (by decide) e2 g2.spot
 obtain ⟨d, q4, e4, c4, g4⟩ := g_date (n := n) hL e3 g3.spot
 obtain ⟨k, q5, e5, c5, g5, k0, k1⟩ := g_clock (n := n) e4 hL g4.spot
 obtain ⟨sp, q6, e6, c6, g6⟩ := g_split (n := n) hL e5 g5.spot
 obtain ⟨q7, e7, c7, g7⟩ := g_expectS (n := n) hL [59] (by decide) e6 g6.spot
 obtain ⟨a, q8, e8, g8, ⟨a1, a2, a3⟩, run⟩ := g_rest (n := n) hL nm (IntKind.wrap .i64 (IntKind.wrap .i64 (86400 * d) + k)) sp e7 g7.spot
 refine ⟨a, q8, e8, acall_fn rfl (af := a_billingref24_Reader_tariff) rfl rfl ?_, ?_⟩
 ·simp only [kTariff, kFrom, kSplit] at c1 c3 c6
  simp [List.replicate, go_sem, c1, c2, c3, c4, c5, c6, c7]
  exact run
 ·have hS : e4 = 0 → IntKind.wrap .i64 (IntKind.wrap .i64 (86400 * d) + k) = d * 86400 + k := fun h => by
   have hd := date_hi (g4.ok h)
   have w1 : IntKind.wrap .i64 (86400 * d) = 86400 * d := wrap_i64 (by omega)
   have w2 : IntKind.wrap .i64 (86400 * d + k) = 86400 * d + k := wrap_i64 (by omega)
   rw [w1, w2]
   omega
  have g4' : Gd L dateT q3 e3 (d * 86400) q4 e4 := (g4.map (fun n => n * 86400)).eq fun _ => dateT_R q3
  have g8' : Gd L (restT nm (d * 86400 + k) sp) q7 e7 a q8 e8 := by
   by_cases h4 : e4 = 0
   ·rw [← hS h4]; exact g8
   ·have z5 : e5 ≠ 0 := fun h => h4 (g5.zero h)
    have z6 : e6 ≠ 0 := fun h => z5 (g6.zero h)
    have z7 : e7 ≠ 0 := fun h => z6 (g7.zero h)
    exact ⟨g8.spot, g8.le, g8.rel.1, fun h => absurd h z7⟩
  exact (g1.bind (f := fun _ r => bindP (nameT r) fun n r => bindP (needW kFrom r) fun _ r => bindP (dateT r) fun d r => bindP (clockT r) fun c r => bindP (splitT r) fun s r => bindP (needS [59] r) fun _ r => restT n (d + c) s r)
   (g2.bind (f := fun n r => bindP (needW kFrom r) fun _ r => bindP (dateT r) fun d r => bindP (clockT r) fun c r => bindP (splitT r) fun s r => bindP (needS [59] r) fun _ r => restT n (d + c) s r)
   (g3.bind (f := fun _ r => bindP (dateT r) fun d r => bindP (clockT r) fun c r => bindP (splitT r) fun s r => bindP (needS [59] r) fun _ r => restT nm (d + c) s r)
   (g4'.bind (f := fun d r => bindP (clockT r) fun c r => bindP (splitT r) fun s r => bindP (needS [59] r) fun _ r => restT nm (d + c) s r)
   (g5.bind (f := fun c r => bindP (splitT r) fun s r => bindP (needS [59] r) fun _ r => restT nm (d * 86400 + c) s r)
   (g6.bind (f := fun s r => bindP (needS [59] r) fun _ r => restT nm (d * 86400 + k) s r)
   (g7.bind (f := fun _ r => restT nm (d * 86400 + k) sp r) g8'))))))).eq fun _ => rfl
end
end Go.Am
namespace Go.Am
open Go Go.Pu
theorem bindP_inv {α β : Type} {x : PR α} {f : α → List Tk → PR β} {b : β} {r : List Tk} (h : bindP x f = .ok b r) : ∃ a q, x = .ok a q ∧ f a q = .ok b r := by
 cases x with
 | ok a q => exact ⟨a, q, rfl, h⟩
 | err m e => cases h
section
variable {L : List (Tk × Nat)} {ts r : List Tk}
theorem At.few (h : At L ts) : ts.length ≤ 70000 := Nat.le_trans h.len h.2.2
theorem many_inv {α : Type} {hd : List Tk → Bool} {item : List Tk → PR α} (P : α → Prop) (hh : ∀ ts, At L ts → hd ts = true → At L ts.tail) (hi : ∀ ts a r, At L ts → item ts = .ok a r → P a ∧ At L r) : ∀ (n : Nat) (acc : List α) (ts : List Tk) (l : List α) (r : List Tk), At L ts → (∀ a ∈ acc, P a) → manyT hd item n acc ts = .ok l r → (∀ a ∈ l, P a) ∧ At L r ∧ l.length ≤ acc.length + n
 | 0, acc, ts, l, r, hA, ha, h => by simp only [manyT] at h; cases h; exact ⟨ha, hA, by omega⟩
 | n + 1, acc, ts, l, r, hA, ha, h => by
  simp only [manyT] at h
  split at h
  ·rename_i hw
   obtain ⟨a, q, h1, h2⟩ := bindP_inv h
   have hj := hi _ _ _ (hh ts hA hw) h1
   have := many_inv P hh hi n (acc ++ [a]) q l r hj.2 (fun b hb => by
    rcases List.mem_append.1 hb with hb | hb
    ·exact ha b hb
    ·rw [List.mem_singleton.1 hb]; exact hj.1) h2
   simp only [List.length_append, List.length_cons, List.length_nil] at this
   exact ⟨this.1, this.2.1, by omega⟩
  ·cases h; exact ⟨ha, hA, by omega⟩
theorem sep_inv {α : Type} {item : List Tk → PR α} (hi : ∀ ts a r, At L ts → item ts = .ok a r → At L r) {l : List α} (hA : At L ts) (h : sepT item ts = .ok l r) : At L r ∧ l.length ≤ 1000000 := by
 obtain ⟨a, q, h1, h2⟩ := bindP_inv h
 have A := hi _ _ _ hA h1
 have hm := many_inv (fun _ => True) (fun ts h hw => h.sym hw) (fun ts a r h he => ⟨trivial, hi _ _ _ h he⟩) q.length [a] q l r A (fun _ _ => trivial) h2
 have hf := A.few
 have hl := hm.2.2
 simp only [List.length_cons, List.length_nil] at hl
 exact ⟨hm.2.1, by omega⟩
theorem zone_inv (ts : List Tk) (z : ZoneP) (r : List Tk) (hA : At L ts) (h : zoneT ts = .ok z r) : z.pref.length ≤ 1000000 ∧ At L r := by
 refine ⟨?_, (hA.zoneR h).1⟩
 unfold zoneT at h
 obtain ⟨nm, q1, h1, h⟩ := bindP_inv h
 obtain ⟨l, q2, h2, h⟩ := bindP_inv h
 obtain ⟨u, q3, h3, h⟩ := bindP_inv h
 cases h
 exact (sep_inv (fun ts a r h he => h.digits he) (hA.name h1) h2).2
theorem band_inv (ts : List Tk) (b : BandP) (r : List Tk) (hA : At L ts) (h : bandT ts = .ok b r) : b.slots.length ≤ 1000000 ∧ At L r := by
 refine ⟨?_, (hA.bandR h).1⟩
 unfold bandT at h
 obtain ⟨nm, q1, h1, h⟩ := bindP_inv h
 obtain ⟨l, q2, h2, h⟩ := bindP_inv h
 obtain ⟨u, q3, h3, h⟩ := bindP_inv h
 cases h
 unfold slotsT at h2
 split at h2
 ·cases h2; exact Nat.zero_le _
 ·exact (sep_inv (fun ts a r h he => h.slot he) (hA.name h1) h2).2
theorem rate_inv (ts : List Tk) (x : RateP) (r : List Tk) (hA : At L ts) (h : rateT ts = .ok x r) : x.steps.length ≤ 1000000 ∧ At L r := by
 refine ⟨?_, (hA.rateR h).1⟩
 unfold rateT at h
 obtain ⟨k, q1, h1, h⟩ := bindP_inv h
 obtain ⟨u, q2, h2, h⟩ := bindP_inv h
 obtain ⟨z, q3, h3, h⟩ := bindP_inv h
 obtain ⟨u, q4, h4, h⟩ := bindP_inv h
 obtain ⟨b, q5, h5, h⟩ := bindP_inv h
 obtain ⟨s, q6, h6, h⟩ := bindP_inv h
 obtain ⟨l, q7, h7, h⟩ := bindP_inv h
 obtain ⟨u, q8, h8, h⟩ := bindP_inv h
 cases h
 exact (sep_inv (fun ts a r h he => (h.stepR he).1) ((((((hA.xWord h1).xW h2).xAny h3).xW h4).xAny h5).opt h6).1 h7).2
theorem disc_inv (ts : List Tk) (x : DiscP) (r : List Tk) (hA : At L ts) (h : discT ts = .ok x r) : Nar x.cond ∧ At L r := by
 refine ⟨?_, (hA.discR h).1⟩
 unfold discT at h
 obtain ⟨nm, q1, h1, h⟩ := bindP_inv h
 obtain ⟨p, q2, h2, h⟩ := bindP_inv h
 obtain ⟨u, q3, h3, h⟩ := bindP_inv h
 obtain ⟨u, q4, h4, h⟩ := bindP_inv h
 obtain ⟨a, q5, h5, h⟩ := bindP_inv h
 obtain ⟨u, q6, h6, h⟩ := bindP_inv h
 cases h
 exact exprT_nar h5
theorem tnar_of {t : TariffP} (hA : At L ts) (h : allT tariffT ts = .ok t r) : TNar t := by
 obtain ⟨a, q, h0, h9⟩ := bindP_inv h
 obtain ⟨u9, q9, _, h9⟩ := bindP_inv h9
 cases h9
 unfold tariffT at h0
 obtain ⟨u, q1, h1, h0⟩ := bindP_inv h0
 obtain ⟨nm, q2, h2, h0⟩ := bindP_inv h0
 obtain ⟨u, q3, h3, h0⟩ := bindP_inv h0
 obtain ⟨d, q4, h4, h0⟩ := bindP_inv h0
 obtain ⟨c, q5, h5, h0⟩ := bindP_inv h0
 obtain ⟨s, q6, h6, h0⟩ := bindP_inv h0
 obtain ⟨u, q7, h7, h0⟩ := bindP_inv h0
 have A := (((((((hA.xW h1).name h2).xW h3).date h4).clockR h5).1.splitR h6).1).xS h7
 obtain ⟨zs, p1, g1, h0⟩ := bindP_inv h0
 obtain ⟨bs, p2, g2, h0⟩ := bindP_inv h0
 obtain ⟨rs, p3, g3, h0⟩ := bindP_inv h0
 obtain ⟨ds, p4, g4, h0⟩ := bindP_inv h0
 cases h0
 have m1 := many_inv _ (fun ts h hw => h.word hw) zone_inv _ [] _ _ _ A (by simp) g1
 have m2 := many_inv _ (fun ts h hw => h.word hw) band_inv _ [] _ _ _ m1.2.1 (by simp) g2
 have m3 := many_inv _ (fun ts h hw => h.word hw) rate_inv _ [] _ _ _ m2.2.1 (by simp) g3
 have m4 := many_inv _ (fun ts h hw => h.word hw) disc_inv _ [] _ _ _ m3.2.1 (by simp) g4
 have f1 := A.few
 have f2 := m1.2.1.few
 have f3 := m2.2.1.few
 have f4 := m3.2.1.few
 have l1 := m1.2.2
 have l2 := m2.2.2
 have l3 := m3.2.2
 have l4 := m4.2.2
 simp only [List.length_nil] at l1 l2 l3 l4
 exact ⟨by show zs.length ≤ 1000000; omega, m1.1, by show bs.length ≤ 1000000; omega, m2.1, by show rs.length ≤ 1000000; omega, m3.1, by show ds.length ≤ 1000000; omega, m4.1⟩
end
end Go.Am
namespace Go.Am
open Go Go.Pu
section
variable {n : Nat} {L : List (Tk × Nat)} {t : Tk} {ts us vs : List Tk} {e e1 : Nat}
theorem g_end (e : Nat) (hA : At L ts) : ∃ e1, acall mach0 n_billingref24_Reader_end [.ptr 0 0] (hf n L ts.length e) = some (.ret (.tup []) (hf n L ts.length e1)) ∧ Gd L endT ts e () ts e1 := by
 by_cases he : e = 0
 ·subst he
  have c := f_end0 (n := n) hA
  cases h : endT ts with
  | ok u q =>
   have hq : q = ts := by
    unfold endT failT at h
    split at h
    ·cases h; rfl
    ·cases h
   subst hq
   rw [h] at c
   exact ⟨0, c, hA, fun _ => Nat.le_refl _, fun h => absurd rfl h, fun _ => by rw [h]; exact ⟨rfl, rfl, rfl⟩⟩
  | err m k =>
   have hq : m = ts.length ∧ k = 1 := by
    unfold endT failT at h
    split at h
    ·cases h
    ·cases h; exact ⟨rfl, rfl⟩
   obtain ⟨rfl, rfl⟩ := hq
   rw [h] at c
   exact ⟨1, c, hA, fun _ => Nat.le_refl _, fun h => absurd rfl h, fun _ => by rw [h]; exact ⟨rfl, rfl, by decide⟩⟩
 ·exact ⟨e, f_endE (n := n) e he hA, hA, fun _ => Nat.le_refl _, fun _ => ⟨rfl, rfl⟩, fun h => absurd h he⟩
end
def wd0 : Wd := ⟨2, 2, 5, 6⟩
theorem wd0_ok (t : TariffP) : wd0.Ok t := ⟨fun _ => rfl, fun _ => rfl, fun _ => rfl, fun _ => rfl⟩
theorem zTarX : tariffX wd0 0 zTar = .agg [.str [], .int .i64 0, .bool false, .sl false 2 [], .sl false 2 [], .sl false 5 [], .sl false 6 []] := rfl
theorem f_Tariff (s : List UInt8) : ∃ (t : TariffP) (W : Wd) (p : Int) (e : Nat), W.Ok t ∧ TNar t ∧ TariffV s = .tup [tariffV t, .int .i64 p, .int .i64 e] ∧
  acall mach0 n_billingref24_Tariff [.str s] [] = some (.ret (.tup [tariffX W 0 t, .int .i64 p, .int .i64 e]) []) := by
 have es := e_rScan s
 unfold rscanV at es
 unfold TariffV
 by_cases h : s.length > 65536
 ·rw [if_pos h] at es ⊢
  refine ⟨zTar, wd0, 0, 5, wd0_ok _, tnar_zero, rfl, acall_fn rfl (af := a_billingref24_Tariff) rfl rfl ?_⟩
  simp [List.replicate, go_sem, es, zTarX]
 ·rw [if_neg h] at es ⊢
  cases hs : scan s with
  | err rem e =>
   simp only [hs, rscanRt] at es ⊢
   have he : ¬ (e : Int) = 0 := by have := scan_e hs; omega
   refine ⟨zTar, wd0, _, e, wd0_ok _, tnar_zero, rfl, acall_fn rfl (af := a_billingref24_Tariff) rfl rfl ?_⟩
   simp [List.replicate, go_sem, es, nt' he, zTarX]
  | ok L =>
   simp only [hs, rscanRt] at es ⊢
   have hA : At L (L.map (·.1)) := ⟨⟨[], L, rfl, rfl⟩, scan_ends hs, by have := Go.Pu.scan_len s.length s L (Nat.le_refl _) hs; omega⟩
   have hL := toks_ok (scan_toks s.length s L (Nat.le_refl _) hs)
   obtain ⟨a, us, e1, c1, g1⟩ := g_tariff (n := s.length) hL 0 hA
   obtain ⟨e2, c2, g2⟩ := g_end (n := s.length) e1 g1.spot
   simp only [hf, List.length_map, Nat.sub_self] at c1
   by_cases z2 : e2 = 0
   ·have z1 := g2.zero z2
    subst z2 z1
    have h1 := g1.ok rfl
    have h2 := g2.ok rfl
    have hall : allT tariffT (L.map (·.1)) = .ok a us := by unfold allT; rw [h1, bindP_ok, h2, bindP_ok]
    have hN := tnar_of hA hall
    rw [hall]
    refine ⟨a, wdOf a, 0, 0, wdOf_ok a, hN, rfl, acall_fn rfl (af := a_billingref24_Tariff) rfl rfl ?_⟩
    simp only [tariffX] at c1 ⊢
    simp only [hf] at c2
    simp at c1 es c2
    simp [List.replicate, go_sem, es, c1, c2]
   ·have z2' : ¬ (e2 : Int) = 0 := by omega
    have g : Gd L (fun t => bindP (tariffT t) fun a r => bindP (endT r) fun _ _ => .ok a r) (L.map (·.1)) 0 a us e2 :=
     g1.bind (f := fun a r => bindP (endT r) fun _ _ => .ok a r) (g2.err (f := fun t _ _ => .ok a t) z2)
    have hr := g.rel.2 rfl
    have hall : allT tariffT (L.map (·.1)) = .err us.length e2 := by
     show (fun t => bindP (tariffT t) fun a r => bindP (endT r) fun _ _ => .ok a r) (L.map (·.1)) = _
     generalize (fun t => bindP (tariffT t) fun a r => bindP (endT r) fun _ _ => PR.ok a r) (L.map (·.1)) = x at hr ⊢
     cases x with
     | ok b q => exact absurd hr.2.2 z2
     | err m k => rw [hr.1, hr.2.1]
    rw [hall]
    obtain ⟨t, r, hus⟩ := ends_ne g1.spot.2.1
    subst hus
    have c3 := f_now (n := s.length) e2 g2.spot
    refine ⟨zTar, wd0, posV s.length L (r.length + 1), e2, wd0_ok _, tnar_zero, rfl, acall_fn rfl (af := a_billingref24_Tariff) rfl rfl ?_⟩
    simp only [tariffX] at c1
    simp only [hf, tokV] at c2 c3
    simp at c1 es c2 c3
    simp [List.replicate, go_sem, es, c1, c2, c3, nt' z2', zTarX]
theorem law_ParserTariffs (s : List UInt8) : acall mach n_billinglaw24_ParserTariffs [.str s] [] = some (.ret (.bool true) []) := by
 refine acall_fn rfl (af := a_billinglaw24_ParserTariffs) rfl rfl ?_
 have c1 := e_Tariff s
 obtain ⟨t, W, p, e, hW, hN, hV, c⟩ := f_Tariff s
 have c2 := up _ _ _ _ c
 have c3 := up _ _ _ _ (x_SameTariff 0 0 W t hW hN)
 rw [hV, tariffW0] at c1
 by_cases h : s.length > 1500
 ·have h' : (1500 : Int) < s.length := by omega
  simp [List.replicate, go_sem, h', e_awake24]
 ·have h' : ¬ (1500 : Int) < s.length := by omega
  simp only [tariffX, tariffW] at c1 c2 c3
  simp [List.replicate, go_sem, h', c1, c2, c3, e_awake24]
theorem all_parserTariffs (us : List V) (h : TyArgs Go.Proofs.Tryz.prog [9] us) : acall mach n_billinglaw24_ParserTariffs us [] = some (.ret (.bool true) []) := by
 obtain ⟨u, rfl, hu⟩ := h.one
 obtain ⟨l, rfl, _⟩ := arg_string (by kernel_rfl) hu
 exact law_ParserTariffs l
end Go.Am
