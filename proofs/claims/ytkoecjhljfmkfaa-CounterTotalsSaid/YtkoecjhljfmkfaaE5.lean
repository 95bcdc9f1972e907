/- Equations of the reference's adding to lists of counters. -/
import Derived.Test.YtkoecjhljfmkfaaE4
set_option linter.unusedSimpArgs false
namespace Go.Am
open Go Go.Pu

def ltP (n : Ctr) (l : List Ctr) : List Ctr := l.filter (fun x => decide (ord x n < 0))
def gtP (n : Ctr) (l : List Ctr) : List Ctr := l.filter (fun x => decide (0 < ord x n))

theorem l_radd1 (l : List Ctr) (n : Ctr) (k : List It) (r : V) (hl : l.length ≤ 1000000)
    (hk : Run mach k (.exit 0) ⟨(.sl false 5 (l.map cv) :: .undef :: .undef :: .undef :: .undef :: .undef :: .box (cv n).cells :: .sl true 5 ((ltP n l).map cv) :: .int .i64 l.length :: .undef :: .undef :: .undef :: .undef :: .undef :: .undef :: .undef :: .undef :: .undef :: .undef :: .undef :: .undef :: .undef :: .undef :: .undef :: .undef :: .undef :: .undef :: .undef :: .undef :: .undef :: .undef :: .undef :: .undef :: .undef :: .undef :: .undef :: .undef :: .undef :: .undef :: .undef :: .undef :: .undef :: .undef :: .undef :: .int .i64 l.length :: .sl false 5 (l.map cv) :: .int .i64 l.length :: .bool false :: .undef :: .undef :: .undef :: .undef :: .undef :: .undef :: .undef :: .undef :: .undef :: .undef :: .undef :: .undef :: .undef :: .undef :: .undef :: .undef :: .undef :: .undef :: .undef :: .undef :: .undef :: .undef :: .undef :: .undef :: .undef :: .undef :: .undef :: .undef :: .undef :: .undef :: .undef :: .undef :: .undef :: .undef :: .undef :: .undef :: .undef :: .undef :: .undef :: .undef :: .undef :: .undef :: .undef :: .undef :: .undef :: .undef :: .undef :: .undef :: .undef :: []), []⟩ (FinQ [.tmp 4, .tmp 5] 0 (.ret r []))) :
    ∀ (m i : Nat) (acc : List Ctr), i + m = l.length → acc.length ≤ i → acc ++ ltP n (l.drop i) = ltP n l →
    Run mach (.c billingref32_Add_l1b :: .lp billingref32_Add_l1 :: k) .norm ⟨(.sl false 5 (l.map cv) :: .undef :: .undef :: .undef :: .undef :: .undef :: .box (cv n).cells :: .sl true 5 (acc.map cv) :: .int .i64 i :: .undef :: .undef :: .undef :: .undef :: .undef :: .undef :: .undef :: .undef :: .undef :: .undef :: .undef :: .undef :: .undef :: .undef :: .undef :: .undef :: .undef :: .undef :: .undef :: .undef :: .undef :: .undef :: .undef :: .undef :: .undef :: .undef :: .undef :: .undef :: .undef :: .undef :: .undef :: .undef :: .undef :: .undef :: .undef :: .undef :: .undef :: .undef :: .undef :: .undef :: .undef :: .undef :: .undef :: .undef :: .undef :: .undef :: .undef :: .undef :: .undef :: .undef :: .undef :: .undef :: .undef :: .undef :: .undef :: .undef :: .undef :: .undef :: .undef :: .undef :: .undef :: .undef :: .undef :: .undef :: .undef :: .undef :: .undef :: .undef :: .undef :: .undef :: .undef :: .undef :: .undef :: .undef :: .undef :: .undef :: .undef :: .undef :: .undef :: .undef :: .undef :: .undef :: .undef :: .undef :: .undef :: .undef :: .undef :: .undef :: []), []⟩ (FinQ [.tmp 4, .tmp 5] 0 (.ret r []))
  | 0, i, acc, hi, ha, he => by
    obtain rfl : i = l.length := by omega
    have : acc = ltP n l := by rw [← he]; simp [ltP]
    subst this
    unfold billingref32_Add_l1b
    simp [go_sem]
    exact hk
  | m + 1, i, acc, hi, ha, he => by
    have hil : i < l.length := by omega
    rw [List.drop_eq_getElem_cons hil] at he
    simp only [ltP, List.filter_cons] at he
    unfold billingref32_Add_l1b
    by_cases hq : ord l[i] n < 0
    · have ih := l_radd1 l n k r hl hk m (i + 1) (acc ++ [l[i]]) (by omega) (by simp; omega) (by simpa [ltP, hq] using he)
      simp only [List.map_append, List.map_cons, List.map_nil, cv] at ih
      simp [go_sem, hil, hq, e_order5, ctr_eta, wrap_succ (show i < 4611686018427387904 by omega), cv]
      exact ⟨by omega, ih⟩
    · have ih := l_radd1 l n k r hl hk m (i + 1) acc (by omega) (by omega) (by simpa [ltP, hq] using he)
      simp [go_sem, hil, hq, e_order5, ctr_eta, wrap_succ (show i < 4611686018427387904 by omega), cv]
      exact ih

theorem l_radd2 (l : List Ctr) (n : Ctr) (k : List It) (r : V) (a0 : List Ctr) (hl : l.length ≤ 1000000) (hla : a0.length ≤ 1000001)
    (hk : Run mach k (.exit 2) ⟨(.sl false 5 (l.map cv) :: .undef :: .undef :: .undef :: .undef :: .undef :: .box (cv n).cells :: .sl true 5 ((a0 ++ gtP n l).map cv) :: .undef :: .int .i64 l.length :: .undef :: .undef :: .undef :: .undef :: .undef :: .undef :: .undef :: .undef :: .undef :: .undef :: .undef :: .undef :: .undef :: .undef :: .undef :: .undef :: .undef :: .undef :: .undef :: .undef :: .undef :: .undef :: .undef :: .undef :: .undef :: .undef :: .undef :: .undef :: .undef :: .undef :: .undef :: .undef :: .undef :: .undef :: .undef :: .undef :: .undef :: .undef :: .undef :: .undef :: .undef :: .undef :: .undef :: .undef :: .undef :: .undef :: .undef :: .undef :: .undef :: .undef :: .undef :: .undef :: .undef :: .undef :: .undef :: .undef :: .undef :: .undef :: .undef :: .undef :: .undef :: .undef :: .undef :: .undef :: .undef :: .undef :: .int .i64 l.length :: .sl false 5 (l.map cv) :: .int .i64 l.length :: .bool false :: .undef :: .undef :: .undef :: .undef :: .undef :: .undef :: .undef :: .undef :: .undef :: .undef :: .undef :: .undef :: .undef :: .undef :: .undef :: .undef :: .undef :: []), []⟩ (FinQ [.tmp 4, .tmp 5] 0 (.ret r []))) :
    ∀ (m i : Nat) (acc : List Ctr), i + m = l.length → acc.length ≤ a0.length + i → acc ++ gtP n (l.drop i) = a0 ++ gtP n l →
    Run mach (.c billingref32_Add_l2b :: .lp billingref32_Add_l2 :: k) .norm ⟨(.sl false 5 (l.map cv) :: .undef :: .undef :: .undef :: .undef :: .undef :: .box (cv n).cells :: .sl true 5 (acc.map cv) :: .undef :: .int .i64 i :: .undef :: .undef :: .undef :: .undef :: .undef :: .undef :: .undef :: .undef :: .undef :: .undef :: .undef :: .undef :: .undef :: .undef :: .undef :: .undef :: .undef :: .undef :: .undef :: .undef :: .undef :: .undef :: .undef :: .undef :: .undef :: .undef :: .undef :: .undef :: .undef :: .undef :: .undef :: .undef :: .undef :: .undef :: .undef :: .undef :: .undef :: .undef :: .undef :: .undef :: .undef :: .undef :: .undef :: .undef :: .undef :: .undef :: .undef :: .undef :: .undef :: .undef :: .undef :: .undef :: .undef :: .undef :: .undef :: .undef :: .undef :: .undef :: .undef :: .undef :: .undef :: .undef :: .undef :: .undef :: .undef :: .undef :: .undef :: .undef :: .undef :: .undef :: .undef :: .undef :: .undef :: .undef :: .undef :: .undef :: .undef :: .undef :: .undef :: .undef :: .undef :: .undef :: .undef :: .undef :: .undef :: .undef :: .undef :: []), []⟩ (FinQ [.tmp 4, .tmp 5] 0 (.ret r []))
  | 0, i, acc, hi, ha, he => by
    obtain rfl : i = l.length := by omega
    have : acc = a0 ++ gtP n l := by rw [← he]; simp [gtP]
    subst this
    unfold billingref32_Add_l2b
    simp only [List.map_append] at hk
    simp [go_sem]
    exact hk
  | m + 1, i, acc, hi, ha, he => by
    have hil : i < l.length := by omega
    rw [List.drop_eq_getElem_cons hil] at he
    simp only [gtP, List.filter_cons] at he
    unfold billingref32_Add_l2b
    by_cases hq : 0 < ord l[i] n
    · have ih := l_radd2 l n k r a0 hl hla hk m (i + 1) (acc ++ [l[i]]) (by omega) (by simp; omega) (by simpa [gtP, hq] using he)
      simp only [List.map_append, List.map_cons, List.map_nil, cv] at ih
      simp [go_sem, hil, hq, e_order5, ctr_eta, wrap_succ (show i < 4611686018427387904 by omega), cv]
      exact ⟨by omega, ih⟩
    · have ih := l_radd2 l n k r a0 hl hla hk m (i + 1) acc (by omega) (by omega) (by simpa [gtP, hq] using he)
      simp [go_sem, hil, hq, e_order5, ctr_eta, wrap_succ (show i < 4611686018427387904 by omega), cv]
      exact ih

theorem e_rAdd (l : List Ctr) (c : Ctr) (hl : l.length ≤ 900000) : acall mach n_billingref32_Add [.sl false 5 (l.map cv), cv c] [] = some (.ret (.tup [.sl true 5 ((addS l c).1.map cv), .int .i64 (addS l c).2]) []) := by
  refine acall_fn rfl (af := a_billingref32_Add) rfl rfl ?_
  have hl' : l.length ≤ 1000000 := by omega
  unfold addS
  by_cases h1 : chk l = true
  rotate_left
  · rw [if_pos (.inl (by simpa using h1))]
    simp [List.replicate, go_sem, e_rCheck _ _ hl', h1, cv]
  by_cases h2 : keyOk c = true
  rotate_left
  · rw [if_pos (.inr (by simpa using h2))]
    simp [List.replicate, go_sem, e_rCheck _ _ hl', h1, e_keyed5, ctr_eta, h2, cv]
  rw [if_neg (by simp [h1, h2])]
  by_cases h3 : rngOk c = true
  rotate_left
  · rw [if_pos (by simpa using h3)]
    simp [List.replicate, go_sem, e_rCheck _ _ hl', h1, e_keyed5, e_within5, ctr_eta, h2, h3, cv]
  rw [if_neg (by simp [h3])]
  have hcan := (chk_iff l).1 h1
  have nt : ∀ {a b : Int}, ¬ a = b → (a != b) = true := fun h => by simpa using h
  have nf : ∀ {a b : Int}, a = b → (a != b) = false := fun h => by simpa using h
  have hr := rngOk_iff.1 h3
  have hx := rngOk_iff.1 (getC_rng hcan c)
  have hg := (getC_keq l (key c)).trans (key_keq c)
  have hR := addR_eq (c := c) hcan
  unfold addR at hR
  have e' : getC l ⟨c.s, c.k, c.f, 0, 0⟩ = getC l (key c) := rfl
  generalize getC l (key c) = g at *
  have w1 : IntKind.wrap .i64 (g.u + c.u) = g.u + c.u := wrap_i64 (by omega)
  have w2 : IntKind.wrap .i64 (g.p + c.p) = g.p + c.p := wrap_i64 (by omega)
  have e1 : (Ctr.mk g.s g.k g.f (g.u + c.u) (g.p + c.p)) = plus g c := by
    obtain ⟨k1, k2, k3⟩ := hg
    unfold plus
    rw [k1, k2, k3, Int.add_comm g.u, Int.add_comm g.p]
  by_cases h6 : rngOk (plus g c) = true
  rotate_left
  · rw [if_pos (by simpa using h6)]
    simp [List.replicate, go_sem, e_rCheck _ _ hl', h1, e_keyed5, e_within5, ctr_eta, h2, h3, cv, e_rGet _ _ _ _ _ hl', e', w1, w2, e1, h6]
  rw [if_neg (by simp [h6]), ← hR]
  have hc5 : (cv (plus g c)).cells = [.int .i64 g.s, .int .i64 g.k, .int .i64 g.f, .int .i64 (g.u + c.u), .int .i64 (g.p + c.p)] := by rw [← e1]; rfl
  simp [List.replicate, go_sem, e_rCheck _ _ hl', h1, e_keyed5, e_within5, ctr_eta, h2, h3, cv, e_rGet _ _ _ _ _ hl', e', w1, w2, e1, h6]
  rw [← hc5]
  refine l_radd1 l (plus g c) _ _ hl' ?_ l.length 0 [] (Nat.zero_add _) (Nat.le_refl _) rfl
  rw [hc5]
  have hlt : (ltP (plus g c) l).length ≤ l.length := List.length_filter_le _ _
  have e7 : (ltP (plus g c) l).map cv ++ [V.agg [.int .i64 g.s, .int .i64 g.k, .int .i64 g.f, .int .i64 (g.u + c.u), .int .i64 (g.p + c.p)]] = (ltP (plus g c) l ++ [plus g c]).map cv := by rw [List.map_append, ← e1]; rfl
  by_cases h4 : g.u + c.u = 0
  · by_cases h5 : g.p + c.p = 0
    · have hn : nz (plus g c) = [] := nz_nil (show c.u + g.u = 0 by omega) (show c.p + g.p = 0 by omega)
      simp [go_sem, nf h4, nf h5]
      rw [← hc5]
      refine l_radd2 l (plus g c) _ _ (ltP (plus g c) l) hl' (by omega) ?_ l.length 0 (ltP (plus g c) l) (Nat.zero_add _) (Nat.le_refl _) (by simp)
      simp [go_sem, hn, ltP, gtP]
    · have hn : nz (plus g c) = [plus g c] := nz_one (fun h => h5 (by have : c.p + g.p = 0 := h.2; omega))
      simp [go_sem, nf h4, nt h5]
      refine ⟨by omega, ?_⟩
      rw [e7, ← hc5]
      refine l_radd2 l (plus g c) _ _ (ltP (plus g c) l ++ [plus g c]) hl' (by simp; omega) ?_ l.length 0 (ltP (plus g c) l ++ [plus g c]) (Nat.zero_add _) (Nat.le_refl _) (by simp)
      simp [go_sem, hn, ltP, gtP]
  · have hn : nz (plus g c) = [plus g c] := nz_one (fun h => h4 (by have : c.u + g.u = 0 := h.1; omega))
    simp [go_sem, nt h4]
    refine ⟨by omega, ?_⟩
    rw [e7, ← hc5]
    refine l_radd2 l (plus g c) _ _ (ltP (plus g c) l ++ [plus g c]) hl' (by simp; omega) ?_ l.length 0 (ltP (plus g c) l ++ [plus g c]) (Nat.zero_add _) (Nat.le_refl _) (by simp)
    simp [go_sem, hn, ltP, gtP]
end Go.Am
