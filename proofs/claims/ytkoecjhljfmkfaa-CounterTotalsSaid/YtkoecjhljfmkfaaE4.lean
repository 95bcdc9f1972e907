/- Equations of adding to lists of counters. -/
import Derived.Test.YtkoecjhljfmkfaaE3
set_option linter.unusedSimpArgs false
namespace Go.Am
open Go Go.Pu

theorem l_place (l : List Ctr) (c : Ctr) (k : List It) (r : V) (hp : Heap) (hpe : hp = [[.sl false 5 (l.map cv)], (cv c).cells]) (hl : l.length ≤ 1000000)
    (hk : Run mach k (.exit 0) ⟨(.ptr 0 0 :: .ptr 1 0 :: .undef :: .undef :: .undef :: .undef :: .sl false 5 (l.map cv) :: .int .i64 l.length :: .int .i64 l.length :: .bool false :: .undef :: .undef :: .undef :: .undef :: .undef :: .undef :: .undef :: .undef :: .undef :: .undef :: .undef :: .undef :: .undef :: .undef :: .undef :: .undef :: .undef :: .undef :: .undef :: .undef :: []), hp⟩ (FinQ [.tmp 2, .tmp 3] 2 (.ret (.tup [.int .i64 l.length, .int .i64 l.length]) hp))) :
    ∀ (n i : Nat), i + n = l.length → r = .tup [.int .i64 ((i + (plc c (l.drop i)).1 : Nat) : Int), .int .i64 ((i + (plc c (l.drop i)).2 : Nat) : Int)] →
    Run mach (.c counter_Add_1_l1b :: .lp counter_Add_1_l1 :: k) .norm ⟨(.ptr 0 0 :: .ptr 1 0 :: .undef :: .undef :: .undef :: .undef :: .sl false 5 (l.map cv) :: .int .i64 l.length :: .int .i64 i :: .undef :: .undef :: .undef :: .undef :: .undef :: .undef :: .undef :: .undef :: .undef :: .undef :: .undef :: .undef :: .undef :: .undef :: .undef :: .undef :: .undef :: .undef :: .undef :: .undef :: .undef :: []), hp⟩ (FinQ [.tmp 2, .tmp 3] 2 (.ret r hp))
  | 0, i, hi, hr => by
    obtain rfl : i = l.length := by omega
    have e : l.drop l.length = [] := by simp
    rw [e] at hr
    subst hr
    unfold counter_Add_1_l1b
    simp [go_sem, plc]
    exact hk
  | n + 1, i, hi, hr => by
    have hil : i < l.length := by omega
    rw [List.drop_eq_getElem_cons hil, plc] at hr
    unfold counter_Add_1_l1b
    have hc : hnth hp 1 = (cv c).cells := by subst hpe; rfl
    have h2 : hp.take 2 = hp := by subst hpe; rfl
    have bt : ∀ {a b : Int}, a = b → (a == b) = true := fun h => beq_iff_eq.2 h
    have bf : ∀ {a b : Int}, ¬ a = b → (a == b) = false := fun h => beq_false_of_ne h
    by_cases h0 : ord l[i] c = 0
    · rw [if_pos h0] at hr
      subst hr
      simp [go_sem, hil, hc, h2, e_compare5, ctr_eta, bt h0, wrap_succ (show i < 4611686018427387904 by omega), cv]
    by_cases h1 : ord l[i] c = 1
    · rw [if_neg h0, if_pos h1] at hr
      subst hr
      simp [go_sem, hil, hc, h2, e_compare5, ctr_eta, bf h0, bt h1, wrap_succ (show i < 4611686018427387904 by omega), cv]
    · rw [if_neg h0, if_neg h1] at hr
      have ih := l_place l c k r hp hpe hl hk n (i + 1) (by omega) (by rw [hr]; simp only [Nat.add_assoc, Nat.add_comm 1])
      simp [go_sem, hil, hc, h2, e_compare5, ctr_eta, bf h0, bf h1, wrap_succ (show i < 4611686018427387904 by omega), cv]
      exact ih

theorem e_place (l : List Ctr) (c : Ctr) (hl : l.length ≤ 1000000) : acall mach n_counter_Add_1 [.ptr 0 0, .ptr 1 0] [[.sl false 5 (l.map cv)], (cv c).cells] = some (.ret (.tup [.int .i64 ((plc c l).1 : Int), .int .i64 ((plc c l).2 : Int)]) [[.sl false 5 (l.map cv)], (cv c).cells]) := by
  refine acall_fn rfl (af := a_counter_Add_1) rfl rfl ?_
  simp [List.replicate, go_sem]
  refine l_place l c _ (.tup [.int .i64 ((plc c l).1 : Int), .int .i64 ((plc c l).2 : Int)]) _ rfl hl ?_ l.length 0 (Nat.zero_add _) (by simp)
  simp [go_sem]

theorem e_placeX (l : List Ctr) (s k f u p : Int) (hl : l.length ≤ 1000000) : acall mach n_counter_Add_1 [.ptr 0 0, .ptr 1 0] [[.sl false 5 (l.map cv)], [.int .i64 s, .int .i64 k, .int .i64 f, .int .i64 u, .int .i64 p]] = some (.ret (.tup [.int .i64 ((plc ⟨s, k, f, u, p⟩ l).1 : Int), .int .i64 ((plc ⟨s, k, f, u, p⟩ l).2 : Int)]) [[.sl false 5 (l.map cv)], [.int .i64 s, .int .i64 k, .int .i64 f, .int .i64 u, .int .i64 p]]) := e_place l ⟨s, k, f, u, p⟩ hl

theorem plus_s (a c : Ctr) : (plus a c).s = c.s := rfl
theorem plus_k (a c : Ctr) : (plus a c).k = c.k := rfl
theorem plus_f (a c : Ctr) : (plus a c).f = c.f := rfl
theorem plus_u (a c : Ctr) : (plus a c).u = c.u + a.u := rfl
theorem plus_p (a c : Ctr) : (plus a c).p = c.p + a.p := rfl

theorem e_Add (l : List Ctr) (c : Ctr) (hl : l.length ≤ 900000) : acall mach n_counter_Add [.sl false 5 (l.map cv), cv c] [] = some (.ret (.tup [.sl true 5 ((addS l c).1.map cv), .int .i64 (addS l c).2]) []) := by
  refine acall_fn rfl (af := a_counter_Add) rfl rfl ?_
  have hl' : l.length ≤ 1000000 := by omega
  unfold addS
  by_cases h1 : chk l = true
  rotate_left
  · rw [if_pos (.inl (by simpa using h1))]
    simp [List.replicate, go_sem, e_Check _ _ hl', h1, cv]
  by_cases h2 : keyOk c = true
  rotate_left
  · rw [if_pos (.inr (by simpa using h2))]
    simp [List.replicate, go_sem, e_Check _ _ hl', h1, e_permitted5, ctr_eta, h2, cv]
  rw [if_neg (by simp [h1, h2])]
  by_cases h3 : rngOk c = true
  rotate_left
  · rw [if_pos (by simpa using h3)]
    simp [List.replicate, go_sem, e_Check _ _ hl', h1, e_permitted5, e_ranged5, ctr_eta, h2, h3, cv]
  rw [if_neg (by simp [h3])]
  have hcan := (chk_iff l).1 h1
  have nt : ∀ {a b : Int}, ¬ a = b → (a != b) = true := fun h => by simpa using h
  have nf : ∀ {a b : Int}, a = b → (a != b) = false := fun h => by simpa using h
  have hT : List.take l.length (l.map cv) = l.map cv := by rw [List.take_of_length_le]; simp
  rcases plc_addL c l with ⟨p1, p2, p3⟩ | ⟨hlt, p1, p2, p3⟩
  · have p1 := p1.symm
    have hs : plus (getC l (key c)) c = c := by rw [p3 hcan]; simp [plus, key]
    have hle : (plc c l).1 ≤ l.length := by have := plc_le c l; omega
    have hb1 : min (plc c l).1 l.length * 40 ≤ 140737488355328 := by omega
    rw [hs, if_neg (by simp [h3]), p2]
    by_cases h4 : c.u = 0
    · by_cases h5 : c.p = 0
      · have hn : nz c = [] := by simp [nz, nul, h4, h5]
        simp [List.replicate, go_sem, e_Check _ _ hl', h1, e_permitted5, e_ranged5, ctr_eta, h2, h3, cv, e_placeX _ _ _ _ _ _ hl', p1, hle, nf h4, nf h5, hn, hb1, hT, List.map_take, List.map_drop]
        omega
      · have hn : nz c = [c] := by simp [nz, nul, h4, h5]
        simp [List.replicate, go_sem, e_Check _ _ hl', h1, e_permitted5, e_ranged5, ctr_eta, h2, h3, cv, e_placeX _ _ _ _ _ _ hl', p1, hle, nf h4, nt h5, hn, hb1, hT, List.map_take, List.map_drop]
        omega
    · have hn : nz c = [c] := by simp [nz, nul, h4]
      simp [List.replicate, go_sem, e_Check _ _ hl', h1, e_permitted5, e_ranged5, ctr_eta, h2, h3, cv, e_placeX _ _ _ _ _ _ hl', p1, hle, nt h4, hn, hb1, hT, List.map_take, List.map_drop]
      omega
  · have hr := rngOk_iff.1 h3
    have hx := rngOk_iff.1 (okc_rng (hcan.1 _ (List.getElem_mem hlt)))
    have w1 : IntKind.wrap .i64 (c.u + l[(plc c l).1].u) = c.u + l[(plc c l).1].u := wrap_i64 (by omega)
    have w2 : IntKind.wrap .i64 (c.p + l[(plc c l).1].p) = c.p + l[(plc c l).1].p := wrap_i64 (by omega)
    rw [p3]
    have hb1 : min (plc c l).1 l.length * 40 ≤ 140737488355328 := by omega
    have hla : ((plc c l).1 : Int) < ((plc c l).1 : Int) + 1 := by omega
    have e1 : (Ctr.mk c.s c.k c.f (c.u + l[(plc c l).1].u) (c.p + l[(plc c l).1].p)) = plus l[(plc c l).1] c := rfl
    by_cases h6 : rngOk (plus l[(plc c l).1] c) = true
    rotate_left
    · rw [if_pos (by simpa using h6)]
      simp [List.replicate, go_sem, e_Check _ _ hl', h1, e_permitted5, e_ranged5, ctr_eta, h2, h3, cv, e_placeX _ _ _ _ _ _ hl', p1, hlt, hla, w1, w2, e1, h6]
    rw [if_neg (by simp [h6]), p2]
    by_cases h4 : c.u + l[(plc c l).1].u = 0
    · by_cases h5 : c.p + l[(plc c l).1].p = 0
      · have hn : nz (plus l[(plc c l).1] c) = [] := by simp [nz, nul, plus, h4, h5]
        simp [List.replicate, go_sem, e_Check _ _ hl', h1, e_permitted5, e_ranged5, ctr_eta, h2, h3, cv, e_placeX _ _ _ _ _ _ hl', p1, hlt, hla, w1, w2, e1, h6, nf h4, nf h5, hn, hb1, hT, List.map_take, List.map_drop]
        omega
      · have hn : nz (plus l[(plc c l).1] c) = [plus l[(plc c l).1] c] := by simp [nz, nul, plus, h4, h5]
        simp [List.replicate, go_sem, e_Check _ _ hl', h1, e_permitted5, e_ranged5, ctr_eta, h2, h3, cv, e_placeX _ _ _ _ _ _ hl', p1, hlt, hla, w1, w2, e1, h6, nf h4, nt h5, hn, hb1, hT, List.map_take, List.map_drop, plus_s, plus_k, plus_f, plus_u, plus_p]
        omega
    · have hn : nz (plus l[(plc c l).1] c) = [plus l[(plc c l).1] c] := by simp [nz, nul, plus, h4]
      simp [List.replicate, go_sem, e_Check _ _ hl', h1, e_permitted5, e_ranged5, ctr_eta, h2, h3, cv, e_placeX _ _ _ _ _ _ hl', p1, hlt, hla, w1, w2, e1, h6, nt h4, hn, hb1, hT, List.map_take, List.map_drop, plus_s, plus_k, plus_f, plus_u, plus_p]
      omega
end Go.Am
