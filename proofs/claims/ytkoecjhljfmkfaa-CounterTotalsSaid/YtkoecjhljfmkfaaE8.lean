/- The law of totals, on the machine; the statements over all arguments. -/
import Derived.Test.YtkoecjhljfmkfaaE7
set_option linter.unusedSimpArgs false
namespace Go.Am
open Go Go.Pu

set_option maxRecDepth 8000 in
theorem l_tot1 (l : List Ctr) (k : List It) (hl : l.length ≤ 60)
    (hk : ∀ m, Pu.Can m → m.length ≤ 60 → Run mach k (.exit 0) ⟨(.sl false 5 (l.map cv) :: .undef :: .undef :: .sl false 5 (m.map cv) :: .int .i64 (tot Ctr.u m) :: .int .i64 (tot Ctr.p m) :: .int .i64 l.length :: .undef :: .undef :: .undef :: .undef :: .undef :: .undef :: .undef :: .int .i64 l.length :: .sl false 5 (l.map cv) :: .int .i64 l.length :: .bool false :: .undef :: .undef :: .undef :: .undef :: .undef :: .undef :: .undef :: .undef :: .undef :: .undef :: .undef :: .undef :: .undef :: .undef :: .undef :: .undef :: .undef :: .undef :: .undef :: .undef :: .undef :: .undef :: .undef :: .undef :: .undef :: .undef :: .undef :: .undef :: .undef :: .undef :: .undef :: .undef :: .undef :: .undef :: .undef :: .undef :: .undef :: .undef :: .undef :: .undef :: .undef :: .undef :: .undef :: .undef :: .undef :: .undef :: .undef :: .undef :: .undef :: .undef :: .undef :: .undef :: .undef :: .undef :: .undef :: .undef :: .undef :: .undef :: .undef :: .undef :: .undef :: []), []⟩ (FinQ [.tmp 2] 0 (.ret (.bool true) []))) :
    ∀ (n i : Nat) (m : List Ctr), i + n = l.length → Pu.Can m → m.length ≤ i →
    Run mach (.c billinglaw32_CounterTotals_l1b :: .lp billinglaw32_CounterTotals_l1 :: k) .norm ⟨(.sl false 5 (l.map cv) :: .undef :: .undef :: .sl false 5 (m.map cv) :: .int .i64 (tot Ctr.u m) :: .int .i64 (tot Ctr.p m) :: .int .i64 i :: .undef :: .undef :: .undef :: .undef :: .undef :: .undef :: .undef :: .undef :: .undef :: .undef :: .undef :: .undef :: .undef :: .undef :: .undef :: .undef :: .undef :: .undef :: .undef :: .undef :: .undef :: .undef :: .undef :: .undef :: .undef :: .undef :: .undef :: .undef :: .undef :: .undef :: .undef :: .undef :: .undef :: .undef :: .undef :: .undef :: .undef :: .undef :: .undef :: .undef :: .undef :: .undef :: .undef :: .undef :: .undef :: .undef :: .undef :: .undef :: .undef :: .undef :: .undef :: .undef :: .undef :: .undef :: .undef :: .undef :: .undef :: .undef :: .undef :: .undef :: .undef :: .undef :: .undef :: .undef :: .undef :: .undef :: .undef :: .undef :: .undef :: .undef :: .undef :: .undef :: []), []⟩ (FinQ [.tmp 2] 0 (.ret (.bool true) []))
  | 0, i, m, hi, hm, hml => by
    obtain rfl : i = l.length := by omega
    unfold billinglaw32_CounterTotals_l1b
    simp [go_sem]
    exact hk m hm (by omega)
  | n + 1, i, m, hi, hm, hml => by
    have hil : i < l.length := by omega
    have hml' : m.length ≤ 900000 := by omega
    have nt : ∀ {a b : Int}, ¬ a = b → (a != b) = true := fun h => by simpa using h
    have nf : ∀ {a b : Int}, a = b → (a != b) = false := fun h => by simpa using h
    unfold billinglaw32_CounterTotals_l1b
    by_cases hz : (addS m l[i]).2 = 0
    · obtain ⟨_, _, hr, _, he⟩ := addS_ok hz
      have hc := addS_can hz
      have hlen := addS_length m l[i]
      have ih := l_tot1 l k hl hk n (i + 1) (addS m l[i]).1 (by omega) hc (by omega)
      have eu : tot Ctr.u (addS m l[i]).1 = tot Ctr.u m + l[i].u := by rw [he]; exact tot_addL_u
      have ep : tot Ctr.p (addS m l[i]).1 = tot Ctr.p m + l[i].p := by rw [he]; exact tot_addL_p
      have b1 := tot_bound_u hc.1
      have b2 := tot_bound_p hc.1
      have hl60 : (addS m l[i]).1.length ≤ 60 := by omega
      rw [eu] at b1
      rw [ep] at b2
      rw [eu, ep] at ih
      have w1 : IntKind.wrap .i64 (tot Ctr.u m + l[i].u) = tot Ctr.u m + l[i].u := wrap_i64 (by omega)
      have w2 : IntKind.wrap .i64 (tot Ctr.p m + l[i].p) = tot Ctr.p m + l[i].p := wrap_i64 (by omega)
      simp [go_sem, hil, e_Add5 _ _ _ _ _ _ hml', ctr_eta, nf hz, w1, w2, wrap_succ (show i < 4611686018427387904 by omega), cv]
      exact ih
    · have ih := l_tot1 l k hl hk n (i + 1) m (by omega) hm (by omega)
      simp [go_sem, hil, e_Add5 _ _ _ _ _ _ hml', ctr_eta, nt hz, wrap_succ (show i < 4611686018427387904 by omega), cv]
      exact ih

set_option maxRecDepth 8000 in
theorem l_tot2 (m : List Ctr) (k : List It) (hm : Pu.Can m) (hl : m.length ≤ 60)
    (hk : Run mach k (.exit 2) ⟨(.undef :: .undef :: .undef :: .sl false 5 (m.map cv) :: .int .i64 0 :: .int .i64 0 :: .undef :: .undef :: .undef :: .int .i64 m.length :: .undef :: .undef :: .undef :: .undef :: .undef :: .undef :: .undef :: .undef :: .undef :: .undef :: .undef :: .undef :: .undef :: .undef :: .undef :: .undef :: .undef :: .undef :: .undef :: .undef :: .undef :: .undef :: .undef :: .undef :: .undef :: .undef :: .undef :: .undef :: .undef :: .undef :: .undef :: .undef :: .undef :: .undef :: .undef :: .undef :: .int .i64 m.length :: .sl false 5 (m.map cv) :: .int .i64 m.length :: .bool false :: .undef :: .undef :: .undef :: .undef :: .undef :: .undef :: .undef :: .undef :: .undef :: .undef :: .undef :: .undef :: .undef :: .undef :: .undef :: .undef :: .undef :: .undef :: .undef :: .undef :: .undef :: .undef :: .undef :: .undef :: .undef :: .undef :: .undef :: .undef :: .undef :: []), []⟩ (FinQ [.tmp 2] 0 (.ret (.bool true) []))) :
    ∀ (n i : Nat), i + n = m.length →
    Run mach (.c billinglaw32_CounterTotals_l2b :: .lp billinglaw32_CounterTotals_l2 :: k) .norm ⟨(.undef :: .undef :: .undef :: .sl false 5 (m.map cv) :: .int .i64 (tot Ctr.u (m.drop i)) :: .int .i64 (tot Ctr.p (m.drop i)) :: .undef :: .undef :: .undef :: .int .i64 i :: .undef :: .undef :: .undef :: .undef :: .undef :: .undef :: .undef :: .undef :: .undef :: .undef :: .undef :: .undef :: .undef :: .undef :: .undef :: .undef :: .undef :: .undef :: .undef :: .undef :: .undef :: .undef :: .undef :: .undef :: .undef :: .undef :: .undef :: .undef :: .undef :: .undef :: .undef :: .undef :: .undef :: .undef :: .undef :: .undef :: .undef :: .undef :: .undef :: .undef :: .undef :: .undef :: .undef :: .undef :: .undef :: .undef :: .undef :: .undef :: .undef :: .undef :: .undef :: .undef :: .undef :: .undef :: .undef :: .undef :: .undef :: .undef :: .undef :: .undef :: .undef :: .undef :: .undef :: .undef :: .undef :: .undef :: .undef :: .undef :: .undef :: []), []⟩ (FinQ [.tmp 2] 0 (.ret (.bool true) []))
  | 0, i, hi => by
    obtain rfl : i = m.length := by omega
    have e : m.drop m.length = [] := by simp
    rw [e]
    unfold billinglaw32_CounterTotals_l2b
    simp [go_sem, tot]
    exact hk
  | n + 1, i, hi => by
    have hil : i < m.length := by omega
    have ih := l_tot2 m k hm hl hk n (i + 1) (by omega)
    have hd : ∀ c ∈ m.drop (i + 1), okc c = true := fun c hc => hm.1 c (List.mem_of_mem_drop hc)
    have b1 := tot_bound_u hd
    have b2 := tot_bound_p hd
    have b3 : (m.drop (i + 1)).length ≤ 60 := by simp; omega
    rw [List.drop_eq_getElem_cons hil]
    unfold billinglaw32_CounterTotals_l2b
    generalize m.drop (i + 1) = d at *
    have e1 : ∀ a b : Int, a + b - a = b := fun a b => by omega
    have w1 : IntKind.wrap .i64 (tot Ctr.u d) = tot Ctr.u d := wrap_i64 (by omega)
    have w2 : IntKind.wrap .i64 (tot Ctr.p d) = tot Ctr.p d := wrap_i64 (by omega)
    simp [go_sem, hil, tot, e1, w1, w2, wrap_succ (show i < 4611686018427387904 by omega), cv]
    exact ih

set_option maxRecDepth 8000 in
theorem law_totals (l : List Ctr) : acall mach n_billinglaw32_CounterTotals [.sl false 5 (l.map cv)] [] = some (.ret (.bool true) []) := by
  refine acall_fn rfl (af := a_billinglaw32_CounterTotals) rfl rfl ?_
  by_cases hl : l.length ≤ 60
  rotate_left
  · have h2 : (60 : Int) < l.length := by omega
    simp [List.replicate, go_sem, h2, e_awake]
  have h2 : ¬ (60 : Int) < l.length := by omega
  simp [List.replicate, go_sem, h2]
  refine l_tot1 l _ hl (fun m hm hml => ?_) l.length 0 [] (Nat.zero_add _) ⟨fun c h => (by cases h), List.Pairwise.nil⟩ (Nat.le_refl _)
  simp [go_sem]
  have hchk : chk m = true := (chk_iff m).2 hm
  refine l_tot2 m _ hm hml ?_ m.length 0 (Nat.zero_add _)
  simp [go_sem, e_Check _ _ (show m.length ≤ 1000000 by omega), hchk, e_awake]

theorem all_counterGets (us : List V) (h : TyArgs Go.Proofs.Try.prog Go.Proofs.Try.f4.params.toList us) : acall mach 4 us [] = some (.ret (.bool true) []) := by
  obtain ⟨u, v, w, rfl, h1, h2, h3⟩ := TyArgs.three h
  obtain ⟨l, rfl⟩ := arg_ctrs h1
  obtain ⟨a, b, c, rfl⟩ := arg_int3 h2
  obtain ⟨n, rfl, _⟩ := arg_int u3 h3
  exact law_gets l a b c n
theorem all_counterAdds (us : List V) (h : TyArgs Go.Proofs.Try.prog Go.Proofs.Try.f5.params.toList us) : acall mach 5 us [] = some (.ret (.bool true) []) := by
  obtain ⟨u, v, rfl, h1, h2⟩ := TyArgs.two h
  obtain ⟨l, rfl⟩ := arg_ctrs h1
  obtain ⟨c, rfl⟩ := arg_ctr h2
  exact law_adds l c
theorem all_counterOne (us : List V) (h : TyArgs Go.Proofs.Try.prog Go.Proofs.Try.f6.params.toList us) : acall mach 6 us [] = some (.ret (.bool true) []) := by
  obtain ⟨u, v, w, rfl, h1, h2, h3⟩ := TyArgs.three h
  obtain ⟨l, rfl⟩ := arg_ctrs h1
  obtain ⟨c, rfl⟩ := arg_ctr h2
  obtain ⟨a, b, d, rfl⟩ := arg_int3 h3
  exact law_one l c a b d
theorem all_counterOrder (us : List V) (h : TyArgs Go.Proofs.Try.prog Go.Proofs.Try.f7.params.toList us) : acall mach 7 us [] = some (.ret (.bool true) []) := by
  obtain ⟨u, v, rfl, h1, h2⟩ := TyArgs.two h
  obtain ⟨l, rfl⟩ := arg_ctrs h1
  obtain ⟨c, d, rfl⟩ := arg_ctr2 h2
  exact law_order l c d
theorem all_counterTotals (us : List V) (h : TyArgs Go.Proofs.Try.prog Go.Proofs.Try.f8.params.toList us) : acall mach 8 us [] = some (.ret (.bool true) []) := by
  obtain ⟨u, rfl, h1⟩ := TyArgs.one h
  obtain ⟨l, rfl⟩ := arg_ctrs h1
  exact law_totals l
end Go.Am
