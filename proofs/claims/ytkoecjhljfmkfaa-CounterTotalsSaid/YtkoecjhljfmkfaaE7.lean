/- The laws of chapter 32 but the first, on the machine. -/
import Derived.Test.YtkoecjhljfmkfaaE6
set_option linter.unusedSimpArgs false
namespace Go.Am
open Go Go.Pu

theorem u37 : Go.Proofs.Try.prog.underlying 37 = some (.array 2 27) := by kernel_rfl
theorem arg_ctr2 {u : V} (h : u = mkEl Go.Proofs.Try.prog 37 u.cells ∧ ∃ f, TyC Go.Proofs.Try.prog f 37 u.cells) : ∃ a b : Ctr, u = .agg ((cv a).cells ++ (cv b).cells) := by
  obtain ⟨h1, f, h2⟩ := h
  obtain ⟨g, _, hf⟩ := tyc_array u37 h2
  obtain ⟨x1, y1, e1, r1, hf⟩ := hf.cons
  obtain ⟨x2, y2, rfl, r2, hf⟩ := hf.cons
  obtain rfl := hf.nil
  obtain ⟨a, rfl⟩ := tyc_ctr r1
  obtain ⟨b, rfl⟩ := tyc_ctr r2
  rw [e1, mkEl_agg (by kernel_rfl)] at h1
  exact ⟨a, b, by simpa using h1⟩

theorem e_Add5 (l : List Ctr) (s k f u p : Int) (hl : l.length ≤ 900000) : acall mach n_counter_Add [.sl false 5 (l.map cv), .agg [.int .i64 s, .int .i64 k, .int .i64 f, .int .i64 u, .int .i64 p]] [] = some (.ret (.tup [.sl true 5 ((addS l ⟨s, k, f, u, p⟩).1.map cv), .int .i64 (addS l ⟨s, k, f, u, p⟩).2]) []) := e_Add l ⟨s, k, f, u, p⟩ hl
theorem e_rAdd5 (l : List Ctr) (s k f u p : Int) (hl : l.length ≤ 900000) : acall mach n_billingref32_Add [.sl false 5 (l.map cv), .agg [.int .i64 s, .int .i64 k, .int .i64 f, .int .i64 u, .int .i64 p]] [] = some (.ret (.tup [.sl true 5 ((addS l ⟨s, k, f, u, p⟩).1.map cv), .int .i64 (addS l ⟨s, k, f, u, p⟩).2]) []) := e_rAdd l ⟨s, k, f, u, p⟩ hl

theorem law_adds (l : List Ctr) (c : Ctr) : acall mach n_billinglaw32_CounterAdds [.sl false 5 (l.map cv), cv c] [] = some (.ret (.bool true) []) := by
  refine acall_fn rfl (af := a_billinglaw32_CounterAdds) rfl rfl ?_
  by_cases hl : l.length ≤ 60
  · have h2 : ¬ (60 : Int) < l.length := by omega
    have hl' : l.length ≤ 900000 := by omega
    have hs : (addS l c).1.length ≤ 1000000 := by have := addS_length l c; omega
    simp [List.replicate, go_sem, h2, cv, e_Add5 _ _ _ _ _ _ hl', e_rAdd5 _ _ _ _ _ _ hl', ctr_eta, e_Same _ _ _ _ _ hs, e_awake]
  · have h2 : (60 : Int) < l.length := by omega
    simp [List.replicate, go_sem, h2, e_awake, cv]

theorem law_gets (l : List Ctr) (a b c before : Int) : acall mach n_billinglaw32_CounterGets [.sl false 5 (l.map cv), .agg [.int .i64 a, .int .i64 b, .int .i64 c], .int .i64 before] [] = some (.ret (.bool true) []) := by
  refine acall_fn rfl (af := a_billinglaw32_CounterGets) rfl rfl ?_
  by_cases hl : l.length ≤ 60
  · have h2 : ¬ (60 : Int) < l.length := by omega
    have hl' : l.length ≤ 1000000 := by omega
    have hs : (dropP before l).length ≤ 1000000 := by have := List.length_filter_le (fun c : Ctr => decide (before ≤ c.f)) l; unfold dropP; omega
    simp [List.replicate, go_sem, h2, cv, e_Get _ _ _ _ _ hl', e_rGet _ _ _ _ _ hl', e_Drop _ _ _ hl', e_rDrop _ _ _ hl', e_Same _ _ _ _ _ hs, eqL, eq1, e_awake]
  · have h2 : (60 : Int) < l.length := by omega
    simp [List.replicate, go_sem, h2, e_awake, cv]

theorem law_order (l : List Ctr) (c d : Ctr) : acall mach n_billinglaw32_CounterOrder [.sl false 5 (l.map cv), .agg ((cv c).cells ++ (cv d).cells)] [] = some (.ret (.bool true) []) := by
  refine acall_fn rfl (af := a_billinglaw32_CounterOrder) rfl rfl ?_
  by_cases hl : l.length ≤ 60
  rotate_left
  · have h2 : (60 : Int) < l.length := by omega
    simp [List.replicate, go_sem, h2, e_awake, cv]
  have h2 : ¬ (60 : Int) < l.length := by omega
  have hl' : l.length ≤ 900000 := by omega
  have hs : (addS l c).1.length ≤ 900000 := by have := addS_length l c; omega
  have ht : (addS l d).1.length ≤ 900000 := by have := addS_length l d; omega
  have nt : ∀ {a b : Int}, ¬ a = b → (a != b) = true := fun h => by simpa using h
  have nf : ∀ {a b : Int}, a = b → (a != b) = false := fun h => by simpa using h
  by_cases hc : (addS l c).2 = 0
  rotate_left
  · simp [List.replicate, go_sem, h2, cv, e_Add5 _ _ _ _ _ _ hl', ctr_eta, nt hc, e_awake]
  by_cases hd : (addS l d).2 = 0
  rotate_left
  · simp [List.replicate, go_sem, h2, cv, e_Add5 _ _ _ _ _ _ hl', ctr_eta, nf hc, nt hd, e_awake]
  have ho := addS_order hc hd
  have hu : (addS (addS l d).1 c).1.length ≤ 1000000 := by have := addS_length (addS l d).1 c; omega
  simp [List.replicate, go_sem, h2, cv, e_Add5 _ _ _ _ _ _ hl', e_Add5 _ _ _ _ _ _ hs, e_Add5 _ _ _ _ _ _ ht, ctr_eta, nf hc, nf hd, ho, e_Same _ _ _ _ _ hu, e_awake]

set_option maxRecDepth 8000 in
theorem law_one (l : List Ctr) (c : Ctr) (q1 q2 q3 : Int) : acall mach n_billinglaw32_CounterOne [.sl false 5 (l.map cv), cv c, .agg [.int .i64 q1, .int .i64 q2, .int .i64 q3]] [] = some (.ret (.bool true) []) := by
  refine acall_fn rfl (af := a_billinglaw32_CounterOne) rfl rfl ?_
  by_cases hl : l.length ≤ 60
  rotate_left
  · have h2 : (60 : Int) < l.length := by omega
    simp [List.replicate, go_sem, h2, e_awake, cv]
  have h2 : ¬ (60 : Int) < l.length := by omega
  have hl' : l.length ≤ 900000 := by omega
  have hl2 : l.length ≤ 1000000 := by omega
  have hs : (addS l c).1.length ≤ 1000000 := by have := addS_length l c; omega
  have nt : ∀ {a b : Int}, ¬ a = b → (a != b) = true := fun h => by simpa using h
  have nf : ∀ {a b : Int}, a = b → (a != b) = false := fun h => by simpa using h
  by_cases hc : (addS l c).2 = 0
  rotate_left
  · simp [List.replicate, go_sem, h2, cv, e_Add5 _ _ _ _ _ _ hl', ctr_eta, nt hc, addS_bad hc, e_awake]
  obtain ⟨g1, g2⟩ := getC_addS hc
  obtain ⟨hcan, hk, hrc, hrs, _⟩ := addS_ok hc
  have hchk : chk (addS l c).1 = true := (chk_iff _).2 (addS_can hc)
  have r1 := rngOk_iff.1 (getC_rng hcan c)
  have r2 := rngOk_iff.1 hrc
  have ek : (Ctr.mk c.s c.k c.f 0 0) = key c := rfl
  have w1 : IntKind.wrap .i64 ((getC l (key c)).u + c.u) = (getC l (key c)).u + c.u := wrap_i64 (by omega)
  have w2 : IntKind.wrap .i64 ((getC l (key c)).p + c.p) = (getC l (key c)).p + c.p := wrap_i64 (by omega)
  have f1 := nf g1
  have f2 := nf g2
  by_cases hq : q1 = c.s ∧ q2 = c.k ∧ q3 = c.f
  · obtain ⟨rfl, rfl, rfl⟩ := hq
    simp [List.replicate, go_sem, h2, cv, e_Add5 _ _ _ _ _ _ hl', ctr_eta, nf hc, e_Get _ _ _ _ _ hl2, e_Get _ _ _ _ _ hs, e_Check _ _ hs, hchk, ek, w1, w2, f1, f2, e_awake]
  · have he : getC (addS l c).1 ⟨q1, q2, q3, 0, 0⟩ = getC l ⟨q1, q2, q3, 0, 0⟩ := getC_addS_ne (q := ⟨q1, q2, q3, 0, 0⟩) hc (fun h => hq h)
    have bt : ∀ {a b : Int}, a = b → (a == b) = true := fun h => beq_iff_eq.2 h
    have bf : ∀ {a b : Int}, ¬ a = b → (a == b) = false := fun h => beq_false_of_ne h
    by_cases h5 : q1 = c.s
    · by_cases h6 : q2 = c.k
      · have h7 : ¬ q3 = c.f := fun h => hq ⟨h5, h6, h⟩
        simp [List.replicate, go_sem, h2, cv, e_Add5 _ _ _ _ _ _ hl', ctr_eta, nf hc, e_Get _ _ _ _ _ hl2, e_Get _ _ _ _ _ hs, e_Check _ _ hs, hchk, ek, w1, w2, f1, f2, he, eqL, eq1, bt h5, bt h6, bf h7, e_awake]
      · simp [List.replicate, go_sem, h2, cv, e_Add5 _ _ _ _ _ _ hl', ctr_eta, nf hc, e_Get _ _ _ _ _ hl2, e_Get _ _ _ _ _ hs, e_Check _ _ hs, hchk, ek, w1, w2, f1, f2, he, eqL, eq1, bt h5, bf h6, e_awake]
    · simp [List.replicate, go_sem, h2, cv, e_Add5 _ _ _ _ _ _ hl', ctr_eta, nf hc, e_Get _ _ _ _ _ hl2, e_Get _ _ _ _ _ hs, e_Check _ _ hs, hchk, ek, w1, w2, f1, f2, he, eqL, eq1, bf h5, e_awake]
end Go.Am
