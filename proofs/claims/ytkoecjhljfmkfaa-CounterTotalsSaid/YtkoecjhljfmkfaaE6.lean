/- The chapter's examples, and the laws' arguments. -/
import Derived.Test.YtkoecjhljfmkfaaE5
import Derived.Test.YtkoecjhljfmkfaaAm30
import Derived.KernelRfl
set_option linter.unusedSimpArgs false
namespace Go.Am
open Go Go.Pu

theorem e_awake : acall mach n_billinglaw32_awake [] [] = some (.ret (.bool true) []) := (acall_iff _).2 ⟨60, by kernel_rfl⟩

theorem u22 : Go.Proofs.Try.prog.underlying 22 = some (.slice 27) := by kernel_rfl
theorem u3 : Go.Proofs.Try.prog.underlying 3 = some (.int .i64) := by kernel_rfl
theorem u25 : Go.Proofs.Try.prog.underlying 25 = some (.array 3 3) := by kernel_rfl
theorem c27 : Go.Proofs.Try.prog.cellsOf 27 = 5 := by kernel_rfl
theorem a27 : aggT Go.Proofs.Try.prog 27 = true := by kernel_rfl
theorem a22 : aggT Go.Proofs.Try.prog 22 = false := by kernel_rfl
theorem u27 : fTypes Go.Proofs.Try.prog 27 = some [3, 3, 3, 3, 3] := by kernel_rfl

/-- A counter, out of its cells. -/
theorem tyc_ctr {f : Nat} {cs : List V} (h : TyC Go.Proofs.Try.prog f 27 cs) : ∃ c : Ctr, cs = (cv c).cells := by
  obtain ⟨g, _, hf⟩ := tyc_fields u27 h
  obtain ⟨x1, y1, rfl, r1, hf⟩ := hf.cons
  obtain ⟨x2, y2, rfl, r2, hf⟩ := hf.cons
  obtain ⟨x3, y3, rfl, r3, hf⟩ := hf.cons
  obtain ⟨x4, y4, rfl, r4, hf⟩ := hf.cons
  obtain ⟨x5, y5, rfl, r5, hf⟩ := hf.cons
  obtain rfl := hf.nil
  obtain ⟨n1, rfl, _⟩ := tyc_int u3 r1
  obtain ⟨n2, rfl, _⟩ := tyc_int u3 r2
  obtain ⟨n3, rfl, _⟩ := tyc_int u3 r3
  obtain ⟨n4, rfl, _⟩ := tyc_int u3 r4
  obtain ⟨n5, rfl, _⟩ := tyc_int u3 r5
  exact ⟨⟨n1, n2, n3, n4, n5⟩, rfl⟩

theorem arg_ctrs {u : V} (h : u = mkEl Go.Proofs.Try.prog 22 u.cells ∧ ∃ f, TyC Go.Proofs.Try.prog f 22 u.cells) : ∃ l : List Ctr, u = .sl false 5 (l.map cv) := by
  obtain ⟨h1, f, h2⟩ := h
  obtain ⟨g, xs, hx, hl, _, hel⟩ := tyc_slice u22 h2
  rw [hx, mkEl_one a22, c27] at h1
  obtain ⟨l, rfl, _⟩ := choose_map (g := cv) (p := fun _ => True) (xs := xs) (fun x hx => by
    obtain ⟨h3, h4⟩ := hel x hx
    obtain ⟨c, hc⟩ := tyc_ctr h4
    rw [hc, mkEl_agg a27] at h3
    exact ⟨c, h3, trivial⟩)
  exact ⟨l, h1⟩
theorem arg_ctr {u : V} (h : u = mkEl Go.Proofs.Try.prog 27 u.cells ∧ ∃ f, TyC Go.Proofs.Try.prog f 27 u.cells) : ∃ c : Ctr, u = cv c := by
  obtain ⟨h1, f, h2⟩ := h
  obtain ⟨c, hc⟩ := tyc_ctr h2
  rw [hc, mkEl_agg a27] at h1
  exact ⟨c, h1⟩
theorem arg_int3 {u : V} (h : u = mkEl Go.Proofs.Try.prog 25 u.cells ∧ ∃ f, TyC Go.Proofs.Try.prog f 25 u.cells) : ∃ a b c : Int, u = .agg [.int .i64 a, .int .i64 b, .int .i64 c] := by
  obtain ⟨h1, f, h2⟩ := h
  obtain ⟨g, _, hf⟩ := tyc_array u25 h2
  obtain ⟨x1, y1, e1, r1, hf⟩ := hf.cons
  obtain ⟨x2, y2, rfl, r2, hf⟩ := hf.cons
  obtain ⟨x3, y3, rfl, r3, hf⟩ := hf.cons
  obtain rfl := hf.nil
  obtain ⟨n1, rfl, _⟩ := tyc_int u3 r1
  obtain ⟨n2, rfl, _⟩ := tyc_int u3 r2
  obtain ⟨n3, rfl, _⟩ := tyc_int u3 r3
  rw [e1, mkEl_agg (by kernel_rfl)] at h1
  exact ⟨n1, n2, n3, h1⟩

theorem law_checks (l : List Ctr) : acall mach n_billinglaw32_CounterChecks [.sl false 5 (l.map cv)] [] = some (.ret (.bool true) []) := by
  refine acall_fn rfl (af := a_billinglaw32_CounterChecks) rfl rfl ?_
  by_cases hl : l.length ≤ 60
  · have h2 : ¬ (60 : Int) < l.length := by omega
    have hl' : l.length ≤ 1000000 := by omega
    simp [List.replicate, go_sem, h2, e_Check _ _ hl', e_rCheck _ _ hl', e_awake]
  · have h2 : (60 : Int) < l.length := by omega
    simp [List.replicate, go_sem, h2, e_awake]
end Go.Am
namespace Go.Am
theorem all_counterChecks (us : List V) (h : TyArgs Go.Proofs.Try.prog Go.Proofs.Try.f3.params.toList us) : acall mach 3 us [] = some (.ret (.bool true) []) := by
  obtain ⟨u, rfl, h1⟩ := TyArgs.one h
  obtain ⟨l, rfl⟩ := arg_ctrs h1
  exact law_checks l
end Go.Am
