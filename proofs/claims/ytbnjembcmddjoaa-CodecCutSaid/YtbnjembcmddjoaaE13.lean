/- The law CodecRecords on the machine; arguments that are records, and lists of ints. -/
import Derived.Test.YtbnjembcmddjoaaE12
set_option linter.unusedSimpArgs false
namespace Go.Am
open Go Go.Pu

theorem u32 : fTypes Go.Proofs.Try.prog 32 = some [3, 3, 3, 9, 9, 3, 3, 3, 3, 4, 3, 4] := by kernel_rfl
theorem a32 : aggT Go.Proofs.Try.prog 32 = true := by kernel_rfl
theorem u4 : Go.Proofs.Try.prog.underlying 4 = some .bool := by kernel_rfl
theorem u29 : Go.Proofs.Try.prog.underlying 29 = some (.slice 3) := by kernel_rfl
theorem c3 : Go.Proofs.Try.prog.cellsOf 3 = 1 := by kernel_rfl
theorem u59 : Go.Proofs.Try.prog.underlying 59 = some (.int .u16) := by kernel_rfl

theorem arg_rec {u : V} (h : u = mkEl Go.Proofs.Try.prog 32 u.cells ∧ ∃ f, TyC Go.Proofs.Try.prog f 32 u.cells) : ∃ r : Rec, u = rv r ∧ r.fits := by
  obtain ⟨h1, f, h2⟩ := h
  obtain ⟨g, _, hf⟩ := tyc_fields u32 h2
  obtain ⟨x1, y1, e1, r1, hf⟩ := hf.cons
  obtain ⟨x2, y2, rfl, r2, hf⟩ := hf.cons
  obtain ⟨x3, y3, rfl, r3, hf⟩ := hf.cons
  obtain ⟨x4, y4, rfl, r4, hf⟩ := hf.cons
  obtain ⟨x5, y5, rfl, r5, hf⟩ := hf.cons
  obtain ⟨x6, y6, rfl, r6, hf⟩ := hf.cons
  obtain ⟨x7, y7, rfl, r7, hf⟩ := hf.cons
  obtain ⟨x8, y8, rfl, r8, hf⟩ := hf.cons
  obtain ⟨x9, y9, rfl, r9, hf⟩ := hf.cons
  obtain ⟨x10, y10, rfl, r10, hf⟩ := hf.cons
  obtain ⟨x11, y11, rfl, r11, hf⟩ := hf.cons
  obtain ⟨x12, y12, rfl, r12, hf⟩ := hf.cons
  obtain rfl := hf.nil
  obtain ⟨n1, rfl, w1⟩ := tyc_int u3 r1
  obtain ⟨n2, rfl, w2⟩ := tyc_int u3 r2
  obtain ⟨n3, rfl, w3⟩ := tyc_int u3 r3
  obtain ⟨n4, rfl, w4⟩ := tyc_string u9 r4
  obtain ⟨n5, rfl, w5⟩ := tyc_string u9 r5
  obtain ⟨n6, rfl, w6⟩ := tyc_int u3 r6
  obtain ⟨n7, rfl, w7⟩ := tyc_int u3 r7
  obtain ⟨n8, rfl, w8⟩ := tyc_int u3 r8
  obtain ⟨n9, rfl, w9⟩ := tyc_int u3 r9
  obtain ⟨n10, rfl⟩ := tyc_bool u4 r10
  obtain ⟨n11, rfl, w11⟩ := tyc_int u3 r11
  obtain ⟨n12, rfl⟩ := tyc_bool u4 r12
  rw [e1, mkEl_agg a32] at h1
  exact ⟨⟨n1, n2, n3, n4, n5, n6, n7, n8, n9, n10, n11, n12⟩, h1, wf_i64 w1, wf_i64 w2, wf_i64 w3, wf_i64 w6, wf_i64 w7, wf_i64 w8, wf_i64 w9, wf_i64 w11⟩

theorem arg_ints {u : V} (h : u = mkEl Go.Proofs.Try.prog 29 u.cells ∧ ∃ f, TyC Go.Proofs.Try.prog f 29 u.cells) : ∃ l : List Int, u = .sl false 1 (l.map iv) ∧ ∀ n ∈ l, i64 n := by
  obtain ⟨h1, f, h2⟩ := h
  obtain ⟨g, xs, hx, hl, _, hel⟩ := tyc_slice u29 h2
  rw [hx, mkEl_one (by kernel_rfl), c3] at h1
  obtain ⟨l, rfl, hw⟩ := choose_map (g := iv) (p := i64) (xs := xs) (fun x hx => by
    obtain ⟨h3, h4⟩ := hel x hx
    obtain ⟨n, hc, hw⟩ := tyc_int u3 h4
    rw [hc, mkEl_one (by kernel_rfl)] at h3
    exact ⟨n, h3, wf_i64 hw⟩)
  exact ⟨l, h1, hw⟩

set_option maxRecDepth 8000 in
theorem law_records (b : List UInt8) (r : Rec) (hf : r.fits) : acall mach n_billinglaw07_CodecRecords [.sl false 1 (B b), rv r] [] = some (.ret (.bool true) []) := by
  refine acall_fn rfl (af := a_billinglaw07_CodecRecords) rfl rfl ?_
  by_cases hb : b.length ≤ 300
  rotate_left
  · have q : (300 : Int) < b.length := by omega
    simp [List.replicate, go_sem, rv, q, e_alive07]
  have q : ¬ (300 : Int) < b.length := by omega
  by_cases ha : r.a.length ≤ 100
  rotate_left
  · have q2 : (100 : Int) < r.a.length := by omega
    simp [List.replicate, go_sem, rv, q, q2, e_alive07]
  have q2 : ¬ (100 : Int) < r.a.length := by omega
  by_cases hc : r.b.length ≤ 100
  rotate_left
  · have q3 : (100 : Int) < r.b.length := by omega
    simp [List.replicate, go_sem, rv, q, q2, q3, e_alive07]
  have q3 : ¬ (100 : Int) < r.b.length := by omega
  have e1 := e_Record b (by omega)
  have e2 := e_rRecord b (by omega)
  have e3 := e_PutRecord b r [] (by omega) (by omega) (by omega) hf
  have e4 := e_rPutRecord b r (by omega) (by omega) (by omega) hf
  unfold rv at e3 e4
  have s0 : ∀ (o1 o2 : Bool), acall mach n_billingref07_Same [.sl o1 1 [], .sl o2 1 []] [] = some (.ret (.bool true) []) := fun o1 o2 => e_Same o1 o2 [] [] []
  cases hz : (recD b).2 <;> simp [List.replicate, go_sem, rv, q, q2, q3, e1, e2, e3, e4, recV, rrecV, hz, eqL, eq1, rec0, s0, e_Same, e_alive07]

theorem all_codecRecords (us : List V) (h : TyArgs Go.Proofs.Try.prog Go.Proofs.Try.f15.params.toList us) : acall mach 15 us [] = some (.ret (.bool true) []) := by
  obtain ⟨u, v, rfl, h1, h2⟩ := TyArgs.two h
  obtain ⟨b, rfl, _⟩ := arg_bytes u22 u5 c5 h1
  obtain ⟨r, rfl, hf⟩ := arg_rec h2
  exact law_records b r hf

end Go.Am
