/- Few payloads; lists of bytes as arguments; the law FrameWraps on the machine. -/
import Derived.Test.YtbnjembcmddjoaaE26
set_option linter.unusedSimpArgs false
namespace Go.Am
open Go Go.Pu

theorem u46 : Go.Proofs.Try.prog.underlying 46 = some (.slice 22) := by kernel_rfl
theorem c22 : Go.Proofs.Try.prog.cellsOf 22 = 1 := by kernel_rfl
theorem arg_bss {u : V} (h : u = mkEl Go.Proofs.Try.prog 46 u.cells ∧ ∃ f, TyC Go.Proofs.Try.prog f 46 u.cells) : ∃ l : List (List UInt8), u = .sl false 1 (bss l) := by
  obtain ⟨h1, f, h2⟩ := h
  obtain ⟨g, xs, hx, hl, _, hel⟩ := tyc_slice u46 h2
  rw [hx, mkEl_one (by kernel_rfl), c22] at h1
  obtain ⟨l, rfl, _⟩ := choose_map (g := bsv) (p := fun _ => True) (xs := xs) (fun x hx => by
    obtain ⟨h3, h4⟩ := hel x hx
    obtain ⟨b, hb, _⟩ := arg_bytes u22 u5 c5 ⟨h3, _, h4⟩
    exact ⟨b, hb, trivial⟩)
  exact ⟨l, h1⟩

def fewB (l : List (List UInt8)) : Bool := decide (l.length ≤ 12) && l.all (fun p => decide (p.length ≤ 60))

theorem l_few (l : List (List UInt8)) (h h' : Heap) (n0 : Nat) (k : List It) (r : Bool) (hl : l.length ≤ 100000) (hh : h.take n0 = h')
    (hk : r = true → Run mach k (.exit 0) ⟨(.sl false 1 (bss l) :: .undef :: .undef :: .int .i64 l.length :: .undef :: .undef :: .undef :: .int .i64 l.length :: .sl false 1 (bss l) :: .int .i64 l.length :: .bool false :: .undef :: .undef :: .undef :: .undef :: .undef :: .undef :: .undef :: .undef :: []), h⟩ (FinQ [.tmp 2] n0 (.ret (.bool r) h'))) :
    ∀ (rest pre : List (List UInt8)), pre ++ rest = l → r = rest.all (fun p => decide (p.length ≤ 60)) →
    Run mach (.c billinglaw08_few_l1b :: .lp billinglaw08_few_l1 :: k) .norm ⟨(.sl false 1 (bss l) :: .undef :: .undef :: .int .i64 pre.length :: .undef :: .undef :: .undef :: .undef :: .undef :: .undef :: .undef :: .undef :: .undef :: .undef :: .undef :: .undef :: .undef :: .undef :: .undef :: []), h⟩ (FinQ [.tmp 2] n0 (.ret (.bool r) h'))
  | [], pre, hp, hr => by
    simp at hp
    subst hp
    simp at hr
    have := hk hr
    unfold billinglaw08_few_l1b
    simp [go_sem, bss_length]
    exact this
  | p :: rest, pre, hp, hr => by
    have hlen := congrArg List.length hp
    simp at hlen
    have q1 : pre.length < l.length := by omega
    have g : nth (bss l) pre.length = .sl false 1 (B p) := by rw [bss_nth l _ q1]; simp [← hp]
    by_cases hpl : p.length ≤ 60
    · have q2 : ¬ (60 : Int) < p.length := by omega
      have w : IntKind.wrap .i64 ((pre.length : Int) + 1) = ((pre ++ [p]).length : Int) := by rw [wrap_i64 (by omega)]; simp
      have ih := l_few l h h' n0 k r hl hh hk rest (pre ++ [p]) (by simp [hp]) (by rw [hr]; simp [hpl])
      generalize (pre ++ [p]).length = P at *
      generalize pre.length = Q at *
      unfold billinglaw08_few_l1b
      simp [go_sem, q1, g, q2, w, bss_length]
      exact ih
    · have q2 : (60 : Int) < p.length := by omega
      simp [hpl] at hr
      subst hr
      generalize pre.length = Q at *
      unfold billinglaw08_few_l1b
      simp [go_sem, q1, g, q2, bss_length, hh]

theorem e_few (l : List (List UInt8)) (h : Heap) : acall mach n_billinglaw08_few [.sl false 1 (bss l)] h = some (.ret (.bool (fewB l)) h) := by
  refine acall_fn rfl (af := a_billinglaw08_few) rfl rfl ?_
  unfold fewB
  by_cases q : l.length ≤ 12
  · have q' : ¬ (12 : Int) < l.length := by omega
    simp [List.replicate, go_sem, bss_length, q, q']
    refine l_few l h h h.length _ _ (by omega) (by simp) ?_ l [] rfl (by simp)
    intro hr
    simp at hr
    simp [go_sem]
    exact hr
  · have q' : (12 : Int) < l.length := by omega
    simp [List.replicate, go_sem, bss_length, q, q']

theorem few_of {l : List (List UInt8)} (h : fewB l = true) : l.length ≤ 12 ∧ ∀ p ∈ l, p.length ≤ 60 := by
  simpa [fewB] using h
theorem joinF_len : ∀ {l : List (List UInt8)}, (∀ p ∈ l, p.length ≤ 60) → (joinF l).length ≤ 74 * l.length
  | [], _ => by simp [joinF]
  | p :: l, h => by
    have h1 := joinF_len (l := l) (fun q hq => h q (by simp [hq]))
    have h2 := h p (by simp)
    have h3 := frameOf_length p
    have h4 := encN_len10 (u := 2 * p.length) (by omega)
    simp only [joinF, List.length_append, List.length_cons]
    omega
theorem joinV_ok {l : List (List UInt8)} (h : ∀ p ∈ l, p.length ≤ 60) : joinV [] l = .tup [.sl true 1 (B (joinF l)), .int .i64 0] := by
  unfold joinV
  rw [if_pos]
  · rfl
  · simp; intro p hp; have := h p hp; omega

theorem l_wraps (l : List (List UInt8)) (h h' : Heap) (n0 : Nat) (k : List It) (hl : l.length ≤ 100000) (hp2 : ∀ p ∈ l, p.length ≤ 60)
    (hk : Run mach k (.exit 0) ⟨(.sl false 1 (bss l) :: .undef :: .undef :: .int .i64 l.length :: .undef :: .undef :: .undef :: .undef :: .undef :: .undef :: .undef :: .undef :: .undef :: .undef :: .undef :: .undef :: .int .i64 l.length :: .sl false 1 (bss l) :: .int .i64 l.length :: .bool false :: .undef :: .undef :: .undef :: .undef :: .undef :: .undef :: .undef :: .undef :: .undef :: .undef :: .undef :: .undef :: .undef :: .undef :: .undef :: .undef :: .undef :: .undef :: .undef :: .undef :: .undef :: .undef :: .undef :: .undef :: .undef :: .undef :: .undef :: .undef :: .undef :: .undef :: .undef :: .undef :: .undef :: .undef :: .undef :: .undef :: .undef :: .undef :: .undef :: .undef :: .undef :: .undef :: .undef :: .undef :: .undef :: .undef :: .undef :: .undef :: []), h⟩ (FinQ [.tmp 2] n0 (.ret (.bool true) h'))) :
    ∀ (n i : Nat), i + n = l.length →
    Run mach (.c billinglaw08_FrameWraps_l1b :: .lp billinglaw08_FrameWraps_l1 :: k) .norm ⟨(.sl false 1 (bss l) :: .undef :: .undef :: .int .i64 i :: .undef :: .undef :: .undef :: .undef :: .undef :: .undef :: .undef :: .undef :: .undef :: .undef :: .undef :: .undef :: .undef :: .undef :: .undef :: .undef :: .undef :: .undef :: .undef :: .undef :: .undef :: .undef :: .undef :: .undef :: .undef :: .undef :: .undef :: .undef :: .undef :: .undef :: .undef :: .undef :: .undef :: .undef :: .undef :: .undef :: .undef :: .undef :: .undef :: .undef :: .undef :: .undef :: .undef :: .undef :: .undef :: .undef :: .undef :: .undef :: .undef :: .undef :: .undef :: .undef :: .undef :: .undef :: .undef :: .undef :: .undef :: .undef :: .undef :: .undef :: .undef :: .undef :: .undef :: .undef :: []), h⟩ (FinQ [.tmp 2] n0 (.ret (.bool true) h'))
  | 0, i, hi => by
    obtain rfl : i = l.length := by omega
    unfold billinglaw08_FrameWraps_l1b
    simp [go_sem, bss_length]
    exact hk
  | n + 1, i, hi => by
    have ih := l_wraps l h h' n0 k hl hp2 hk n (i + 1) (by omega)
    have w : IntKind.wrap .i64 ((i : Int) + 1) = ((i + 1 : Nat) : Int) := by rw [wrap_i64 (by omega)]; omega
    have q : i < l.length := by omega
    have g := bss_nth l i q
    have hp := hp2 l[i] (List.getElem_mem q)
    have e1 := e_Wrap l[i] [] (by omega)
    have e2 := e_rWrap l[i] [] (by omega)
    have q5 : l[i].length ≤ 1048576 := by omega
    simp only [wrapV, if_pos q5] at e1 e2
    generalize l[i] = p at *
    unfold billinglaw08_FrameWraps_l1b
    simp [go_sem, bss_length, q, g, w, e1, e2, e_Same]
    exact ih

theorem law_wraps (l : List (List UInt8)) : acall mach n_billinglaw08_FrameWraps [.sl false 1 (bss l)] [] = some (.ret (.bool true) []) := by
  refine acall_fn rfl (af := a_billinglaw08_FrameWraps) rfl rfl ?_
  cases hf : fewB l with
  | false => simp [List.replicate, go_sem, e_few, hf, e_alive08]
  | true =>
    obtain ⟨h1, h2⟩ := few_of hf
    have hj := joinF_len h2
    have e1 := e_Join l [] (by omega) (by omega)
    have e2 := e_rJoin l [] (by omega) (by omega) (fun p hp => by have := h2 p hp; omega)
    rw [joinV_ok h2] at e1 e2
    simp [List.replicate, go_sem, e_few, hf]
    refine l_wraps l [] [] 0 _ (by omega) h2 ?_ l.length 0 (Nat.zero_add _)
    simp [go_sem, e1, e2, e_Same, e_alive08]

theorem all_frameWraps (us : List V) (h : TyArgs Go.Proofs.Try.prog Go.Proofs.Try.f11.params.toList us) : acall mach 11 us [] = some (.ret (.bool true) []) := by
  obtain ⟨u, rfl, h1⟩ := TyArgs.one h
  obtain ⟨l, rfl⟩ := arg_bss h1
  exact law_wraps l
end Go.Am
