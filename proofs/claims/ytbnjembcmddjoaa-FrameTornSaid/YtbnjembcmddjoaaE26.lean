/- The reference's join; comparisons; the laws FrameSums, FrameAlls, FrameUnwraps on the machine. -/
import Derived.Test.YtbnjembcmddjoaaE25
import Derived.Test.YtbnjembcmddjoaaE7
set_option linter.unusedSimpArgs false
namespace Go.Am
open Go Go.Pu

theorem l_rJoin (l : List (List UInt8)) (h h' : Heap) (n0 : Nat) (k : List It) (r : V) (hl : l.length ≤ 100000) (hh : h.take n0 = h')
    (hk : ∀ acc : List UInt8, r = .tup [.sl true 1 (B acc), .int .i64 0] → Run mach k (.exit 0) ⟨(.sl false 1 (bss l) :: .undef :: .undef :: .undef :: .sl true 1 (B acc) :: .int .i64 l.length :: .undef :: .undef :: .int .i64 l.length :: .sl false 1 (bss l) :: .int .i64 l.length :: .bool false :: .undef :: .undef :: .undef :: .undef :: .undef :: .undef :: .undef :: .undef :: .undef :: .undef :: .undef :: .undef :: .undef :: .undef :: .undef :: .undef :: .undef :: []), h⟩ (FinQ [.tmp 2, .tmp 3] n0 (.ret r h'))) :
    ∀ (rest pre : List (List UInt8)) (acc : List UInt8), pre ++ rest = l → acc.length + (joinF rest).length ≤ 5000000 → (∀ p ∈ rest, p.length ≤ 10000000) → r = joinV acc rest →
    Run mach (.c billingref08_Join_l1b :: .lp billingref08_Join_l1 :: k) .norm ⟨(.sl false 1 (bss l) :: .undef :: .undef :: .undef :: .sl true 1 (B acc) :: .int .i64 pre.length :: .undef :: .undef :: .undef :: .undef :: .undef :: .undef :: .undef :: .undef :: .undef :: .undef :: .undef :: .undef :: .undef :: .undef :: .undef :: .undef :: .undef :: .undef :: .undef :: .undef :: .undef :: .undef :: .undef :: []), h⟩ (FinQ [.tmp 2, .tmp 3] n0 (.ret r h'))
  | [], pre, acc, hp, hb, hp2, hr => by
    simp at hp
    subst hp
    simp [joinV, joinF] at hr
    have := hk acc hr
    unfold billingref08_Join_l1b
    simp [go_sem, bss_length]
    exact this
  | p :: rest, pre, acc, hp, hb, hp2, hr => by
    have hlen := congrArg List.length hp
    simp at hlen
    have q1 : pre.length < l.length := by omega
    have g : nth (bss l) pre.length = .sl false 1 (B p) := by rw [bss_nth l _ q1]; simp [← hp]
    simp only [joinF, List.length_append] at hb
    have hfl := frameOf_length p
    have e := e_rWrap p [] (hp2 p (by simp))
    by_cases hpl : p.length ≤ 1048576
    · have w : IntKind.wrap .i64 ((pre.length : Int) + 1) = ((pre ++ [p]).length : Int) := by rw [wrap_i64 (by omega)]; simp
      simp only [wrapV, if_pos hpl] at e
      have ih := l_rJoin l h h' n0 k r hl hh hk rest (pre ++ [p]) (acc ++ frameOf p) (by simp [hp]) (by simp only [List.length_append]; omega) (fun q hq => hp2 q (by simp [hq])) (by
        rw [hr]; simp [joinV, joinF, hpl])
      generalize (pre ++ [p]).length = P at *
      generalize pre.length = Q at *
      have hfo : (frameOf p).length ≤ 5000000 := by omega
      generalize frameOf p = F at *
      unfold billingref08_Join_l1b
      simp [go_sem, q1, g, e, w, bss_length]
      refine ⟨by omega, ?_⟩
      exact ih
    · simp only [wrapV, if_neg hpl] at e
      simp [joinV, hpl] at hr
      subst hr
      generalize pre.length = Q at *
      unfold billingref08_Join_l1b
      simp [go_sem, q1, g, e, bss_length, hh]

theorem e_rJoin (l : List (List UInt8)) (h : Heap) (hl : l.length ≤ 100000) (hb : (joinF l).length ≤ 5000000) (hp : ∀ p ∈ l, p.length ≤ 10000000) : acall mach n_billingref08_Join [.sl false 1 (bss l)] h = some (.ret (joinV [] l) h) := by
  refine acall_fn rfl (af := a_billingref08_Join) rfl rfl ?_
  simp [List.replicate, go_sem, bss_length]
  refine l_rJoin l h h h.length _ _ hl (by simp) ?_ l [] [] rfl (by simpa using hb) hp rfl
  intro acc hr
  simp [go_sem, hr]

theorem l_SameAll (l : List (List UInt8)) (h h' : Heap) (n0 : Nat) (k : List It) (hl : l.length ≤ 100000)
    (hk : Run mach k (.exit 0) ⟨(.sl false 1 (bss l) :: .sl false 1 (bss l) :: .undef :: .undef :: .undef :: .int .i64 l.length :: .undef :: .undef :: .undef :: .undef :: .undef :: .int .i64 l.length :: .sl false 1 (bss l) :: .int .i64 l.length :: .bool false :: .undef :: .undef :: .undef :: .undef :: .undef :: .undef :: .undef :: .undef :: .undef :: .undef :: .undef :: .undef :: .undef :: []), h⟩ (FinQ [.tmp 4] n0 (.ret (.bool true) h'))) :
    ∀ (n i : Nat), i + n = l.length →
    Run mach (.c billingref08_SameAll_l1b :: .lp billingref08_SameAll_l1 :: k) .norm ⟨(.sl false 1 (bss l) :: .sl false 1 (bss l) :: .undef :: .undef :: .undef :: .int .i64 i :: .undef :: .undef :: .undef :: .undef :: .undef :: .undef :: .undef :: .undef :: .undef :: .undef :: .undef :: .undef :: .undef :: .undef :: .undef :: .undef :: .undef :: .undef :: .undef :: .undef :: .undef :: .undef :: []), h⟩ (FinQ [.tmp 4] n0 (.ret (.bool true) h'))
  | 0, i, hi => by
    obtain rfl : i = l.length := by omega
    unfold billingref08_SameAll_l1b
    simp [go_sem, bss_length]
    exact hk
  | n + 1, i, hi => by
    have ih := l_SameAll l h h' n0 k hl hk n (i + 1) (by omega)
    have w : IntKind.wrap .i64 ((i : Int) + 1) = ((i + 1 : Nat) : Int) := by rw [wrap_i64 (by omega)]; omega
    have q : i < l.length := by omega
    have g := bss_nth l i q
    unfold billingref08_SameAll_l1b
    simp [go_sem, bss_length, q, g, w]
    exact ih

theorem e_SameAll (l : List (List UInt8)) (h : Heap) (hl : l.length ≤ 100000) : acall mach n_billingref08_SameAll [.sl false 1 (bss l), .sl false 1 (bss l)] h = some (.ret (.bool true) h) := by
  refine acall_fn rfl (af := a_billingref08_SameAll) rfl rfl ?_
  simp [List.replicate, go_sem, bss_length]
  refine l_SameAll l h h h.length _ hl ?_ l.length 0 (Nat.zero_add _)
  simp [go_sem]

theorem law_sums (b : List UInt8) : acall mach n_billinglaw08_FrameSums [.sl false 1 (B b)] [] = some (.ret (.bool true) []) := by
  refine acall_fn rfl (af := a_billinglaw08_FrameSums) rfl rfl ?_
  by_cases hb : b.length ≤ 5000
  rotate_left
  · have q : (5000 : Int) < b.length := by omega
    simp [List.replicate, go_sem, q, e_alive08]
  have q : ¬ (5000 : Int) < b.length := by omega
  simp [List.replicate, go_sem, q, e_Sum b _ (show b.length ≤ 100000000 by omega), e_rSum b _ (show b.length ≤ 100000000 by omega), e_alive08]

theorem law_alls (b : List UInt8) : acall mach n_billinglaw08_FrameAlls [.sl false 1 (B b)] [] = some (.ret (.bool true) []) := by
  refine acall_fn rfl (af := a_billinglaw08_FrameAlls) rfl rfl ?_
  by_cases hb : b.length ≤ 600
  rotate_left
  · have q : (600 : Int) < b.length := by omega
    simp [List.replicate, go_sem, q, e_alive08]
  have q : ¬ (600 : Int) < b.length := by omega
  have e1 := e_All b [] (by omega)
  have e2 := e_rAll b [] (by omega)
  have hl := (allF_rest (b.length + 1) b).2
  have s := e_SameAll (allF (b.length + 1) b).1 [] (by omega)
  simp only [allV, List.nil_append] at e1 e2
  generalize allF (b.length + 1) b = x at *
  simp [List.replicate, go_sem, q, e1, e2, s, e_alive08]

theorem law_unwraps (b : List UInt8) : acall mach n_billinglaw08_FrameUnwraps [.sl false 1 (B b)] [] = some (.ret (.bool true) []) := by
  refine acall_fn rfl (af := a_billinglaw08_FrameUnwraps) rfl rfl ?_
  by_cases hb : b.length ≤ 600
  rotate_left
  · have q : (600 : Int) < b.length := by omega
    simp [List.replicate, go_sem, q, e_alive08]
  have q : ¬ (600 : Int) < b.length := by omega
  have e1 := e_Unwrap b [] (by omega)
  have e2 := e_rUnwrap b [] (by omega)
  have s0 : ∀ (o1 o2 : Bool), acall mach n_billingref07_Same [.sl o1 1 [], .sl o2 1 []] [] = some (.ret (.bool true) []) := fun o1 o2 => e_Same o1 o2 [] [] []
  cases hu : unfr b with
  | bad e =>
    rw [hu] at e1 e2
    simp [List.replicate, go_sem, q, e1, e2, frV, rfrV, s0, e_alive08]
  | ok p rest =>
    rw [hu] at e1 e2
    simp [List.replicate, go_sem, q, e1, e2, frV, rfrV, e_Same, e_alive08]

theorem all_frameSums (us : List V) (h : TyArgs Go.Proofs.Try.prog Go.Proofs.Try.f7.params.toList us) : acall mach 7 us [] = some (.ret (.bool true) []) := by
  obtain ⟨u, rfl, h1⟩ := TyArgs.one h
  obtain ⟨b, rfl, _⟩ := arg_bytes u22 u5 c5 h1
  exact law_sums b
theorem all_frameAlls (us : List V) (h : TyArgs Go.Proofs.Try.prog Go.Proofs.Try.f8.params.toList us) : acall mach 8 us [] = some (.ret (.bool true) []) := by
  obtain ⟨u, rfl, h1⟩ := TyArgs.one h
  obtain ⟨b, rfl, _⟩ := arg_bytes u22 u5 c5 h1
  exact law_alls b
theorem all_frameUnwraps (us : List V) (h : TyArgs Go.Proofs.Try.prog Go.Proofs.Try.f9.params.toList us) : acall mach 9 us [] = some (.ret (.bool true) []) := by
  obtain ⟨u, rfl, h1⟩ := TyArgs.one h
  obtain ⟨b, rfl, _⟩ := arg_bytes u22 u5 c5 h1
  exact law_unwraps b
end Go.Am
