/- The law FrameBack on the machine. -/
import Derived.Test.YtbnjembcmddjoaaE29
set_option linter.unusedSimpArgs false
namespace Go.Am
open Go Go.Pu

theorem frame60 {p : List UInt8} (h : p.length ≤ 60) : (frameOf p).length ≤ 65 := by
  rw [frame_small h]; simp [be4_len]; omega

theorem l_back (l : List (List UInt8)) (tail all : List UInt8) (h h' : Heap) (n0 : Nat) (k : List It) (hl : l.length ≤ 100000) (hp2 : ∀ p ∈ l, p.length ≤ 60) (ht : tail.length ≤ 60) (hall : all.length ≤ 100000)
    (hk : Run mach k (.exit 0) ⟨(.sl false 1 (bss l) :: .sl false 1 (B tail) :: .undef :: .undef :: .undef :: .sl false 1 (B all) :: .undef :: .sl false 1 (B tail) :: .int .i64 l.length :: .undef :: .undef :: .undef :: .undef :: .undef :: .undef :: .undef :: .undef :: .undef :: .undef :: .undef :: .undef :: .undef :: .undef :: .undef :: .undef :: .undef :: .undef :: .undef :: .undef :: .undef :: .undef :: .undef :: .undef :: .undef :: .undef :: .undef :: .undef :: .int .i64 l.length :: .sl false 1 (bss l) :: .int .i64 l.length :: .bool false :: .undef :: .undef :: .undef :: .undef :: .undef :: .undef :: .undef :: .undef :: .undef :: .undef :: .undef :: .undef :: .undef :: .undef :: .undef :: .undef :: .undef :: .undef :: .undef :: .undef :: .undef :: .undef :: .undef :: .undef :: .undef :: .undef :: .undef :: .undef :: .undef :: .undef :: .undef :: .undef :: .undef :: .undef :: .undef :: .undef :: .undef :: .undef :: .undef :: .undef :: .undef :: .undef :: .undef :: .undef :: .undef :: .undef :: .undef :: .undef :: .undef :: .undef :: .undef :: .undef :: .undef :: .undef :: .undef :: .undef :: .undef :: .undef :: []), h⟩ (FinQ [.tmp 4] n0 (.ret (.bool true) h'))) :
    ∀ (rest pre : List (List UInt8)), pre ++ rest = l → (joinF rest).length ≤ 100000 →
    Run mach (.c billinglaw08_FrameBack_l1b :: .lp billinglaw08_FrameBack_l1 :: k) .norm ⟨(.sl false 1 (bss l) :: .sl false 1 (B tail) :: .undef :: .undef :: .undef :: .sl false 1 (B all) :: .undef :: .sl false 1 (B (joinF rest ++ tail)) :: .int .i64 pre.length :: .undef :: .undef :: .undef :: .undef :: .undef :: .undef :: .undef :: .undef :: .undef :: .undef :: .undef :: .undef :: .undef :: .undef :: .undef :: .undef :: .undef :: .undef :: .undef :: .undef :: .undef :: .undef :: .undef :: .undef :: .undef :: .undef :: .undef :: .undef :: .undef :: .undef :: .undef :: .undef :: .undef :: .undef :: .undef :: .undef :: .undef :: .undef :: .undef :: .undef :: .undef :: .undef :: .undef :: .undef :: .undef :: .undef :: .undef :: .undef :: .undef :: .undef :: .undef :: .undef :: .undef :: .undef :: .undef :: .undef :: .undef :: .undef :: .undef :: .undef :: .undef :: .undef :: .undef :: .undef :: .undef :: .undef :: .undef :: .undef :: .undef :: .undef :: .undef :: .undef :: .undef :: .undef :: .undef :: .undef :: .undef :: .undef :: .undef :: .undef :: .undef :: .undef :: .undef :: .undef :: .undef :: .undef :: .undef :: .undef :: .undef :: .undef :: []), h⟩ (FinQ [.tmp 4] n0 (.ret (.bool true) h'))
  | [], pre, hp, hj => by
    simp at hp
    subst hp
    unfold billinglaw08_FrameBack_l1b
    simp [go_sem, bss_length, joinF]
    exact hk
  | p :: rest, pre, hp, hj => by
    have hlen := congrArg List.length hp
    simp at hlen
    have q1 : pre.length < l.length := by omega
    have g : nth (bss l) pre.length = .sl false 1 (B p) := by rw [bss_nth l _ q1]; simp [← hp]
    have hpl : p.length ≤ 60 := hp2 p (by rw [← hp]; simp)
    have w : IntKind.wrap .i64 ((pre.length : Int) + 1) = ((pre ++ [p]).length : Int) := by rw [wrap_i64 (by omega)]; simp
    have hf := frame60 hpl
    simp only [joinF, List.length_append] at hj
    have ih := l_back l tail all h h' n0 k hl hp2 ht hall hk rest (pre ++ [p]) (by simp [hp]) (by omega)
    have e1 := e_Unwrap (frameOf p ++ (joinF rest ++ tail)) [] (by simp only [List.length_append]; omega)
    rw [unfr_frameOf (by omega)] at e1
    have e2 := e_Wrap p [] (by omega)
    have q5 : p.length ≤ 1048576 := by omega
    simp only [wrapV, if_pos q5] at e2
    have ej : joinF (p :: rest) ++ tail = frameOf p ++ (joinF rest ++ tail) := by simp [joinF]
    have hX : (joinF rest ++ tail).length ≤ 200000 := by simp only [List.length_append]; omega
    rw [ej]
    simp only [frV] at e1
    have s1 := e_Same false false p p []
    have s2 := e_Same false false (frameOf p ++ (joinF rest ++ tail)) (frameOf p ++ (joinF rest ++ tail)) []
    rw [beq_self_eq_true] at s1 s2
    generalize (pre ++ [p]).length = P at *
    generalize pre.length = Q at *
    generalize joinF rest ++ tail = X at *
    generalize frameOf p = F at *
    unfold billinglaw08_FrameBack_l1b
    simp [go_sem, q1, g, w, e1, e2, s1, s2, bss_length]
    exact ⟨by omega, ih⟩

theorem law_back (l : List (List UInt8)) (tail : List UInt8) : acall mach n_billinglaw08_FrameBack [.sl false 1 (bss l), .sl false 1 (B tail)] [] = some (.ret (.bool true) []) := by
  refine acall_fn rfl (af := a_billinglaw08_FrameBack) rfl rfl ?_
  cases hf : fewB l with
  | false => simp [List.replicate, go_sem, e_few, hf, e_alive08]
  | true =>
    by_cases ht : tail.length ≤ 60
    rotate_left
    · have q : (60 : Int) < tail.length := by omega
      simp [List.replicate, go_sem, e_few, hf, q, e_alive08]
    have q : ¬ (60 : Int) < tail.length := by omega
    obtain ⟨h1, h2⟩ := few_of hf
    have hj := joinF_len h2
    have e1 := e_Join l [] (by omega) (by omega)
    rw [joinV_ok h2] at e1
    simp [List.replicate, go_sem, e_few, hf, q, e1]
    refine ⟨by omega, by omega, ?_⟩
    refine l_back l tail (joinF l) [] [] 0 _ (by omega) h2 ht (by omega) ?_ l [] rfl (by omega)
    have e2 := e_All (joinF l) [] (by omega)
    have ea := allF_join l ((joinF l).length + 1) [] (fun p hp => by have := h2 p hp; omega) (fun p r hh => by rw [unfr_nil] at hh; cases hh) (by simp)
    rw [List.append_nil] at ea
    rw [ea] at e2
    have s1 := e_Same false false tail tail []
    rw [beq_self_eq_true] at s1
    have s2 := e_SameAll l [] (by omega)
    simp only [allV, List.nil_append, List.length_nil, Nat.sub_zero] at e2
    simp [go_sem, e2, s1, s2, e_alive08]

theorem all_frameBack (us : List V) (h : TyArgs Go.Proofs.Try.prog Go.Proofs.Try.f13.params.toList us) : acall mach 13 us [] = some (.ret (.bool true) []) := by
  obtain ⟨u, v, rfl, h1, h2⟩ := TyArgs.two h
  obtain ⟨l, rfl⟩ := arg_bss h1
  obtain ⟨b, rfl, _⟩ := arg_bytes u22 u5 c5 h2
  exact law_back l b
end Go.Am
