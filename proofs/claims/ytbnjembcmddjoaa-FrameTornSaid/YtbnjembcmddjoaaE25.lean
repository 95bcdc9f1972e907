/- The frames at the beginning, and joins: the program's. -/
import Derived.Test.YtbnjembcmddjoaaE24
import Derived.Test.YtbnjembcmddjoaaAm30
import Derived.KernelRfl
set_option linter.unusedSimpArgs false
namespace Go.Am
open Go Go.Pu

def bsv (p : List UInt8) : V := .sl false 1 (B p)
def bss (l : List (List UInt8)) : List V := l.map bsv
theorem bss_length (l : List (List UInt8)) : (bss l).length = l.length := by simp [bss]
theorem bss_snoc (l : List (List UInt8)) (p : List UInt8) : bss (l ++ [p]) = bss l ++ [.sl false 1 (B p)] := by simp [bss, bsv]
theorem bss_nth (l : List (List UInt8)) (i : Nat) (h : i < l.length) : nth (bss l) i = .sl false 1 (B l[i]) := nth_map bsv l i h
theorem bss_nil : bss [] = [] := rfl

/-- The rest of the frames is not longer. -/
theorem allF_rest : ∀ (f : Nat) (b : List UInt8), (allF f b).2.length ≤ b.length ∧ (allF f b).1.length ≤ b.length
  | 0, b => by simp [allF]
  | f + 1, b => by
    simp only [allF]
    split
    · rename_i p rest h
      have h1 := unfr_lt h
      have h2 := allF_rest f rest
      simp only [List.length_cons]
      omega
    · simp

theorem frame_rest {c p rest : List UInt8} (h : unfr c = .ok p rest) : c.drop (c.length - rest.length) = rest := by
  obtain ⟨_, rfl⟩ := unfr_ok h
  have : (frameOf p ++ rest).length - rest.length = (frameOf p).length := by simp
  rw [this, List.drop_left]

def allV (n : Nat) (acc : List (List UInt8)) (x : List (List UInt8) × List UInt8) : V := .tup [.sl true 1 (bss (acc ++ x.1)), .int .i64 ((n - x.2.length : Nat) : Int)]

theorem l_All (b : List UInt8) (h h' : Heap) (n0 : Nat) (k : List It) (r : V) (hb : b.length ≤ 100000)
    (hk : ∀ (acc : List (List UInt8)) (sz : Nat), r = .tup [.sl true 1 (bss acc), .int .i64 sz] → Run mach k (.exit 0) ⟨(.sl false 1 (B b) :: .undef :: .undef :: .undef :: .sl true 1 (bss acc) :: .int .i64 sz :: .undef :: .undef :: .undef :: .int .i64 sz :: .sl false 1 (B b) :: .int .i64 b.length :: .bool false :: .undef :: .undef :: .undef :: .undef :: .undef :: .undef :: .undef :: .undef :: .undef :: .undef :: .undef :: .undef :: .undef :: .undef :: .undef :: .undef :: .undef :: .undef :: .undef :: .undef :: .undef :: .undef :: .undef :: .undef :: .undef :: .undef :: []), h⟩ (FinQ [.tmp 2, .tmp 3] n0 (.ret r h')))
    (hk2 : ∀ (acc : List (List UInt8)) (sz : Nat) (e : Int) (c : List UInt8), r = .tup [.sl true 1 (bss acc), .int .i64 sz] → Run mach k (.exit 0) ⟨(.sl false 1 (B b) :: .undef :: .undef :: .undef :: .sl true 1 (bss acc) :: .int .i64 sz :: .int .i64 0 :: .int .i64 0 :: .int .i64 e :: .int .i64 sz :: .sl false 1 (B b) :: .int .i64 b.length :: .bool true :: .tup [.int .i64 0, .int .i64 0, .int .i64 e] :: .sl false 1 (B b) :: .int .i64 sz :: .sl false 1 (B c) :: .undef :: .int .i64 0 :: .int .i64 0 :: .int .i64 e :: .int .i64 e :: .bool true :: .undef :: .undef :: .undef :: .undef :: .undef :: .undef :: .undef :: .undef :: .undef :: .undef :: .undef :: .undef :: .undef :: .undef :: .undef :: .undef :: []), h⟩ (FinQ [.tmp 2, .tmp 3] n0 (.ret r h'))) :
    ∀ (f sz : Nat) (acc : List (List UInt8)), b.length - sz < f → sz ≤ b.length → acc.length ≤ sz → r = allV b.length acc (allF f (b.drop sz)) →
    Run mach (.c frame_All_l1b :: .lp frame_All_l1 :: k) .norm ⟨(.sl false 1 (B b) :: .undef :: .undef :: .undef :: .sl true 1 (bss acc) :: .int .i64 sz :: .undef :: .undef :: .undef :: .undef :: .undef :: .undef :: .undef :: .undef :: .undef :: .undef :: .undef :: .undef :: .undef :: .undef :: .undef :: .undef :: .undef :: .undef :: .undef :: .undef :: .undef :: .undef :: .undef :: .undef :: .undef :: .undef :: .undef :: .undef :: .undef :: .undef :: .undef :: .undef :: .undef :: []), h⟩ (FinQ [.tmp 2, .tmp 3] n0 (.ret r h'))
  | 0, sz, acc, hf, hs, ha, hr => by omega
  | f + 1, sz, acc, hf, hs, ha, hr => by
    by_cases hz : sz = b.length
    · subst hz
      have e : b.drop b.length = [] := by simp
      rw [e] at hr
      simp only [allF, unfr_nil, allV, List.append_nil, List.length_nil, Nat.sub_zero] at hr
      have := hk acc b.length hr
      unfold frame_All_l1b
      simp [go_sem]
      exact this
    · have q1 : (sz : Int) < b.length := by omega
      have q1' : sz < b.length := by omega
      have hT : List.take (b.length - sz) (List.drop sz b) = List.drop sz b := by rw [List.take_of_length_le]; simp
      have el := e_locate (b.drop sz) [] (by simp; omega)
      cases hu : unfr (b.drop sz) with
      | bad e =>
        have n0' := unfr_bad hu
        rw [hu] at el
        simp only [allF, hu, allV, List.append_nil] at hr
        have hl : (b.drop sz).length = b.length - sz := by simp
        have hl2 : b.length - (b.length - sz) = sz := by omega
        rw [hl, hl2] at hr
        have := hk2 acc sz e (b.drop sz) hr
        unfold frame_All_l1b
        simp [go_sem, q1, q1', hs, hT, el, locV, nt' n0', n0']
        exact this
      | ok p rest =>
        rw [hu] at el
        obtain ⟨c1, c2, c3, c4, c5⟩ := frame_cut hu
        have c6 := frame_rest hu
        have c7 := unfr_lt hu
        simp only [allF, hu, allV] at hr
        have hl : (b.drop sz).length = b.length - sz := by simp
        simp only [locV] at el
        rw [hl] at c1 c2 c3 c4 c5 c6 c7 el
        generalize hi : b.length - sz - rest.length - p.length = i at *
        generalize hj : b.length - sz - rest.length = j at *
        have ec := e_copied b (sz + i) (sz + j) [] (by omega) (by omega) (by omega)
        rw [List.drop_drop] at c3 c6
        have hij : sz + j - (sz + i) = j - i := by omega
        rw [hij, c3] at ec
        have ih := l_All b h h' n0 k r hb hk hk2 f (sz + j) (acc ++ [p]) (by omega) (by omega) (by simp; omega) (by
          rw [hr, c6]; simp [allV])
        rw [bss_snoc] at ih
        have w1 : IntKind.wrap .i64 ((sz : Int) + (i : Int)) = ((sz + i : Nat) : Int) := by rw [wrap_i64 (by omega)]; omega
        have w2 : IntKind.wrap .i64 ((sz : Int) + (j : Int)) = ((sz + j : Nat) : Int) := by rw [wrap_i64 (by omega)]; omega
        generalize sz + i = I at *
        generalize sz + j = J at *
        unfold frame_All_l1b
        simp [go_sem, q1, q1', hs, hT, el, w1, w2, ec, bss_length]
        refine ⟨by omega, ?_⟩
        exact ih

theorem e_All (b : List UInt8) (h : Heap) (hb : b.length ≤ 100000) : acall mach n_frame_All [.sl false 1 (B b)] h = some (.ret (allV b.length [] (allF (b.length + 1) b)) h) := by
  refine acall_fn rfl (af := a_frame_All) rfl rfl ?_
  simp [List.replicate, go_sem]
  refine l_All b h h h.length _ _ hb ?_ ?_ (b.length + 1) 0 [] (by omega) (by omega) (by simp) rfl
  · intro acc sz hr
    simp [go_sem, hr]
  · intro acc sz e c hr
    simp [go_sem, hr]

theorem l_rAll (b : List UInt8) (h h' : Heap) (n0 : Nat) (k : List It) (r : V) (hb : b.length ≤ 100000)
    (hk : ∀ (acc : List (List UInt8)) (c : List UInt8), c.length ≤ b.length → r = .tup [.sl true 1 (bss acc), .int .i64 ((b.length - c.length : Nat) : Int)] → Run mach k (.exit 0) ⟨(.sl false 1 (B b) :: .undef :: .undef :: .undef :: .sl true 1 (bss acc) :: .sl false 1 (B c) :: .undef :: .undef :: .undef :: .undef :: .undef :: .undef :: .sl false 1 (B c) :: .int .i64 0 :: .bool false :: .undef :: .undef :: .undef :: .undef :: .undef :: .undef :: .undef :: .undef :: .undef :: .undef :: .undef :: .undef :: .undef :: .undef :: .undef :: .undef :: .undef :: .undef :: .undef :: []), h⟩ (FinQ [.tmp 2, .tmp 3] n0 (.ret r h')))
    (hk2 : ∀ (acc : List (List UInt8)) (c : List UInt8), c.length ≤ b.length → r = .tup [.sl true 1 (bss acc), .int .i64 ((b.length - c.length : Nat) : Int)] → ∀ e : Int, Run mach k (.exit 0) ⟨(.sl false 1 (B b) :: .undef :: .undef :: .undef :: .sl true 1 (bss acc) :: .sl false 1 (B c) :: .sl false 1 [] :: .sl false 1 [] :: .int .i64 e :: .undef :: .undef :: .undef :: .sl false 1 (B c) :: .int .i64 c.length :: .bool true :: .tup [.undef, .undef, .int .i64 e] :: .sl false 1 (B c) :: .undef :: .sl false 1 [] :: .sl false 1 [] :: .int .i64 e :: .int .i64 e :: .bool true :: .undef :: .undef :: .undef :: .undef :: .undef :: .undef :: .undef :: .undef :: .undef :: .undef :: .undef :: []), h⟩ (FinQ [.tmp 2, .tmp 3] n0 (.ret r h'))) :
    ∀ (f : Nat) (c : List UInt8) (acc : List (List UInt8)), c.length < f → c.length ≤ b.length → acc.length + c.length ≤ b.length → r = allV b.length acc (allF f c) →
    Run mach (.c billingref08_All_l1b :: .lp billingref08_All_l1 :: k) .norm ⟨(.sl false 1 (B b) :: .undef :: .undef :: .undef :: .sl true 1 (bss acc) :: .sl false 1 (B c) :: .undef :: .undef :: .undef :: .undef :: .undef :: .undef :: .undef :: .undef :: .undef :: .undef :: .undef :: .undef :: .undef :: .undef :: .undef :: .undef :: .undef :: .undef :: .undef :: .undef :: .undef :: .undef :: .undef :: .undef :: .undef :: .undef :: .undef :: .undef :: []), h⟩ (FinQ [.tmp 2, .tmp 3] n0 (.ret r h'))
  | 0, c, acc, hf, hs, ha, hr => by omega
  | f + 1, c, acc, hf, hs, ha, hr => by
    by_cases hz : c = []
    · subst hz
      simp only [allF, unfr_nil, allV, List.append_nil] at hr
      have := hk acc [] hs hr
      unfold billingref08_All_l1b
      simp [go_sem, B_nil]
      exact this
    · have q1' : 0 < c.length := List.length_pos_iff.2 hz
      have q1 : (0 : Int) < c.length := by omega
      have el := e_rUnwrap c [] (by omega)
      cases hu : unfr c with
      | bad e =>
        have n0' := unfr_bad hu
        rw [hu] at el
        simp only [allF, hu, allV, List.append_nil] at hr
        have := hk2 acc c hs hr e
        unfold billingref08_All_l1b
        simp [go_sem, q1, q1', el, rfrV, nt' n0', n0']
        exact this
      | ok p rest =>
        rw [hu] at el
        have c7 := unfr_lt hu
        simp only [allF, hu, allV] at hr
        have ih := l_rAll b h h' n0 k r hb hk hk2 f rest (acc ++ [p]) (by omega) (by omega) (by simp; omega) (by
          rw [hr]; simp [allV])
        rw [bss_snoc] at ih
        unfold billingref08_All_l1b
        simp [go_sem, q1, q1', el, rfrV, bss_length]
        refine ⟨by omega, ?_⟩
        exact ih

theorem e_rAll (b : List UInt8) (h : Heap) (hb : b.length ≤ 100000) : acall mach n_billingref08_All [.sl false 1 (B b)] h = some (.ret (allV b.length [] (allF (b.length + 1) b)) h) := by
  refine acall_fn rfl (af := a_billingref08_All) rfl rfl ?_
  simp [List.replicate, go_sem]
  refine ⟨by omega, ?_⟩
  have w : ∀ c : List UInt8, c.length ≤ b.length → IntKind.wrap .i64 ((b.length : Int) - (c.length : Int)) = ((b.length - c.length : Nat) : Int) := fun c hc => by rw [wrap_i64 (by omega)]; omega
  refine l_rAll b h h h.length _ _ hb ?_ ?_ (b.length + 1) b [] (by omega) (by omega) (by simp) rfl
  · intro acc c hc hr
    simp [go_sem, hr, w c hc]
  · intro acc c hc hr e
    simp [go_sem, hr, w c hc]

theorem e_alive08 : acall mach n_billinglaw08_alive [] [] = some (.ret (.bool true) []) := (acall_iff _).2 ⟨60, by kernel_rfl⟩

/-- What joining gives. -/
def joinV (acc : List UInt8) (l : List (List UInt8)) : V := if l.all (fun p => decide (p.length ≤ 1048576)) then .tup [.sl true 1 (B (acc ++ joinF l)), .int .i64 0] else .tup [.sl true 1 [], .int .i64 5]

theorem l_Join (l : List (List UInt8)) (h h' : Heap) (n0 : Nat) (k : List It) (r : V) (hl : l.length ≤ 100000) (hh : h.take n0 = h')
    (hk : ∀ acc : List UInt8, r = .tup [.sl true 1 (B acc), .int .i64 0] → Run mach k (.exit 0) ⟨(.sl false 1 (bss l) :: .undef :: .undef :: .undef :: .sl true 1 (B acc) :: .undef :: .undef :: .sl false 1 (bss l) :: .int .i64 l.length :: .int .i64 l.length :: .bool false :: .undef :: .undef :: .undef :: .undef :: .undef :: .undef :: .undef :: .undef :: .undef :: .undef :: []), h⟩ (FinQ [.tmp 2, .tmp 3] n0 (.ret r h'))) :
    ∀ (rest pre : List (List UInt8)) (acc : List UInt8), pre ++ rest = l → acc.length + (joinF rest).length ≤ 5000000 → r = joinV acc rest →
    Run mach (.c frame_Join_l1b :: .lp frame_Join_l1 :: k) .norm ⟨(.sl false 1 (bss l) :: .undef :: .undef :: .undef :: .sl true 1 (B acc) :: .undef :: .undef :: .sl false 1 (bss l) :: .int .i64 l.length :: .int .i64 pre.length :: .undef :: .undef :: .undef :: .undef :: .undef :: .undef :: .undef :: .undef :: .undef :: .undef :: .undef :: []), h⟩ (FinQ [.tmp 2, .tmp 3] n0 (.ret r h'))
  | [], pre, acc, hp, hb, hr => by
    simp at hp
    subst hp
    simp [joinV, joinF] at hr
    have := hk acc hr
    unfold frame_Join_l1b
    simp [go_sem]
    exact this
  | p :: rest, pre, acc, hp, hb, hr => by
    have hlen := congrArg List.length hp
    simp at hlen
    have q1 : pre.length < l.length := by omega
    have g : nth (bss l) pre.length = .sl false 1 (B p) := by rw [bss_nth l _ q1]; simp [← hp]
    simp only [joinF, List.length_append] at hb
    have hfl := frameOf_length p
    by_cases hpl : p.length ≤ 1048576
    · have e := e_wrap acc p [] (by omega) (by omega)
      have q2 : ¬ (1048576 : Int) < p.length := by omega
      have w : IntKind.wrap .i64 ((pre.length : Int) + 1) = ((pre ++ [p]).length : Int) := by rw [wrap_i64 (by omega)]; simp
      have ih := l_Join l h h' n0 k r hl hh hk rest (pre ++ [p]) (acc ++ frameOf p) (by simp [hp]) (by simp only [List.length_append]; omega) (by
        rw [hr]; simp [joinV, joinF, hpl])
      generalize (pre ++ [p]).length = P at *
      generalize pre.length = Q at *
      unfold frame_Join_l1b
      simp [go_sem, q1, g, q2, e, w, bss_length]
      exact ih
    · have q2 : (1048576 : Int) < p.length := by omega
      simp [joinV, hpl] at hr
      subst hr
      generalize pre.length = Q at *
      unfold frame_Join_l1b
      simp [go_sem, q1, g, q2, bss_length, hh]

theorem e_Join (l : List (List UInt8)) (h : Heap) (hl : l.length ≤ 100000) (hb : (joinF l).length ≤ 5000000) : acall mach n_frame_Join [.sl false 1 (bss l)] h = some (.ret (joinV [] l) h) := by
  refine acall_fn rfl (af := a_frame_Join) rfl rfl ?_
  simp [List.replicate, go_sem, bss_length]
  refine l_Join l h h h.length _ _ hl (by simp) ?_ l [] [] rfl (by simpa using hb) rfl
  intro acc hr
  simp [go_sem, hr]
end Go.Am
