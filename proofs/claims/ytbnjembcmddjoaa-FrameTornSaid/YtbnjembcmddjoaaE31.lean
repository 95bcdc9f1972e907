/- The law FrameTorn on the machine. -/
import Derived.Test.YtbnjembcmddjoaaE30
set_option linter.unusedSimpArgs false
namespace Go.Am
open Go Go.Pu

theorem joinF_append : ∀ (a b : List (List UInt8)), joinF (a ++ b) = joinF a ++ joinF b
  | [], b => rfl
  | p :: a, b => by simp [joinF, joinF_append a b]

/-- Where the whole frames end. -/
structure Cut (l : List (List UInt8)) (torn : List UInt8) (pre : List (List UInt8)) (c : List UInt8) : Prop where
  l1 : ∃ rest, l = pre ++ rest
  t1 : torn = joinF pre ++ c
  u1 : unfr c = .bad 2

theorem cut_nil {l : List (List UInt8)} {n : Nat} (hs : (joinF l).length ≤ ((joinF l).take n).length) : Cut l ((joinF l).take n) l [] := by
  refine ⟨⟨[], by simp⟩, ?_, unfr_nil⟩
  rw [List.length_take] at hs
  rw [List.append_nil, List.take_of_length_le (by omega)]
theorem cut_cons {l pre rest : List (List UInt8)} {p : List UInt8} {n : Nat} (hl : l = pre ++ p :: rest) (hp : p.length ≤ 60) (hs : (joinF pre).length ≤ n) (hb : n < (joinF pre).length + (frameOf p).length) : Cut l ((joinF l).take n) pre ((frameOf p).take (n - (joinF pre).length)) := by
  refine ⟨⟨_, hl⟩, ?_, ?_⟩
  · rw [hl, joinF_append, joinF, List.take_append, List.take_of_length_le hs, List.take_append]
    have : n - (joinF pre).length - (frameOf p).length = 0 := by omega
    rw [this, List.take_zero, List.append_nil]
  · exact unfr_cut (by omega) (List.take_prefix _ _) (by rw [List.length_take]; omega)

theorem l_torn (l : List (List UInt8)) (n : Nat) (h h' : Heap) (n0 : Nat) (k : List It) (r : Rt) (hl : l.length ≤ 100000) (hp2 : ∀ p ∈ l, p.length ≤ 60) (hn : n ≤ (joinF l).length) (hj : (joinF l).length ≤ 100000)
    (hk : Cut l ((joinF l).take n) l [] → Run mach k (.exit 0) ⟨(.sl false 1 (bss l) :: .undef :: .undef :: .undef :: .undef :: .undef :: .undef :: .sl false 1 (B ((joinF l).take n)) :: .int .i64 l.length :: .int .i64 (joinF l).length :: .undef :: .undef :: .undef :: .undef :: .undef :: .undef :: .undef :: .undef :: .undef :: .undef :: .undef :: .undef :: .undef :: .undef :: .undef :: .undef :: .undef :: .undef :: .undef :: .undef :: .undef :: .undef :: .undef :: .undef :: .undef :: .undef :: .int .i64 l.length :: .sl false 1 (bss l) :: .int .i64 l.length :: .bool false :: .undef :: .undef :: .undef :: .undef :: .undef :: .undef :: .undef :: .undef :: .undef :: .undef :: .undef :: .undef :: .undef :: .undef :: .undef :: .undef :: .undef :: .undef :: .undef :: .undef :: .undef :: .undef :: .undef :: .undef :: .undef :: .undef :: .undef :: .undef :: .undef :: .undef :: .undef :: .undef :: .undef :: .undef :: .undef :: .undef :: .undef :: .undef :: .undef :: .undef :: .undef :: .undef :: .undef :: .undef :: .undef :: .undef :: .undef :: .undef :: .undef :: .undef :: .undef :: .undef :: .undef :: .undef :: .undef :: .undef :: .undef :: []), h⟩ (FinQ [.tmp 4] n0 r))
    (hk2 : ∀ (pre : List (List UInt8)) (p c F : List UInt8) (J : Nat), pre.length ≤ l.length → (joinF pre).length ≤ n → Cut l ((joinF l).take n) pre c → Run mach k (.exit 0) ⟨(.sl false 1 (bss l) :: .undef :: .undef :: .undef :: .undef :: .undef :: .undef :: .sl false 1 (B ((joinF l).take n)) :: .int .i64 pre.length :: .int .i64 (joinF pre).length :: .sl false 1 (B F) :: .int .i64 0 :: .undef :: .undef :: .undef :: .undef :: .undef :: .undef :: .undef :: .undef :: .undef :: .undef :: .undef :: .undef :: .undef :: .undef :: .undef :: .undef :: .undef :: .undef :: .undef :: .undef :: .undef :: .undef :: .undef :: .undef :: .int .i64 pre.length :: .sl false 1 (bss l) :: .int .i64 l.length :: .bool true :: .tup [.undef, .int .i64 0] :: .sl false 1 (bss l) :: .int .i64 pre.length :: .rptr [.sl false 1 (B p)] :: .sl false 1 (B p) :: .undef :: .sl false 1 (B F) :: .int .i64 0 :: .int .i64 0 :: .bool false :: .int .i64 (joinF pre).length :: .sl false 1 (B F) :: .int .i64 F.length :: .int .i64 J :: .sl false 1 (B ((joinF l).take n)) :: .int .i64 n :: .bool true :: .undef :: .undef :: .undef :: .undef :: .undef :: .undef :: .undef :: .undef :: .undef :: .undef :: .undef :: .undef :: .undef :: .undef :: .undef :: .undef :: .undef :: .undef :: .undef :: .undef :: .undef :: .undef :: .undef :: .undef :: .undef :: .undef :: .undef :: .undef :: .undef :: .undef :: .undef :: .undef :: .undef :: .undef :: .undef :: .undef :: .undef :: .undef :: .undef :: .undef :: []), h⟩ (FinQ [.tmp 4] n0 r)) :
    ∀ (rest pre : List (List UInt8)), pre ++ rest = l → (joinF pre).length ≤ n →
    Run mach (.c billinglaw08_FrameTorn_l1b :: .lp billinglaw08_FrameTorn_l1 :: k) .norm ⟨(.sl false 1 (bss l) :: .undef :: .undef :: .undef :: .undef :: .undef :: .undef :: .sl false 1 (B ((joinF l).take n)) :: .int .i64 pre.length :: .int .i64 (joinF pre).length :: .undef :: .undef :: .undef :: .undef :: .undef :: .undef :: .undef :: .undef :: .undef :: .undef :: .undef :: .undef :: .undef :: .undef :: .undef :: .undef :: .undef :: .undef :: .undef :: .undef :: .undef :: .undef :: .undef :: .undef :: .undef :: .undef :: .undef :: .undef :: .undef :: .undef :: .undef :: .undef :: .undef :: .undef :: .undef :: .undef :: .undef :: .undef :: .undef :: .undef :: .undef :: .undef :: .undef :: .undef :: .undef :: .undef :: .undef :: .undef :: .undef :: .undef :: .undef :: .undef :: .undef :: .undef :: .undef :: .undef :: .undef :: .undef :: .undef :: .undef :: .undef :: .undef :: .undef :: .undef :: .undef :: .undef :: .undef :: .undef :: .undef :: .undef :: .undef :: .undef :: .undef :: .undef :: .undef :: .undef :: .undef :: .undef :: .undef :: .undef :: .undef :: .undef :: .undef :: .undef :: .undef :: .undef :: .undef :: []), h⟩ (FinQ [.tmp 4] n0 r)
  | [], pre, hp, hs => by
    simp at hp
    subst hp
    have := hk (cut_nil (by rw [List.length_take]; omega))
    unfold billinglaw08_FrameTorn_l1b
    simp [go_sem, bss_length]
    exact this
  | p :: rest, pre, hp, hs => by
    have hlen := congrArg List.length hp
    simp at hlen
    have q1 : pre.length < l.length := by omega
    have g : nth (bss l) pre.length = .sl false 1 (B p) := by rw [bss_nth l _ q1]; simp [← hp]
    have hpl : p.length ≤ 60 := hp2 p (by rw [← hp]; simp)
    have w : IntKind.wrap .i64 ((pre.length : Int) + 1) = ((pre ++ [p]).length : Int) := by rw [wrap_i64 (by omega)]; simp
    have hf := frame60 hpl
    have e2 := e_Wrap p [] (by omega)
    have q5 : p.length ≤ 1048576 := by omega
    simp only [wrapV, if_pos q5] at e2
    have hjp : (joinF (pre ++ [p])).length = (joinF pre).length + (frameOf p).length := by rw [joinF_append, List.length_append, joinF, joinF, List.append_nil]
    have w2 : IntKind.wrap .i64 (((joinF pre).length : Int) + ((frameOf p).length : Int)) = ((joinF (pre ++ [p])).length : Int) := by rw [wrap_i64 (by omega)]; omega
    have hT : ((joinF l).take n).length = n := by rw [List.length_take]; omega
    by_cases hb : n < (joinF pre).length + (frameOf p).length
    · have hc := hk2 pre p _ (frameOf p) (joinF (pre ++ [p])).length (by omega) hs (cut_cons hp.symm hpl hs hb)
      have q3 : (n : Int) < ((joinF (pre ++ [p])).length : Int) := by omega
      generalize (joinF l).take n = T at *
      generalize (joinF (pre ++ [p])).length = J at *
      generalize (pre ++ [p]).length = P at *
      generalize hQ : pre.length = Q at *
      unfold billinglaw08_FrameTorn_l1b
      simp [go_sem, q1, g, w, w2, e2, hT, q3, bss_length]
      exact hc
    · have ih := l_torn l n h h' n0 k r hl hp2 hn hj hk hk2 rest (pre ++ [p]) (by simp [hp]) (by omega)
      have q3 : ¬ ((n : Int) < ((joinF (pre ++ [p])).length : Int)) := by omega
      generalize (joinF l).take n = T at *
      generalize (joinF (pre ++ [p])).length = J at *
      generalize (pre ++ [p]).length = P at *
      generalize pre.length = Q at *
      unfold billinglaw08_FrameTorn_l1b
      simp [go_sem, q1, g, w, w2, e2, hT, q3, bss_length]
      exact ih

theorem fin_torn (l pre : List (List UInt8)) (torn c : List UInt8) (hc : Cut l torn pre c) (hT : torn.length ≤ 100000) (h2 : ∀ p ∈ l, p.length ≤ 60) (h : Heap) : acall mach n_frame_All [.sl false 1 (B torn)] h = some (.ret (.tup [.sl true 1 (bss pre), .int .i64 (joinF pre).length]) h) ∧ torn.drop (joinF pre).length = c ∧ pre = l.take pre.length ∧ torn.length = (joinF pre).length + c.length := by
  obtain ⟨⟨rest, hl⟩, ht, hu⟩ := hc
  have e := e_All torn h hT
  have ea := allF_join pre (torn.length + 1) c (fun p hp => by have := h2 p (by rw [hl]; simp [hp]); omega) (fun p r hh => by rw [hu] at hh; cases hh) (by rw [← ht]; omega)
  rw [← ht] at ea
  rw [ea] at e
  have hlen : torn.length = (joinF pre).length + c.length := by rw [ht, List.length_append]
  have hs : torn.length - c.length = (joinF pre).length := by omega
  simp only [allV, List.nil_append, hs] at e
  exact ⟨e, by rw [ht, List.drop_left], by rw [hl, List.take_left], hlen⟩

theorem law_torn (l : List (List UInt8)) (c : Nat) (hc : c ≤ 65535) : acall mach n_billinglaw08_FrameTorn [.sl false 1 (bss l), .int .u16 c] [] = some (.ret (.bool true) []) := by
  refine acall_fn rfl (af := a_billinglaw08_FrameTorn) rfl rfl ?_
  cases hf : fewB l with
  | false => simp [List.replicate, go_sem, e_few, hf, e_alive08]
  | true =>
    obtain ⟨h1, h2⟩ := few_of hf
    have hj := joinF_len h2
    have e1 := e_Join l [] (by omega) (by omega)
    rw [joinV_ok h2] at e1
    have w1 : IntKind.wrap .i64 (c : Int) = (c : Int) := wrap_i64 (by omega)
    have w2 : IntKind.wrap .i64 (((joinF l).length : Int) + 1) = (((joinF l).length + 1 : Nat) : Int) := by rw [wrap_i64 (by omega)]; omega
    have t : (c : Int).tmod (((joinF l).length + 1 : Nat) : Int) = ((c % ((joinF l).length + 1) : Nat) : Int) := rfl
    have hn : c % ((joinF l).length + 1) ≤ (joinF l).length := by have := Nat.mod_lt c (show 0 < (joinF l).length + 1 by omega); omega
    have hnz : ¬ ((joinF l).length + 1 = 0) := by omega
    generalize c % ((joinF l).length + 1) = n at *
    generalize hL1 : (joinF l).length + 1 = L1 at *
    have hnz' : ¬ ((L1 : Int) = 0) := by omega
    have w3 : IntKind.wrap .i64 (n : Int) = (n : Int) := wrap_i64 (by omega)
    simp [List.replicate, go_sem, e_few, hf, e1, w1, w2, w3, t, hn, hnz, hnz']
    have hT : ((joinF l).take n).length = n := by rw [List.length_take]; omega
    refine l_torn l n [] [] 0 _ _ (by omega) h2 hn (by omega) ?_ ?_ l [] rfl (by simp [joinF])
    · intro hcut
      obtain ⟨f1, f2, f3, f4⟩ := fin_torn l l _ _ hcut (by omega) h2 []
      have s := e_SameAll l [] (by omega)
      have e : (joinF l).length = n := by rw [hT] at f4; simp only [List.length_nil] at f4; omega
      rw [e] at f1
      rw [e]
      generalize (joinF l).take n = T at *
      have tk : (bss l).take l.length = bss l := by rw [List.take_of_length_le]; rw [bss_length]; exact Nat.le_refl _
      simp [go_sem, f1, s, tk, hT, bss_length, e_alive08]
    · intro pre p c' F J hpl hps hcut
      obtain ⟨f1, f2, f3, f4⟩ := fin_torn l pre _ _ hcut (by omega) h2 []
      have s := e_SameAll pre [] (by omega)
      have tk : (bss l).take pre.length = bss pre := by unfold bss; rw [← List.map_take, ← f3]
      have u := hcut.u1
      have eu := e_Unwrap c' [] (by omega)
      rw [u] at eu
      have tk2 : (c'.take (n - (joinF pre).length)) = c' := by rw [List.take_of_length_le]; omega
      generalize (joinF l).take n = T at *
      generalize (joinF pre).length = S at *
      generalize hpL : pre.length = PL at *
      simp only [frV] at eu
      by_cases hSn : S = n
      · subst hSn
        simp [go_sem, f1, s, tk, hT, bss_length, hpl, e_alive08]
      · have hSn' : ¬ ((S : Int) = (n : Int)) := by omega
        have tkT : T.take n = T := by rw [List.take_of_length_le]; omega
        have tk3 : ((B T).drop S).take (n - S) = B c' := by rw [B_drop, f2, B_take, tk2]
        simp [go_sem, f1, s, tk, hT, bss_length, hpl, hSn, hSn', bf' hSn', hps, f2, tkT, tk2, tk3, eu, e_alive08]

theorem all_frameTorn (us : List V) (h : TyArgs Go.Proofs.Try.prog Go.Proofs.Try.f14.params.toList us) : acall mach 14 us [] = some (.ret (.bool true) []) := by
  obtain ⟨u, v, rfl, h1, h2⟩ := TyArgs.two h
  obtain ⟨l, rfl⟩ := arg_bss h1
  obtain ⟨n, rfl, hn⟩ := arg_int (show Go.Proofs.Try.prog.underlying 59 = some (.int .u16) by kernel_rfl) h2
  have hb : 0 ≤ n ∧ n ≤ 65535 := by
    simp [Lit.wf, IntKind.min, IntKind.max, IntKind.signed, IntKind.bits] at hn
    omega
  obtain ⟨c, rfl⟩ := Int.eq_ofNat_of_zero_le hb.1
  exact law_torn l c (by omega)
end Go.Am
