/- Lists of numbers: decoding; the law CodecReads. -/
import Derived.Test.YtbnjembcmddjoaaE7
set_option linter.unusedSimpArgs false
namespace Go.Am
open Go Go.Pu

def iv (n : Int) : V := .int .i64 n
def nsV (acc : List Int) (d : Ns) : V := .tup [.sl true 1 ((ml acc d).map iv), .sl true 1 (B (mr d)), .int .i64 (me d)]

theorem l_nums (b : List UInt8) (h h' : Heap) (n0 : Nat) (k : List It) (r : V) (m : Nat) (hb : b.length ≤ 100000000) (hm : m ≤ 1048576) (hh : h.take n0 = h')
    (hk : ∀ (acc : List Int) (sz : Nat), sz ≤ b.length → r = nsV acc (.ok [] (b.drop sz)) → Run mach k (.exit 0) ⟨(.sl false 1 (B b) :: .undef :: .undef :: .undef :: .undef :: .int .i64 m :: .int .i64 sz :: .undef :: .sl true 1 (acc.map iv) :: .int .i64 m :: .undef :: .undef :: .undef :: .undef :: .undef :: .undef :: .undef :: .undef :: .undef :: .undef :: .undef :: .undef :: .int .i64 m :: .int .i64 m :: .bool false :: .undef :: .undef :: .undef :: .undef :: .undef :: .undef :: .undef :: .undef :: .undef :: .undef :: .undef :: .undef :: .undef :: .undef :: .undef :: .undef :: .undef :: .undef :: .undef :: .undef :: .undef :: .undef :: .undef :: .undef :: []), h⟩ (FinQ [.tmp 2, .tmp 3, .tmp 4] n0 (.ret r h'))) :
    ∀ (n i sz : Nat) (acc : List Int), i + n = m → acc.length ≤ i → sz ≤ b.length → r = nsV acc (decNs n (b.drop sz)) →
    Run mach (.c codec_Numbers_l1b :: .lp codec_Numbers_l1 :: k) .norm ⟨(.sl false 1 (B b) :: .undef :: .undef :: .undef :: .undef :: .int .i64 m :: .int .i64 sz :: .undef :: .sl true 1 (acc.map iv) :: .int .i64 i :: .undef :: .undef :: .undef :: .undef :: .undef :: .undef :: .undef :: .undef :: .undef :: .undef :: .undef :: .undef :: .undef :: .undef :: .undef :: .undef :: .undef :: .undef :: .undef :: .undef :: .undef :: .undef :: .undef :: .undef :: .undef :: .undef :: .undef :: .undef :: .undef :: .undef :: .undef :: .undef :: .undef :: .undef :: .undef :: .undef :: .undef :: .undef :: .undef :: []), h⟩ (FinQ [.tmp 2, .tmp 3, .tmp 4] n0 (.ret r h'))
  | 0, i, sz, acc, hi, ha, hsz, hr => by
    obtain rfl : i = m := by omega
    have := hk acc sz hsz hr
    unfold codec_Numbers_l1b
    simp [go_sem]
    exact this
  | n + 1, i, sz, acc, hi, ha, hsz, hr => by
    have q1 : i < m := by omega
    have hT : List.take (b.length - sz) (List.drop sz b) = List.drop sz b := by rw [List.take_of_length_le]; simp
    have es := e_scan (b.drop sz) [] (by simp; omega)
    cases hd : dec 0 0 (b.drop sz) with
    | bad e =>
      have he := dec_bad _ _ _ _ hd
      have h0 := nt' (show ¬ e = 0 by omega)
      rw [hd] at es
      rw [decNs_bad hd] at hr
      subst hr
      unfold codec_Numbers_l1b
      simp [go_sem, q1, hsz, hT, es, scanV, h0, nsV, ml, mr, me, hh, B_nil]
    | ok u rs =>
      obtain ⟨d1, d2⟩ := dec_rest hd
      have ih := l_nums b h h' n0 k r m hb hm hh hk n (i + 1) (sz + ((b.drop sz).length - rs.length)) (acc ++ [unzz u]) (by omega) (by simp; omega) (by simp; omega) (by
        rw [hr, decNs_ok hd]
        unfold nsV
        rw [ml_cons, mr_cons, me_cons, ← List.drop_drop, d2])
      rw [hd] at es
      simp only [scanV] at es
      have hw : sz + ((b.drop sz).length - rs.length) ≤ b.length := by simp; omega
      generalize (b.drop sz).length - rs.length = w at *
      have ws := wrap_succ (show i < 4611686018427387904 by omega)
      have w2 : IntKind.wrap .i64 ((sz : Int) + w) = (sz : Int) + w := wrap_i64 (by omega)
      simp only [List.map_append, List.map_cons, List.map_nil, iv] at ih
      unfold codec_Numbers_l1b
      simp [go_sem, q1, hsz, hT, es, ws, w2]
      refine ⟨by omega, ?_⟩
      exact ih

theorem e_Numbers (b : List UInt8) (h : Heap) (hb : b.length ≤ 100000000) : acall mach n_codec_Numbers [.sl false 1 (B b)] h = some (.ret (nsV [] (numsD b)) h) := by
  refine acall_fn rfl (af := a_codec_Numbers) rfl rfl ?_
  have el := e_length b [] hb
  cases hd : lenD (dec 0 0 b) with
  | bad e =>
    have he := lenD_bad hd
    have h0 := nt' (show ¬ e = 0 by omega)
    have hT : numsD b = .bad e := by unfold numsD; rw [hd]
    rw [hd] at el
    rw [hT]
    simp [List.replicate, go_sem, el, lenV, h0, nsV, ml, mr, me, B_nil]
  | ok u r =>
    obtain ⟨h1, h2, h3⟩ := lenD_rest hd
    have hT : numsD b = decNs (u / 2) r := by unfold numsD; rw [hd]
    rw [hd] at el
    simp only [lenV] at el
    rw [hT]
    have hsz : b.length - r.length ≤ b.length := by omega
    generalize b.length - r.length = sz at *
    generalize u / 2 = m at *
    simp [List.replicate, go_sem, el]
    refine l_nums b h h h.length _ _ m hb (by omega) (by simp) (fun acc sz hsz hr => ?_) m 0 sz [] (by omega) (Nat.le_refl _) hsz (by rw [h2])
    rw [hr]
    simp [go_sem, e_rest _ _ _ hb hsz, nsV, ml, mr, me]

theorem l_rnums (h h' : Heap) (n0 : Nat) (k : List It) (r : V) (m : Nat) (hm : m ≤ 1048576) (hh : h.take n0 = h')
    (hk : ∀ (acc : List Int) (c : List UInt8), r = nsV acc (.ok [] c) → Run mach k (.exit 0) ⟨(.undef :: .undef :: .undef :: .undef :: .undef :: .int .i64 m :: .sl true 1 (B c) :: .undef :: .sl true 1 (acc.map iv) :: .int .i64 m :: .undef :: .undef :: .undef :: .undef :: .undef :: .undef :: .undef :: .undef :: .undef :: .undef :: .undef :: .undef :: .int .i64 m :: .int .i64 m :: .bool false :: .undef :: .undef :: .undef :: .undef :: .undef :: .undef :: .undef :: .undef :: .undef :: .undef :: .undef :: .undef :: .undef :: .undef :: .undef :: .undef :: .undef :: .undef :: []), h⟩ (FinQ [.tmp 2, .tmp 3, .tmp 4] n0 (.ret r h'))) :
    ∀ (n i : Nat) (c : List UInt8) (acc : List Int), i + n = m → acc.length ≤ i → c.length ≤ 100000000 → r = nsV acc (decNs n c) →
    Run mach (.c billingref07_Numbers_l1b :: .lp billingref07_Numbers_l1 :: k) .norm ⟨(.undef :: .undef :: .undef :: .undef :: .undef :: .int .i64 m :: .sl true 1 (B c) :: .undef :: .sl true 1 (acc.map iv) :: .int .i64 i :: .undef :: .undef :: .undef :: .undef :: .undef :: .undef :: .undef :: .undef :: .undef :: .undef :: .undef :: .undef :: .undef :: .undef :: .undef :: .undef :: .undef :: .undef :: .undef :: .undef :: .undef :: .undef :: .undef :: .undef :: .undef :: .undef :: .undef :: .undef :: .undef :: .undef :: .undef :: .undef :: .undef :: []), h⟩ (FinQ [.tmp 2, .tmp 3, .tmp 4] n0 (.ret r h'))
  | 0, i, c, acc, hi, ha, hc, hr => by
    obtain rfl : i = m := by omega
    have := hk acc c hr
    unfold billingref07_Numbers_l1b
    simp [go_sem]
    exact this
  | n + 1, i, c, acc, hi, ha, hc, hr => by
    have q1 : i < m := by omega
    have es := e_rNumber c [] hc
    cases hd : dec 0 0 c with
    | bad e =>
      have he := dec_bad _ _ _ _ hd
      have h0 := nt' (show ¬ e = 0 by omega)
      rw [hd] at es
      rw [decNs_bad hd] at hr
      subst hr
      unfold billingref07_Numbers_l1b
      simp [go_sem, q1, es, numV, nv, nr, ne, h0, nsV, ml, mr, me, hh, B_nil]
    | ok u rs =>
      obtain ⟨d1, d2⟩ := dec_rest hd
      have ih := l_rnums h h' n0 k r m hm hh hk n (i + 1) rs (acc ++ [unzz u]) (by omega) (by simp; omega) (by omega) (by
        rw [hr, decNs_ok hd]
        unfold nsV
        rw [ml_cons, mr_cons, me_cons])
      rw [hd] at es
      have ws := wrap_succ (show i < 4611686018427387904 by omega)
      simp only [List.map_append, List.map_cons, List.map_nil, iv] at ih
      unfold billingref07_Numbers_l1b
      simp [go_sem, q1, es, numV, nv, nr, ne, ws]
      refine ⟨by omega, ?_⟩
      exact ih

theorem e_rNumbers (b : List UInt8) (h : Heap) (hb : b.length ≤ 100000000) : acall mach n_billingref07_Numbers [.sl false 1 (B b)] h = some (.ret (nsV [] (numsD b)) h) := by
  refine acall_fn rfl (af := a_billingref07_Numbers) rfl rfl ?_
  have el := e_rlength b [] hb
  cases hd : lenD (dec 0 0 b) with
  | bad e =>
    have he := lenD_bad hd
    have h0 := nt' (show ¬ e = 0 by omega)
    have hT : numsD b = .bad e := by unfold numsD; rw [hd]
    rw [hd] at el
    rw [hT]
    simp [List.replicate, go_sem, el, numV, nv, nr, ne, h0, nsV, ml, mr, me, B_nil]
  | ok u r =>
    obtain ⟨h1, h2, h3⟩ := lenD_rest hd
    obtain ⟨_, _, _, hz⟩ := lenD_ok hd
    have hT : numsD b = decNs (u / 2) r := by unfold numsD; rw [hd]
    rw [hd] at el
    simp only [numV, nv, nr, ne, hz] at el
    rw [hT]
    generalize u / 2 = m at *
    simp [List.replicate, go_sem, el]
    refine l_rnums h h h.length _ _ m (by omega) (by simp) (fun acc c hr => ?_) m 0 r [] (by omega) (Nat.le_refl _) (by omega) rfl
    rw [hr]
    simp [go_sem, nsV, ml, mr, me]

theorem l_sameints (l m : List Int) (h h' : Heap) (n0 : Nat) (k : List It) (hl : l.length ≤ 100000000) (hm : l.length = m.length)
    (hk : Run mach k (.exit 0) ⟨(.sl false 1 (l.map iv) :: .sl false 1 (m.map iv) :: .undef :: .undef :: .undef :: .int .i64 l.length :: .undef :: .undef :: .undef :: .undef :: .undef :: .int .i64 l.length :: .sl false 1 (l.map iv) :: .int .i64 l.length :: .bool false :: .undef :: .undef :: .undef :: .undef :: .undef :: .undef :: .undef :: .undef :: .undef :: .undef :: .undef :: []), h⟩ (FinQ [.tmp 4] n0 (.ret (.bool true) h')))
    (hh : h.take n0 = h') : ∀ (n i : Nat), i + n = l.length →
    Run mach (.c billingref07_SameInts_l1b :: .lp billingref07_SameInts_l1 :: k) .norm ⟨(.sl false 1 (l.map iv) :: .sl false 1 (m.map iv) :: .undef :: .undef :: .undef :: .int .i64 i :: .undef :: .undef :: .undef :: .undef :: .undef :: .undef :: .undef :: .undef :: .undef :: .undef :: .undef :: .undef :: .undef :: .undef :: .undef :: .undef :: .undef :: .undef :: .undef :: .undef :: []), h⟩ (FinQ [.tmp 4] n0 (.ret (.bool (l.drop i == m.drop i)) h'))
  | 0, i, hi => by
    obtain rfl : i = l.length := by omega
    unfold billingref07_SameInts_l1b
    have e1 : l.drop l.length = [] := by simp
    have e2 : m.drop l.length = [] := by rw [hm]; simp
    rw [e1, e2]
    simp [go_sem]
    exact hk
  | n + 1, i, hi => by
    have hil : i < l.length := by omega
    have him : i < m.length := by omega
    have ih := l_sameints l m h h' n0 k hl hm hk hh n (i + 1) (by omega)
    rw [List.drop_eq_getElem_cons hil, List.drop_eq_getElem_cons him]
    unfold billingref07_SameInts_l1b
    by_cases hq : l[i] = m[i]
    · have e : (l[i] :: l.drop (i + 1) == m[i] :: m.drop (i + 1)) = (l.drop (i + 1) == m.drop (i + 1)) := by rw [List.cons_beq_cons, hq, beq_self_eq_true, Bool.true_and]
      rw [e]
      simp [go_sem, hil, him, iv, nf' hq, wrap_succ (show i < 4611686018427387904 by omega)]
      exact ih
    · have e : (l[i] :: l.drop (i + 1) == m[i] :: m.drop (i + 1)) = false := by rw [List.cons_beq_cons, beq_false_of_ne hq, Bool.false_and]
      rw [e]
      simp [go_sem, hil, him, iv, nt' hq, hh]

theorem e_SameInts (l m : List Int) (h : Heap) (hl : l.length ≤ 100000000) : acall mach n_billingref07_SameInts [.sl false 1 (l.map iv), .sl false 1 (m.map iv)] h = some (.ret (.bool (l == m)) h) := by
  refine acall_fn rfl (af := a_billingref07_SameInts) rfl rfl ?_
  by_cases hm : l.length = m.length
  · have H : ∀ k, Run mach k (.exit 0) ⟨(.sl false 1 (l.map iv) :: .sl false 1 (m.map iv) :: .undef :: .undef :: .undef :: .int .i64 l.length :: .undef :: .undef :: .undef :: .undef :: .undef :: .int .i64 l.length :: .sl false 1 (l.map iv) :: .int .i64 l.length :: .bool false :: .undef :: .undef :: .undef :: .undef :: .undef :: .undef :: .undef :: .undef :: .undef :: .undef :: .undef :: []), h⟩ (FinQ [.tmp 4] h.length (.ret (.bool true) h)) → Run mach (.c billingref07_SameInts_l1b :: .lp billingref07_SameInts_l1 :: k) .norm ⟨(.sl false 1 (l.map iv) :: .sl false 1 (m.map iv) :: .undef :: .undef :: .undef :: .int .i64 0 :: .undef :: .undef :: .undef :: .undef :: .undef :: .undef :: .undef :: .undef :: .undef :: .undef :: .undef :: .undef :: .undef :: .undef :: .undef :: .undef :: .undef :: .undef :: .undef :: .undef :: []), h⟩ (FinQ [.tmp 4] h.length (.ret (.bool (l == m)) h)) :=
      fun k hk => l_sameints l m h h _ k hl hm hk (by simp) l.length 0 (Nat.zero_add _)
    simp [List.replicate, go_sem, hm]
    refine H _ ?_
    simp [go_sem]
  · have : (l == m) = false := by
      have : l ≠ m := fun e => hm (by rw [e])
      simpa using this
    rw [this]
    have h2 : ¬ (l.length : Int) = m.length := by omega
    simp [List.replicate, go_sem, h2]

theorem law_reads (b : List UInt8) : acall mach n_billinglaw07_CodecReads [.sl false 1 (B b)] [] = some (.ret (.bool true) []) := by
  refine acall_fn rfl (af := a_billinglaw07_CodecReads) rfl rfl ?_
  by_cases hb : b.length ≤ 300
  · have q : ¬ (300 : Int) < b.length := by omega
    have hb' : b.length ≤ 100000000 := by omega
    have hl : (ml [] (numsD b)).length ≤ 100000000 := by have := numsD_len (b := b); omega
    simp [List.replicate, go_sem, q, e_Number' b _ hb', e_rNumber b _ hb', e_Numbers b _ hb', e_rNumbers b _ hb', numV, nsV, e_Same, e_SameInts _ _ _ hl, e_alive07]
  · have q : (300 : Int) < b.length := by omega
    simp [List.replicate, go_sem, q, e_alive07]

theorem all_codecReads (us : List V) (h : TyArgs Go.Proofs.Try.prog Go.Proofs.Try.f6.params.toList us) : acall mach 6 us [] = some (.ret (.bool true) []) := by
  obtain ⟨u, rfl, h1⟩ := TyArgs.one h
  obtain ⟨b, rfl, _⟩ := arg_bytes u22 u5 c5 h1
  exact law_reads b
end Go.Am
