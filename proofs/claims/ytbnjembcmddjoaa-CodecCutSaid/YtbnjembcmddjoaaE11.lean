/- Records: the readers, field by field; both Records. -/
import Derived.Test.YtbnjembcmddjoaaE10
import Derived.Test.YtbnjembcmddjoaaPr
set_option linter.unusedSimpArgs false
namespace Go.Am
open Go Go.Pu

/-- The program's reader in memory. -/
def SrcH (b : List UInt8) : Cur → List V → Prop
  | .ok c, o => ∃ k : Nat, k ≤ b.length ∧ b.drop k = c ∧ o = [.sl false 1 (B b), .int .i64 k, .int .i64 0]
  | .bad e, o => e ≠ 0 ∧ ∃ k : Nat, k ≤ b.length ∧ o = [.sl false 1 (B b), .int .i64 k, .int .i64 e]

theorem e_snum (b : List UInt8) (x : Cur) (o : List V) (hb : b.length ≤ 10000000) (hs : SrcH b x o) : ∃ o', SrcH b (cNum x).2 o' ∧ acall mach n_codec_source_number [.ptr 0 0] [o] = some (.ret (.int .i64 (cNum x).1) [o']) := by
  cases x with
  | bad e =>
    obtain ⟨he, k, hk, rfl⟩ := hs
    refine ⟨_, ⟨he, k, hk, rfl⟩, ?_⟩
    refine acall_fn rfl (af := a_codec_source_number) rfl rfl ?_
    simp [List.replicate, go_sem, nt' he, cNum]
  | ok c =>
    obtain ⟨k, hk, hc, rfl⟩ := hs
    have hT : List.take (b.length - k) (List.drop k b) = c := by rw [List.take_of_length_le (by simp), hc]
    have hcl : c.length = b.length - k := by rw [← hc]; simp
    have es := e_scan c [] (by omega)
    cases hd : dec 0 0 c with
    | bad e =>
      have he := dec_bad _ _ _ _ hd
      have w : IntKind.wrap .i64 (k : Int) = k := wrap_nat (by omega)
      rw [hd] at es
      refine ⟨[.sl false 1 (B b), .int .i64 k, .int .i64 e], ?_, ?_⟩
      · simp only [cNum, hd]; exact ⟨by omega, k, hk, rfl⟩
      · refine acall_fn rfl (af := a_codec_source_number) rfl rfl ?_
        simp [List.replicate, go_sem, hk, hT, hc, es, scanV, w, cNum, hd]
    | ok u r =>
      obtain ⟨d1, d2⟩ := dec_rest hd
      have w : IntKind.wrap .i64 ((k : Int) + ((c.length - r.length : Nat) : Int)) = ((k + (c.length - r.length) : Nat) : Int) := by
        have := wrap_nat (n := k + (c.length - r.length)) (by omega)
        push_cast at this
        exact this
      rw [hd] at es
      simp only [scanV] at es
      have hr : b.drop (k + (c.length - r.length)) = r := by rw [← List.drop_drop, hc, d2]
      have hk2 : k + (c.length - r.length) ≤ b.length := by omega
      generalize c.length - r.length = z at *
      refine ⟨[.sl false 1 (B b), .int .i64 ((k + z : Nat) : Int), .int .i64 0], ?_, ?_⟩
      · simp only [cNum, hd]; exact ⟨k + z, hk2, hr, rfl⟩
      · refine acall_fn rfl (af := a_codec_source_number) rfl rfl ?_
        generalize hkz : k + z = kz at *
        simp [List.replicate, go_sem, hk, hT, hc, es, w, cNum, hd]

theorem e_stxt (b : List UInt8) (x : Cur) (o : List V) (hb : b.length ≤ 10000000) (hs : SrcH b x o) : ∃ o', SrcH b (cTxt x).2 o' ∧ acall mach n_codec_source_text [.ptr 0 0] [o] = some (.ret (.str (cTxt x).1) [o']) := by
  cases x with
  | bad e =>
    obtain ⟨he, k, hk, rfl⟩ := hs
    refine ⟨_, ⟨he, k, hk, rfl⟩, ?_⟩
    refine acall_fn rfl (af := a_codec_source_text) rfl rfl ?_
    simp [List.replicate, go_sem, nt' he, cTxt]
  | ok c =>
    obtain ⟨k, hk, hc, rfl⟩ := hs
    have hT : List.take (b.length - k) (List.drop k b) = c := by rw [List.take_of_length_le (by simp), hc]
    have hcl : c.length = b.length - k := by rw [← hc]; simp
    have es := e_length c [] (by omega)
    cases hd : lenD (dec 0 0 c) with
    | bad e =>
      have he := lenD_bad hd
      have hx : txtD c = .bad e := by unfold txtD; rw [hd]
      have he0 : ¬ e = 0 := by omega
      rw [hd] at es
      refine ⟨[.sl false 1 (B b), .int .i64 k, .int .i64 e], ?_, ?_⟩
      · simp only [cTxt, hx]; exact ⟨by omega, k, hk, rfl⟩
      · refine acall_fn rfl (af := a_codec_source_text) rfl rfl ?_
        simp [List.replicate, go_sem, hk, hT, hc, es, lenV, bf' he0, nt' he0, cTxt, hx]
    | ok u r =>
      obtain ⟨d1, d2, d3⟩ := lenD_rest hd
      have hx : txtD c = if r.length < u / 2 then .bad 2 else .ok (r.take (u / 2)) (r.drop (u / 2)) := by unfold txtD; rw [hd]
      rw [hd] at es
      simp only [lenV] at es
      have hzl : c.length = (c.length - r.length) + r.length := by omega
      have hr : b.drop (k + (c.length - r.length)) = r := by rw [← List.drop_drop, hc, d2]
      generalize c.length - r.length = z at *
      generalize u / 2 = m at *
      have w1 : IntKind.wrap .i64 ((b.length : Int) - k) = (b.length : Int) - k := wrap_i64 (by omega)
      have w2 : IntKind.wrap .i64 ((b.length : Int) - k - z) = r.length := by rw [wrap_i64 (by omega)]; omega
      have w3 : IntKind.wrap .i64 ((k : Int) + z) = ((k + z : Nat) : Int) := by
        have := wrap_nat (n := k + z) (by omega)
        push_cast at this
        exact this
      have w4 : IntKind.wrap .i64 (((k + z : Nat) : Int) + m) = ((k + z + m : Nat) : Int) := by
        have := wrap_nat (n := k + z + m) (by omega)
        push_cast at this ⊢
        exact this
      by_cases h4 : r.length < m
      · rw [if_pos h4] at hx
        refine ⟨[.sl false 1 (B b), .int .i64 k, .int .i64 2], ?_, ?_⟩
        · simp only [cTxt, hx]; exact ⟨by omega, k, hk, rfl⟩
        · refine acall_fn rfl (af := a_codec_source_text) rfl rfl ?_
          simp [List.replicate, go_sem, hk, hT, hc, es, w1, w2, h4, cTxt, hx]
      · rw [if_neg h4] at hx
        have hm : k + z + m ≤ b.length := by omega
        have e1 : (b.take (k + z + m)).drop (k + z) = r.take m := by rw [List.drop_take, hr, Nat.add_sub_cancel_left]
        have e2 : b.drop (k + z + m) = r.drop m := by rw [← hr, List.drop_drop]
        have h5 : k + z ≤ k + z + m := by omega
        refine ⟨[.sl false 1 (B b), .int .i64 ((k + z + m : Nat) : Int), .int .i64 0], ?_, ?_⟩
        · simp only [cTxt, hx]; exact ⟨k + z + m, hm, e2, rfl⟩
        · refine acall_fn rfl (af := a_codec_source_text) rfl rfl ?_
          generalize hkzm : k + z + m = q at *
          generalize hkz : k + z = p at *
          simp [List.replicate, go_sem, hk, hT, hc, es, w1, w2, w3, w4, h4, h5, hm, e1, cTxt, hx]

theorem e_sflag (b : List UInt8) (x : Cur) (o : List V) (hb : b.length ≤ 10000000) (hs : SrcH b x o) : ∃ o', SrcH b (cFlag x).2 o' ∧ acall mach n_codec_source_flag [.ptr 0 0] [o] = some (.ret (.bool (cFlag x).1) [o']) := by
  obtain ⟨o1, h1, e1⟩ := e_snum b x o hb hs
  unfold cFlag
  cases hx : (cNum x).2 with
  | bad e =>
    rw [hx] at h1
    obtain ⟨he, k, hk, rfl⟩ := h1
    refine ⟨_, ⟨he, k, hk, rfl⟩, ?_⟩
    refine acall_fn rfl (af := a_codec_source_flag) rfl rfl ?_
    simp [List.replicate, go_sem, e1, bf' he]
    exact Bool.eq_iff_iff.2 (by simp)
  | ok c =>
    rw [hx] at h1
    obtain ⟨k, hk, hc, rfl⟩ := h1
    generalize (cNum x).1 = n at *
    by_cases n0 : n = 0
    · subst n0
      refine ⟨[.sl false 1 (B b), .int .i64 k, .int .i64 0], ?_, ?_⟩
      · simp only [chkFlag]; exact ⟨k, hk, hc, rfl⟩
      · refine acall_fn rfl (af := a_codec_source_flag) rfl rfl ?_
        simp [List.replicate, go_sem, e1]
    · by_cases n1 : n = 1
      · subst n1
        refine ⟨[.sl false 1 (B b), .int .i64 k, .int .i64 0], ?_, ?_⟩
        · simp only [chkFlag]; exact ⟨k, hk, hc, rfl⟩
        · refine acall_fn rfl (af := a_codec_source_flag) rfl rfl ?_
          simp [List.replicate, go_sem, e1]
      · refine ⟨[.sl false 1 (B b), .int .i64 k, .int .i64 1], ?_, ?_⟩
        · simp only [chkFlag, n0, n1, or_self, if_false]; exact ⟨by omega, k, hk, rfl⟩
        · refine acall_fn rfl (af := a_codec_source_flag) rfl rfl ?_
          simp [List.replicate, go_sem, e1, nt' n0, nt' n1, bf' n1, n1]
end Go.Am
