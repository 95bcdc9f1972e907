/- The reference's reader. -/
import Derived.Test.YtbnjembcmddjoaaE11
set_option linter.unusedSimpArgs false
namespace Go.Am
open Go Go.Pu

def RdH : Cur → List V → Prop
  | .ok c, o => c.length ≤ 10000000 ∧ o = [.sl false 1 (B c), .int .i64 0]
  | .bad e, o => e ≠ 0 ∧ ∃ c : List UInt8, o = [.sl false 1 (B c), .int .i64 e]

theorem e_rnumF (x : Cur) (o : List V) (hs : RdH x o) : ∃ o', RdH (cNum x).2 o' ∧ acall mach n_billingref07_reader_number [.ptr 0 0] [o] = some (.ret (.int .i64 (cNum x).1) [o']) := by
  cases x with
  | bad e =>
    obtain ⟨he, c, rfl⟩ := hs
    refine ⟨_, ⟨he, c, rfl⟩, ?_⟩
    refine acall_fn rfl (af := a_billingref07_reader_number) rfl rfl ?_
    simp [List.replicate, go_sem, nt' he, cNum]
  | ok c =>
    obtain ⟨hl, rfl⟩ := hs
    have es := e_rNumber c [] (by omega)
    cases hd : dec 0 0 c with
    | bad e =>
      have he := dec_bad _ _ _ _ hd
      rw [hd] at es
      refine ⟨[.sl false 1 (B []), .int .i64 e], ?_, ?_⟩
      · simp only [cNum, hd]; exact ⟨by omega, [], rfl⟩
      · refine acall_fn rfl (af := a_billingref07_reader_number) rfl rfl ?_
        simp [List.replicate, go_sem, es, numV, nv, nr, ne, cNum, hd]
    | ok u r =>
      obtain ⟨d1, d2⟩ := dec_rest hd
      rw [hd] at es
      refine ⟨[.sl false 1 (B r), .int .i64 0], ?_, ?_⟩
      · simp only [cNum, hd]; exact ⟨by omega, rfl⟩
      · refine acall_fn rfl (af := a_billingref07_reader_number) rfl rfl ?_
        simp [List.replicate, go_sem, es, numV, nv, nr, ne, cNum, hd]

theorem e_rtxtF (x : Cur) (o : List V) (hs : RdH x o) : ∃ o', RdH (cTxt x).2 o' ∧ acall mach n_billingref07_reader_text [.ptr 0 0] [o] = some (.ret (.str (cTxt x).1) [o']) := by
  cases x with
  | bad e =>
    obtain ⟨he, c, rfl⟩ := hs
    refine ⟨_, ⟨he, c, rfl⟩, ?_⟩
    refine acall_fn rfl (af := a_billingref07_reader_text) rfl rfl ?_
    simp [List.replicate, go_sem, nt' he, cTxt]
  | ok c =>
    obtain ⟨hl, rfl⟩ := hs
    have es := e_rText c [] (by omega)
    cases hd : txtD c with
    | bad e =>
      have he := txtD_bad hd
      rw [hd] at es
      refine ⟨[.sl false 1 (B []), .int .i64 e], ?_, ?_⟩
      · simp only [cTxt, hd]; exact ⟨by omega, [], rfl⟩
      · refine acall_fn rfl (af := a_billingref07_reader_text) rfl rfl ?_
        simp [List.replicate, go_sem, es, ts, tr, te, tok, cTxt, hd]
    | ok s r =>
      have hr : r.length ≤ 10000000 := by have := (txtD_ok hd).1; rw [this] at hl; simp at hl; omega
      rw [hd] at es
      refine ⟨[.sl false 1 (B r), .int .i64 0], ?_, ?_⟩
      · simp only [cTxt, hd]; exact ⟨hr, rfl⟩
      · refine acall_fn rfl (af := a_billingref07_reader_text) rfl rfl ?_
        simp [List.replicate, go_sem, es, ts, tr, te, tok, cTxt, hd]

theorem e_rflagF (x : Cur) (o : List V) (hs : RdH x o) : ∃ o', RdH (cFlag x).2 o' ∧ acall mach n_billingref07_reader_truth [.ptr 0 0] [o] = some (.ret (.bool (cFlag x).1) [o']) := by
  obtain ⟨o1, h1, e1⟩ := e_rnumF x o hs
  unfold cFlag
  cases hx : (cNum x).2 with
  | bad e =>
    rw [hx] at h1
    obtain ⟨he, c, rfl⟩ := h1
    refine ⟨_, ⟨he, c, rfl⟩, ?_⟩
    refine acall_fn rfl (af := a_billingref07_reader_truth) rfl rfl ?_
    simp [List.replicate, go_sem, e1, bf' he]
    exact Bool.eq_iff_iff.2 (by simp)
  | ok c =>
    rw [hx] at h1
    obtain ⟨hl, rfl⟩ := h1
    generalize (cNum x).1 = n at *
    by_cases n0 : n = 0
    · subst n0
      refine ⟨[.sl false 1 (B c), .int .i64 0], ?_, ?_⟩
      · simp only [chkFlag]; exact ⟨hl, rfl⟩
      · refine acall_fn rfl (af := a_billingref07_reader_truth) rfl rfl ?_
        simp [List.replicate, go_sem, e1]
    · by_cases n1 : n = 1
      · subst n1
        refine ⟨[.sl false 1 (B c), .int .i64 0], ?_, ?_⟩
        · simp only [chkFlag]; exact ⟨hl, rfl⟩
        · refine acall_fn rfl (af := a_billingref07_reader_truth) rfl rfl ?_
          simp [List.replicate, go_sem, e1]
      · refine ⟨[.sl false 1 (B c), .int .i64 1], ?_, ?_⟩
        · simp only [chkFlag, n0, n1, or_self, if_false]; exact ⟨by omega, c, rfl⟩
        · refine acall_fn rfl (af := a_billingref07_reader_truth) rfl rfl ?_
          simp [List.replicate, go_sem, e1, nt' n0, nt' n1, bf' n1, n1]

/-- What Record comes to. -/
def recV (d : Rec × Cur) : V := match d.2 with
  | .ok c => .tup [rv d.1, .sl true 1 (B c), .int .i64 0]
  | .bad e => .tup [rv rec0, .sl true 1 [], .int .i64 e]

set_option maxRecDepth 8000 in
theorem e_Record (b : List UInt8) (hb : b.length ≤ 10000000) : acall mach n_codec_Record [.sl false 1 (B b)] [] = some (.ret (recV (recD b)) []) := by
  refine acall_fn rfl (af := a_codec_Record) rfl rfl ?_
  unfold recD
  simp only
  have s0 : SrcH b (.ok b) [.sl false 1 (B b), .int .i64 0, .int .i64 0] := ⟨0, by omega, by simp, rfl⟩
  generalize hx0 : Cur.ok b = x0 at *
  obtain ⟨o1, s1, e1⟩ := e_snum b x0 _ hb s0
  obtain ⟨o2, s2, e2⟩ := e_snum b _ _ hb s1
  obtain ⟨o3, s3, e3⟩ := e_snum b _ _ hb s2
  obtain ⟨o4, s4, e4⟩ := e_stxt b _ _ hb s3
  obtain ⟨o5, s5, e5⟩ := e_stxt b _ _ hb s4
  obtain ⟨o6, s6, e6⟩ := e_snum b _ _ hb s5
  obtain ⟨o7, s7, e7⟩ := e_snum b _ _ hb s6
  obtain ⟨o8, s8, e8⟩ := e_snum b _ _ hb s7
  obtain ⟨o9, s9, e9⟩ := e_snum b _ _ hb s8
  obtain ⟨o10, s10, e10⟩ := e_sflag b _ _ hb s9
  obtain ⟨o11, s11, e11⟩ := e_snum b _ _ hb s10
  obtain ⟨o12, s12, e12⟩ := e_sflag b _ _ hb s11
  generalize hy1 : cNum x0 = y1 at *
  generalize hy2 : cNum y1.2 = y2 at *
  generalize hy3 : cNum y2.2 = y3 at *
  generalize hy4 : cTxt y3.2 = y4 at *
  generalize hy5 : cTxt y4.2 = y5 at *
  generalize hy6 : cNum y5.2 = y6 at *
  generalize hy7 : cNum y6.2 = y7 at *
  generalize hy8 : cNum y7.2 = y8 at *
  generalize hy9 : cNum y8.2 = y9 at *
  generalize hy10 : cFlag y9.2 = y10 at *
  generalize hy11 : cNum y10.2 = y11 at *
  generalize hy12 : cFlag y11.2 = y12 at *
  cases hz : y12.2 with
  | bad e =>
    rw [hz] at s12
    obtain ⟨he, k, hk, rfl⟩ := s12
    simp [List.replicate, go_sem, e1, e2, e3, e4, e5, e6, e7, e8, e9, e10, e11, e12, nt' he, recV, hz, rv, rec0]
  | ok c =>
    rw [hz] at s12
    obtain ⟨k, hk, hc, rfl⟩ := s12
    have er := e_rest b k [] (by omega) hk
    rw [hc] at er
    simp [List.replicate, go_sem, e1, e2, e3, e4, e5, e6, e7, e8, e9, e10, e11, e12, er, recV, hz, rv]

def rrecV (d : Rec × Cur) : V := match d.2 with
  | .ok c => .tup [rv d.1, .sl false 1 (B c), .int .i64 0]
  | .bad e => .tup [rv rec0, .sl true 1 [], .int .i64 e]

set_option maxRecDepth 8000 in
theorem e_rRecord (b : List UInt8) (hb : b.length ≤ 10000000) : acall mach n_billingref07_Record [.sl false 1 (B b)] [] = some (.ret (rrecV (recD b)) []) := by
  refine acall_fn rfl (af := a_billingref07_Record) rfl rfl ?_
  have ej : acall mach n_billingref07_join [.sl false 1 [], .sl false 1 (B b)] [] = _ := e_join [] b [] (by simp) (by omega)
  unfold recD
  simp only
  have s0 : RdH (.ok b) [.sl false 1 (B b), .int .i64 0] := ⟨hb, rfl⟩
  generalize hx0 : Cur.ok b = x0 at *
  obtain ⟨o1, s1, e1⟩ := e_rnumF x0 _ s0
  obtain ⟨o2, s2, e2⟩ := e_rnumF _ _ s1
  obtain ⟨o3, s3, e3⟩ := e_rnumF _ _ s2
  obtain ⟨o4, s4, e4⟩ := e_rtxtF _ _ s3
  obtain ⟨o5, s5, e5⟩ := e_rtxtF _ _ s4
  obtain ⟨o6, s6, e6⟩ := e_rnumF _ _ s5
  obtain ⟨o7, s7, e7⟩ := e_rnumF _ _ s6
  obtain ⟨o8, s8, e8⟩ := e_rnumF _ _ s7
  obtain ⟨o9, s9, e9⟩ := e_rnumF _ _ s8
  obtain ⟨o10, s10, e10⟩ := e_rflagF _ _ s9
  obtain ⟨o11, s11, e11⟩ := e_rnumF _ _ s10
  obtain ⟨o12, s12, e12⟩ := e_rflagF _ _ s11
  generalize hy1 : cNum x0 = y1 at *
  generalize hy2 : cNum y1.2 = y2 at *
  generalize hy3 : cNum y2.2 = y3 at *
  generalize hy4 : cTxt y3.2 = y4 at *
  generalize hy5 : cTxt y4.2 = y5 at *
  generalize hy6 : cNum y5.2 = y6 at *
  generalize hy7 : cNum y6.2 = y7 at *
  generalize hy8 : cNum y7.2 = y8 at *
  generalize hy9 : cNum y8.2 = y9 at *
  generalize hy10 : cFlag y9.2 = y10 at *
  generalize hy11 : cNum y10.2 = y11 at *
  generalize hy12 : cFlag y11.2 = y12 at *
  rw [List.nil_append] at ej
  cases hz : y12.2 with
  | bad e =>
    rw [hz] at s12
    obtain ⟨he, c, rfl⟩ := s12
    simp [List.replicate, go_sem, ej, e1, e2, e3, e4, e5, e6, e7, e8, e9, e10, e11, e12, nt' he, rrecV, hz, rv, rec0]
  | ok c =>
    rw [hz] at s12
    obtain ⟨hl, rfl⟩ := s12
    simp [List.replicate, go_sem, ej, e1, e2, e3, e4, e5, e6, e7, e8, e9, e10, e11, e12, rrecV, hz, rv]

theorem e_rputP (b p : List UInt8) (n : Int) (hp : p = b ++ encN (zz n)) (hn : i64 n) (hb : b.length ≤ 10000000) : acall mach n_billingref07_PutNumber [.sl false 1 (B b), .int .i64 n] [] = some (.ret (.sl true 1 (B p)) []) := by
  rw [hp]; exact e_rPutNumber b n [] hn.1 hn.2 hb
theorem e_rputT (b p s : List UInt8) (hp : p = b ++ encT s) (hb : b.length ≤ 10000000) (hs : s.length ≤ 1000000) : acall mach n_billingref07_PutText [.sl false 1 (B b), .str s] [] = some (.ret (.sl true 1 (B p)) []) := by
  rw [hp]
  have := e_rPutText b s [] hb (by omega)
  rw [List.append_assoc] at this
  exact this
theorem putT_len {b p s : List UInt8} (hp : p = b ++ encT s) (hs : s.length ≤ 1000000) : p.length ≤ b.length + 10 + s.length := by
  have := encN_len10 (u := 2 * s.length) (by omega)
  rw [hp, encT, List.length_append, List.length_append]
  omega

set_option maxRecDepth 8000 in
theorem e_rPutRecord (b : List UInt8) (r : Rec) (hb : b.length ≤ 1000000) (ha : r.a.length ≤ 1000000) (hbb : r.b.length ≤ 1000000) (hf : r.fits) : acall mach n_billingref07_PutRecord [.sl false 1 (B b), rv r] [] = some (.ret (.sl true 1 (B (b ++ putR r))) []) := by
  refine acall_fn rfl (af := a_billingref07_PutRecord) rfl rfl ?_
  obtain ⟨f1, f2, f3, f4, f5, f6, f7, f8⟩ := hf
  obtain ⟨p1, q1⟩ : ∃ p, p = b ++ encN (zz r.src) := ⟨_, rfl⟩
  obtain ⟨p2, q2⟩ : ∃ p, p = p1 ++ encN (zz r.ser) := ⟨_, rfl⟩
  obtain ⟨p3, q3⟩ : ∃ p, p = p2 ++ encN (zz r.kind) := ⟨_, rfl⟩
  obtain ⟨p5, q5⟩ : ∃ p, p = p3 ++ encT r.a := ⟨_, rfl⟩
  obtain ⟨p7, q7⟩ : ∃ p, p = p5 ++ encT r.b := ⟨_, rfl⟩
  obtain ⟨p8, q8⟩ : ∃ p, p = p7 ++ encN (zz r.start) := ⟨_, rfl⟩
  obtain ⟨p9, q9⟩ : ∃ p, p = p8 ++ encN (zz r.units) := ⟨_, rfl⟩
  obtain ⟨p10, q10⟩ : ∃ p, p = p9 ++ encN (zz r.call) := ⟨_, rfl⟩
  obtain ⟨p11, q11⟩ : ∃ p, p = p10 ++ encN (zz r.part) := ⟨_, rfl⟩
  obtain ⟨p12, q12⟩ : ∃ p, p = p11 ++ encN (zz (tru r.last)) := ⟨_, rfl⟩
  obtain ⟨p13, q13⟩ : ∃ p, p = p12 ++ encN (zz r.trunk) := ⟨_, rfl⟩
  obtain ⟨p14, q14⟩ : ∃ p, p = p13 ++ encN (zz (tru r.inb)) := ⟨_, rfl⟩
  have n1 := addP_len q1 f1
  have n2 := addP_len q2 f2
  have n3 := addP_len q3 f3
  have n5 := putT_len q5 ha
  have n7 := putT_len q7 hbb
  have n8 := addP_len q8 f4
  have n9 := addP_len q9 f5
  have n10 := addP_len q10 f6
  have n11 := addP_len q11 f7
  have n12 := addP_len q12 (tru_fits r.last)
  have n13 := addP_len q13 f8
  have hfin : b ++ putR r = p14 := by
    rw [q14, q13, q12, q11, q10, q9, q8, q7, q5, q3, q2, q1]
    simp [putR]
  rw [hfin]
  simp [List.replicate, go_sem, rv, e_rputP _ _ _ q1 f1 (by omega), e_rputP _ _ _ q2 f2 (by omega), e_rputP _ _ _ q3 f3 (by omega), e_rputT _ _ _ q5 (by omega) ha, e_rputT _ _ _ q7 (by omega) hbb, e_rputP _ _ _ q8 f4 (by omega), e_rputP _ _ _ q9 f5 (by omega), e_rputP _ _ _ q10 f6 (by omega), e_rputP _ _ _ q11 f7 (by omega), e_rputP _ _ _ q12 (tru_fits _) (by omega), e_rputP _ _ _ q13 f8 (by omega), e_rputP _ _ _ q14 (tru_fits _) (by omega), e_rtruth']
end Go.Am
