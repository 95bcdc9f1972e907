/- The chapter's examples; the law CodecNumbers; texts of the reference; the law CodecTexts. -/
import Derived.Test.YtbnjembcmddjoaaE6
import Derived.Test.YtbnjembcmddjoaaAm30
import Derived.KernelRfl
set_option linter.unusedSimpArgs false
namespace Go.Am
open Go Go.Pu

theorem e_alive07 : acall mach n_billinglaw07_alive [] [] = some (.ret (.bool true) []) := (acall_iff _).2 ⟨60, by kernel_rfl⟩

theorem u22 : Go.Proofs.Try.prog.underlying 22 = some (.slice 5) := by kernel_rfl
theorem u5 : Go.Proofs.Try.prog.underlying 5 = some (.int .u8) := by kernel_rfl
theorem u3 : Go.Proofs.Try.prog.underlying 3 = some (.int .i64) := by kernel_rfl
theorem u9 : Go.Proofs.Try.prog.underlying 9 = some .string := by kernel_rfl
theorem c5 : Go.Proofs.Try.prog.cellsOf 5 = 1 := by kernel_rfl

theorem wf_i64 {n : Int} (h : (Lit.int .i64 n).wf = true) : -9223372036854775808 ≤ n ∧ n ≤ 9223372036854775807 := by
  simpa [Lit.wf, IntKind.min, IntKind.max, IntKind.signed, IntKind.bits] using h

theorem law_numbers (b : List UInt8) (n : Int) (h1 : -9223372036854775808 ≤ n) (h2 : n ≤ 9223372036854775807) : acall mach n_billinglaw07_CodecNumbers [.sl false 1 (B b), .int .i64 n] [] = some (.ret (.bool true) []) := by
  refine acall_fn rfl (af := a_billinglaw07_CodecNumbers) rfl rfl ?_
  by_cases hb : b.length ≤ 100
  · have q : ¬ (100 : Int) < b.length := by omega
    simp [List.replicate, go_sem, q, e_PutNumber b n [] h1 h2 (by omega), e_rPutNumber b n [] h1 h2 (by omega), e_Same, e_alive07]
  · have q : (100 : Int) < b.length := by omega
    simp [List.replicate, go_sem, q, e_alive07]

theorem all_codecNumbers (us : List V) (h : TyArgs Go.Proofs.Try.prog Go.Proofs.Try.f3.params.toList us) : acall mach 3 us [] = some (.ret (.bool true) []) := by
  obtain ⟨u, v, rfl, h1, h2⟩ := TyArgs.two h
  obtain ⟨b, rfl, _⟩ := arg_bytes u22 u5 c5 h1
  obtain ⟨n, rfl, hn⟩ := arg_int u3 h2
  exact law_numbers b n (wf_i64 hn).1 (wf_i64 hn).2

theorem e_rlength (b : List UInt8) (h : Heap) (hb : b.length ≤ 100000000) : acall mach n_billingref07_length [.sl false 1 (B b)] h = some (.ret (numV (lenD (dec 0 0 b))) h) := by
  refine acall_fn rfl (af := a_billingref07_length) rfl rfl ?_
  cases hd : dec 0 0 b with
  | bad e =>
    have he := dec_bad _ _ _ _ hd
    have h0 := nt' (show ¬ e = 0 by omega)
    simp [List.replicate, go_sem, e_rNumber _ _ hb, hd, numV, nv, nr, ne, h0, lenD, B_nil]
  | ok u r =>
    by_cases h1 : u % 2 = 1
    · have h2 := unzz_odd h1
      rw [lenD_odd h1]
      simp [List.replicate, go_sem, e_rNumber _ _ hb, hd, numV, nv, nr, ne, h2, B_nil]
    · have h2 := unzz_even h1
      have h3 : ¬ unzz u < 0 := by omega
      by_cases h4 : 1048576 < u / 2
      · have h5 : (1048576 : Int) < unzz u := by omega
        rw [lenD_big h1 h4]
        simp [List.replicate, go_sem, e_rNumber _ _ hb, hd, numV, nv, nr, ne, h3, h5, B_nil]
      · have h5 : ¬ (1048576 : Int) < unzz u := by omega
        rw [lenD_in h1 h4]
        simp [List.replicate, go_sem, e_rNumber _ _ hb, hd, numV, nv, nr, ne, h3, h5]

def tok : Tx → Bool
  | .ok _ _ => false
  | .bad _ => true

theorem e_rText (b : List UInt8) (h : Heap) (hb : b.length ≤ 100000000) : acall mach n_billingref07_Text [.sl false 1 (B b)] h = some (.ret (.tup [.str (ts (txtD b)), .sl (tok (txtD b)) 1 (B (tr (txtD b))), .int .i64 (te (txtD b))]) h) := by
  refine acall_fn rfl (af := a_billingref07_Text) rfl rfl ?_
  cases hd : lenD (dec 0 0 b) with
  | bad e =>
    have he := lenD_bad hd
    have h0 := nt' (show ¬ e = 0 by omega)
    have hT : txtD b = .bad e := by unfold txtD; rw [hd]
    rw [hT]
    simp [List.replicate, go_sem, e_rlength _ _ hb, hd, numV, nv, nr, ne, h0, ts, tr, te, tok, B_nil]
  | ok u r =>
    obtain ⟨h1, h2, h3⟩ := lenD_rest hd
    obtain ⟨_, _, _, hz⟩ := lenD_ok hd
    have hT : txtD b = if r.length < u / 2 then .bad 2 else .ok (r.take (u / 2)) (r.drop (u / 2)) := by unfold txtD; rw [hd]
    rw [hT]
    generalize u / 2 = m at *
    by_cases h4 : r.length < m
    · rw [if_pos h4]
      simp [List.replicate, go_sem, e_rlength _ _ hb, hd, numV, nv, nr, ne, hz, h4, ts, tr, te, tok, B_nil]
    · rw [if_neg h4]
      have h5 : m ≤ r.length := by omega
      have e3 : (r.drop m).take (r.length - m) = r.drop m := by rw [List.take_of_length_le]; simp
      simp [List.replicate, go_sem, e_rlength _ _ hb, hd, numV, nv, nr, ne, hz, h4, h5, e3, ts, tr, te, tok]

theorem e_rPutText (b s : List UInt8) (h : Heap) (hb : b.length ≤ 10000000) (hs : s.length ≤ 10000000) : acall mach n_billingref07_PutText [.sl false 1 (B b), .str s] h = some (.ret (.sl true 1 (B (b ++ encN (2 * s.length) ++ s))) h) := by
  refine acall_fn rfl (af := a_billingref07_PutText) rfl rfl ?_
  have e := e_rPutNumber b (s.length : Int) [] (by omega) (by omega) hb
  rw [zz_nat] at e
  have hl := encN_len10 (u := 2 * s.length) (by omega)
  have e2 := e_join (b ++ encN (2 * s.length)) s [] (by simp; omega) (by omega)
  have e3 : s.length ≤ 140737488355328 := by omega
  simp only [List.append_assoc] at e2
  simp [List.replicate, go_sem, e, e2, e3]

theorem law_texts (b s : List UInt8) : acall mach n_billinglaw07_CodecTexts [.sl false 1 (B b), .str s] [] = some (.ret (.bool true) []) := by
  refine acall_fn rfl (af := a_billinglaw07_CodecTexts) rfl rfl ?_
  by_cases hb : b.length ≤ 300
  · have q : ¬ (300 : Int) < b.length := by omega
    by_cases hs : s.length ≤ 300
    · have q2 : ¬ (300 : Int) < s.length := by omega
      have e1 := e_PutText b s [] (by omega) (by omega)
      have e2 := e_rPutText b s [] (by omega) (by omega)
      cases ho : tok (txtD b) <;> simp [List.replicate, go_sem, q, q2, e_Text b _ (show b.length ≤ 100000000 by omega), e_rText b _ (show b.length ≤ 100000000 by omega), e1, e2, ho, e_Same, e_alive07]
    · have q2 : (300 : Int) < s.length := by omega
      simp [List.replicate, go_sem, q, q2, e_alive07]
  · have q : (300 : Int) < b.length := by omega
    simp [List.replicate, go_sem, q, e_alive07]

theorem all_codecTexts (us : List V) (h : TyArgs Go.Proofs.Try.prog Go.Proofs.Try.f5.params.toList us) : acall mach 5 us [] = some (.ret (.bool true) []) := by
  obtain ⟨u, v, rfl, h1, h2⟩ := TyArgs.two h
  obtain ⟨b, rfl, _⟩ := arg_bytes u22 u5 c5 h1
  obtain ⟨s, rfl, _⟩ := arg_string u9 h2
  exact law_texts b s
end Go.Am
