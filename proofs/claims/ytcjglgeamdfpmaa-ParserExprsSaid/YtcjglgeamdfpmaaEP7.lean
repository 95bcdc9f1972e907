/- The parser's dates, days and kinds. -/
import Derived.Test.YtcjglgeamdfpmaaEP6
import Derived.Test.YtcjglgeamdfpmaaED1
set_option linter.unusedSimpArgs false
set_option linter.unnecessarySimpa false
set_option linter.unusedVariables false
set_option maxRecDepth 10000
namespace Go.Am
open Go Go.Pu

theorem wplaceF_no (s : Bs) : ∀ (l : List Bs) (i : Nat), s ∉ l → wplaceF s l i = -1
  | [], i, _ => rfl
  | w :: l, i, h => by
    simp only [List.mem_cons, not_or] at h
    simp only [wplaceF, if_neg (fun e => h.1 (Eq.symm e))]
    exact wplaceF_no s l (i + 1) h.2
theorem wplace_no {s : Bs} {l : List Bs} (h : s ∉ l) : wplace l s = -1 := wplaceF_no s l 0 h
theorem wplaceF_hi (s : Bs) : ∀ (l : List Bs) (i : Nat), wplaceF s l i < (i : Int) + l.length ∨ wplaceF s l i = -1
  | [], i => .inr rfl
  | w :: l, i => by
    simp only [wplaceF]
    split
    · left; simp; omega
    · rcases wplaceF_hi s l (i + 1) with h | h
      · left; simp; omega
      · exact .inr h
theorem wplace_hi (s : Bs) (l : List Bs) : wplace l s < l.length ∨ wplace l s = -1 := by
  rcases wplaceF_hi s l 0 with h | h
  · left; unfold wplace; omega
  · exact .inr h

theorem e_weekday (s : Bs) : acall mach0 n_parser_weekday [.str s] [] = some (.ret (.int .i64 (wplace dayWs s)) []) := by
  by_cases hs : s ∈ dayWs
  · simp only [dayWs, List.mem_cons, List.not_mem_nil, or_false] at hs
    repeat' (rcases hs with rfl | hs)
    all_goals first
      | exact (acall_iff _).2 ⟨100, by kernel_rfl⟩
      | (subst hs; exact (acall_iff _).2 ⟨100, by kernel_rfl⟩)
  · rw [wplace_no hs]
    simp only [dayWs, List.mem_cons, List.not_mem_nil, or_false, not_or] at hs
    have hb : ∀ {x : List UInt8}, ¬ s = x → (s == x) = false := fun h => by simpa using h
    obtain ⟨h1, h2, h3, h4, h5, h6, h7, h8⟩ := hs
    refine acall_fn rfl (af := a_parser_weekday) rfl rfl ?_
    simp [List.replicate, go_sem]
    have w1 : IntKind.wrap .i64 1 = 1 := rfl
    have w2 : IntKind.wrap .i64 2 = 2 := rfl
    have w3 : IntKind.wrap .i64 3 = 3 := rfl
    have w4 : IntKind.wrap .i64 4 = 4 := rfl
    have w5 : IntKind.wrap .i64 5 = 5 := rfl
    have w6 : IntKind.wrap .i64 6 = 6 := rfl
    have w7 : IntKind.wrap .i64 7 = 7 := rfl
    have w8 : IntKind.wrap .i64 8 = 8 := rfl
    iterate 8
      unfold parser_weekday_l1b
      simp [go_sem, w1, w2, w3, w4, w5, w6, w7, w8, hb h1, hb h2, hb h3, hb h4, hb h5, hb h6, hb h7, hb h8]
    unfold parser_weekday_l1b
    simp [go_sem, parser_weekday_k1]
    simp [go_sem, parser_weekday_k1b]

theorem e_kind (s : Bs) : acall mach0 n_parser_kind [.str s] [] = some (.ret (.int .i64 (wplace kindWs s + 1)) []) := by
  by_cases hs : s ∈ kindWs
  · simp only [kindWs, List.mem_cons, List.not_mem_nil, or_false] at hs
    repeat' (rcases hs with rfl | hs)
    all_goals first
      | exact (acall_iff _).2 ⟨100, by kernel_rfl⟩
      | (subst hs; exact (acall_iff _).2 ⟨100, by kernel_rfl⟩)
  · rw [wplace_no hs]
    simp only [kindWs, List.mem_cons, List.not_mem_nil, or_false, not_or] at hs
    have hb : ∀ {x : List UInt8}, ¬ s = x → (s == x) = false := fun h => by simpa using h
    obtain ⟨h1, h2, h3, h4⟩ := hs
    refine acall_fn rfl (af := a_parser_kind) rfl rfl ?_
    simp [List.replicate, go_sem, hb h1, hb h2, hb h3, hb h4]

section
variable {x0 x1 x2 : List V} {n : Nat} {L : List (Tk × Nat)} {ts : List Tk}

theorem word_of_kind {t : Tk} (h : t.kind = 1) : ∃ d, t = .word d := by
  cases t <;> simp [Tk.kind] at h
  exact ⟨_, rfl⟩
theorem wordT_ok {l : List Bs} {least v : Int} {r : List Tk} (h : wordT l least ts = .ok v r) : ∃ w, ts = .word w :: r ∧ v = wplace l w ∧ least ≤ v ∧ 0 ≤ v := by
  unfold wordT at h
  split at h
  · split at h
    · cases h
    · rename_i hn; cases h; exact ⟨_, rfl, rfl, by omega, by omega⟩
  · cases h
theorem At.xWord {l : List Bs} {least v : Int} {r : List Tk} (hA : At L ts) (h : wordT l least ts = .ok v r) : At L r := by
  obtain ⟨v, e, _⟩ := wordT_ok h
  rw [e] at hA; exact hA.tl (by simp)

theorem r_day (last : Int) (hl : -1 ≤ last) (hA : At L ts) : acall mach0 n_parser_reader_day [.ptr 3 0, .int .i64 last] (hr x0 x1 x2 n L ts.length) = some (rdRt x0 x1 x2 n L (V.int .i64) (wordT dayWs (last + 1) ts)) := by
  refine acall_fn rfl (af := a_parser_reader_day) rfl rfl ?_
  obtain ⟨t, ts, rfl⟩ := ends_ne hA.2.1
  have e := e_peek (x0 := x0) (x1 := x1) (x2 := x2) (n := n) hA
  have e2 := e_skip (x0 := x0) (x1 := x1) (x2 := x2) (n := n) hA
  have ef := fun h => e_pfail t.kind t.val (posV n L (ts.length + 1)) t.str 1 h
  have ew := e_weekday t.str
  simp only [hr, tokV] at e e2 ef ⊢
  by_cases hk : t.kind = 1
  · obtain ⟨w, rfl⟩ := word_of_kind hk
    have ef := fun h => e_pfail 1 0 (posV n L (ts.length + 1)) w 1 h
    simp only [tokV] at ef
    simp only [Tk.kind, Tk.val, Tk.str] at e e2 ew
    have e4 : Go.Pu.wordT dayWs (last + 1) (.word w :: ts) = if wplace dayWs w < last + 1 ∨ wplace dayWs w < 0 then failT (.word w :: ts) 1 else .ok (wplace dayWs w) ts := rfl
    rw [e4]
    by_cases hp : wplace dayWs w ≤ last
    · rw [if_pos (by omega)]
      simp [List.replicate, go_sem, e, ef, ew, hp, rdRt, failT, errH]
      simp [pfail, go_sem]
    · rw [if_neg (by omega)]
      simp [List.replicate, go_sem, e, e2, ew, hp, rdRt]
  · have hk' : ¬ (t.kind : Int) = 1 := by omega
    have e3 : Go.Pu.wordT dayWs (last + 1) (t :: ts) = failT (t :: ts) 1 := by cases t <;> simp [Go.Pu.wordT, Tk.kind] at hk ⊢
    rw [e3]
    simp [List.replicate, go_sem, e, ew, ef, nt' hk', rdRt, failT, errH]
    simp [pfail, go_sem]

theorem r_date (hA : At L ts) : acall mach0 n_parser_reader_date [.ptr 3 0] (hr x0 x1 x2 n L ts.length) = some (rdRt x0 x1 x2 n L (V.int .i64) (dateT ts)) := by
  refine acall_fn rfl (af := a_parser_reader_date) rfl rfl ?_
  obtain ⟨t0, r0, ht0, ep⟩ := r_peek (x0 := x0) (x1 := x1) (x2 := x2) (n := n) hA
  have ef := fun h => e_pfail t0.kind t0.val (posV n L ts.length) t0.str 15 h
  simp only [hr, tokV] at ep ef
  unfold dateT
  have e1 := r_fixed (x0 := x0) (x1 := x1) (x2 := x2) (n := n) 4 9999 hA
  cases h1 : fixedT 4 9999 ts with
  | err m e =>
    simp only [h1, rdRt, errH, pfail] at e1
    simp at e1
    simp [List.replicate, go_sem, ep, e1, rdRt, errH, pfail]
  | ok y q1 =>
    simp only [h1, rdRt] at e1
    simp at e1
    have A1 := hA.fixed h1
    obtain ⟨d1, l1, g1, _, b1⟩ := fixedT_ok h1
    simp only [bindP_ok]
    have e2 := r_needSymbol (x0 := x0) (x1 := x1) (x2 := x2) (n := n) [45] A1
    cases h2 : needS [45] q1 with
    | err m e =>
      simp only [h2, rdRt, errH, pfail] at e2
      simp [List.replicate, go_sem, ep, e1, e2, rdRt, errH, pfail]
    | ok u q2 =>
      simp only [h2, rdRt, noneV] at e2
      have A2 := A1.xS h2
      have l2 := needS_ok h2
      simp only [bindP_ok]
      have e3 := r_fixed (x0 := x0) (x1 := x1) (x2 := x2) (n := n) 2 99 A2
      cases h3 : fixedT 2 99 q2 with
      | err m e =>
        simp only [h3, rdRt, errH, pfail] at e3
        simp at e3
        simp [List.replicate, go_sem, ep, e1, e2, e3, rdRt, errH, pfail]
      | ok mo q3 =>
        simp only [h3, rdRt] at e3
        simp at e3
        have A3 := A2.fixed h3
        obtain ⟨d3, l3, g3, _, b3⟩ := fixedT_ok h3
        simp only [bindP_ok]
        have e4 := r_needSymbol (x0 := x0) (x1 := x1) (x2 := x2) (n := n) [45] A3
        cases h4 : needS [45] q3 with
        | err m e =>
          simp only [h4, rdRt, errH, pfail] at e4
          simp [List.replicate, go_sem, ep, e1, e2, e3, e4, rdRt, errH, pfail]
        | ok u q4 =>
          simp only [h4, rdRt, noneV] at e4
          have A4 := A3.xS h4
          have l4 := needS_ok h4
          simp only [bindP_ok]
          have e5 := r_fixed (x0 := x0) (x1 := x1) (x2 := x2) (n := n) 2 99 A4
          cases h5 : fixedT 2 99 q4 with
          | err m e =>
            simp only [h5, rdRt, errH, pfail] at e5
            simp at e5
            simp [List.replicate, go_sem, ep, e1, e2, e3, e4, e5, rdRt, errH, pfail]
          | ok da q5 =>
            simp only [h5, rdRt] at e5
            simp at e5
            obtain ⟨d5, l5, g5, _, b5⟩ := fixedT_ok h5
            simp only [bindP_ok]
            have e6 := e_Day y mo da []
            rw [dayP_dayQ] at e6
            have len : q5.length = ts.length - 5 := by rw [l1, l2, l3, l4, l5]; simp
            cases hd : dayQ y mo da with
            | none =>
              rw [hd] at e6
              simp [List.replicate, go_sem, ep, e1, e2, e3, e4, e5, e6, ef, rdRt, failT, errH, pfail, len]
            | some v =>
              rw [hd] at e6
              have bv : 0 ≤ v ∧ v ≤ 146097 := by
                unfold dayQ at hd
                split at hd
                · cases hd
                · simp only [Option.some.injEq] at hd
                  subst hd
                  rename_i hn
                  obtain ⟨a1, a2, a3, a4, a5, a6, a7⟩ := lenP_pos (y := y) (m := mo) (d := da) (by omega) (by rw [lenP_lenQ]; omega)
                  have hi := IsDate.hi (day := bef y + mcum y (mo - 1).toNat + da - 1) (y := y) (m := mo) (d := da) ⟨a1, a2, a3, a4, a6, a7, rfl⟩
                  have lo := IsDate.lo (day := bef y + mcum y (mo - 1).toNat + da - 1) (y := y) (m := mo) (d := da) ⟨a1, a2, a3, a4, a6, a7, rfl⟩
                  omega
              have w : IntKind.wrap .i64 (v * 86400) = v * 86400 := wrap_i64 (by omega)
              simp [List.replicate, go_sem, ep, e1, e2, e3, e4, e5, e6, w, rdRt]
end
end Go.Am
