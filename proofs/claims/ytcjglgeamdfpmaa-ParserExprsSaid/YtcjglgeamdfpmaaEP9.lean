/- The parser's steps, zones, bands, rates and discounts. -/
import Derived.Test.YtcjglgeamdfpmaaEP8
set_option linter.unusedSimpArgs false
set_option linter.unnecessarySimpa false
set_option linter.unusedVariables false
set_option maxRecDepth 10000
namespace Go.Am
open Go Go.Pu

def stepV (s : StepP) : V := .agg [.int .i64 s.upto, .int .i64 s.quant, .int .i64 s.price]
def zoneV (z : ZoneP) : V := .agg [.str z.name, .sl false 1 (z.pref.map V.str)]
def slotsV (l : List SlotP) : V := match l with
  | [] => .sl false 0 []
  | l => .sl false 3 (l.map slotV)
theorem slotsV_ne {l : List SlotP} (h : l ≠ []) : slotsV l = .sl false 3 (l.map slotV) := by
  cases l with
  | nil => exact absurd rfl h
  | cons a l => rfl
def bandV (b : BandP) : V := .agg [.str b.name, slotsV b.slots]
def rateV (r : RateP) : V := .agg [.int .i64 r.kind, .str r.zone, .str r.band, .int .i64 r.setup, .sl false 3 (r.steps.map stepV)]
def discV (d : DiscP) : V := .agg (.str d.name :: (exprC d.cond ++ [.int .i64 d.points]))

section
variable {x0 x1 x2 : List V} {n : Nat} {L : List (Tk × Nat)} {ts : List Tk}

theorem needW_le {s : Bs} {u : Unit} {r : List Tk} (h : needW s ts = .ok u r) : r.length ≤ ts.length := by rw [needW_ok h]; simp
theorem needS_le {s : Bs} {u : Unit} {r : List Tk} (h : needS s ts = .ok u r) : r.length ≤ ts.length := by rw [needS_ok h]; simp
theorem nameT_le {w : Bs} {r : List Tk} (h : nameT ts = .ok w r) : r.length ≤ ts.length := by rw [(nameT_ok h).1]; simp
theorem nameOrAny_le {w : Bs} {r : List Tk} (h : nameOrAny ts = .ok w r) : r.length ≤ ts.length := by
  obtain ⟨v, e⟩ := nameOrAny_ok h
  rw [e]; simp
theorem digitsT_le {w : Bs} {r : List Tk} (h : digitsT ts = .ok w r) : r.length ≤ ts.length := by rw [digitsT_ok h]; simp
theorem numberT_le {w : Int} {r : List Tk} (h : numberT ts = .ok w r) : r.length ≤ ts.length := by
  obtain ⟨v, e, _⟩ := numberT_ok h
  rw [e]; simp
theorem fixedT_le {s : Nat} {m w : Int} {r : List Tk} (h : fixedT s m ts = .ok w r) : r.length ≤ ts.length := by
  obtain ⟨v, e, _⟩ := fixedT_ok h
  rw [e]; simp
theorem wordT_le {l : List Bs} {m w : Int} {r : List Tk} (h : wordT l m ts = .ok w r) : r.length ≤ ts.length := by
  obtain ⟨v, e, _⟩ := wordT_ok h
  rw [e]; simp
theorem exprT_le {w : PE} {r : List Tk} (h : exprT ts = .ok w r) : r.length ≤ ts.length := by
  obtain ⟨o, h1, h2⟩ := pExpr_some ts
  rw [exprT_eq, h] at h1
  cases h1
  exact Nat.le_of_lt (h2 _ _ rfl)
theorem At.digitsR {w : Bs} {r : List Tk} (hA : At L ts) (h : digitsT ts = .ok w r) : At L r ∧ r.length ≤ ts.length := ⟨hA.digits h, digitsT_le h⟩
theorem timeT_le {most w : Int} {r : List Tk} (h : timeT most ts = .ok w r) : r.length ≤ ts.length := by
  unfold timeT at h
  cases h1 : fixedT 2 most ts with
  | err m e => rw [h1] at h; cases h
  | ok v q =>
    rw [h1, bindP_ok] at h
    cases h2 : needS [58] q with
    | err m e => rw [h2] at h; cases h
    | ok u q2 =>
      rw [h2, bindP_ok] at h
      cases h3 : fixedT 2 (if v = 24 then 0 else 59) q2 with
      | err m e => rw [h3] at h; cases h
      | ok v3 q3 =>
        rw [h3, bindP_ok] at h; cases h
        have := fixedT_le h1; have := needS_le h2; have := fixedT_le h3; omega
theorem daysT_le : ∀ (m : Nat) {last days w : Int} {ts r : List Tk} (_ : daysT m last days ts = .ok w r), r.length ≤ ts.length
  | 0, _, _, _, _, _, h => by simp only [daysT] at h; cases h; exact Nat.le_refl _
  | m + 1, last, days, w, ts, r, h => by
    simp only [daysT] at h
    split at h
    · rename_i hw
      obtain ⟨ts, rfl⟩ := sym_shape hw
      cases h1 : wordT dayWs (last + 1) ts with
      | err m e => rw [List.tail_cons, h1] at h; cases h
      | ok k q =>
        rw [List.tail_cons, h1, bindP_ok] at h
        have := wordT_le h1
        have := daysT_le m h
        simp; omega
    · cases h; exact Nat.le_refl _
theorem At.slotR {s : SlotP} {r : List Tk} (hA : At L ts) (h : slotT ts = .ok s r) : At L r ∧ r.length ≤ ts.length := by
  refine ⟨hA.slot h, ?_⟩
  unfold slotT at h
  cases h1 : wordT dayWs 0 ts with
  | err m e => rw [h1] at h; cases h
  | ok v q =>
    rw [h1, bindP_ok] at h
    cases h2 : daysT q.length v (2 ^ v.toNat) q with
    | err m e => rw [h2] at h; cases h
    | ok u q2 =>
      rw [h2, bindP_ok] at h
      cases h3 : timeT 23 q2 with
      | err m e => rw [h3] at h; cases h
      | ok v3 q3 =>
        rw [h3, bindP_ok] at h
        cases h4 : needS [45] q3 with
        | err m e => rw [h4] at h; cases h
        | ok v4 q4 =>
          rw [h4, bindP_ok] at h
          cases h5 : timeT 24 q4 with
          | err m e => rw [h5] at h; cases h
          | ok v5 q5 =>
            rw [h5, bindP_ok] at h; cases h
            have := wordT_le h1; have := daysT_le _ h2; have := timeT_le h3; have := needS_le h4; have := timeT_le h5; omega
theorem At.opt {k : Bs} {v : Int} {r : List Tk} (hA : At L ts) (h : optN k ts = .ok v r) : At L r ∧ r.length ≤ ts.length := by
  unfold optN at h
  split at h
  · rename_i hw
    have A1 := hA.word hw
    obtain ⟨ts, rfl⟩ := word_shape hw
    refine ⟨A1.number h, ?_⟩
    have := numberT_le h
    simp at this ⊢; omega
  · cases h; exact ⟨hA, Nat.le_refl _⟩
theorem At.many {α : Type} {hd : List Tk → Bool} {item : List Tk → PR α} (hh : ∀ ts, At L ts → hd ts = true → At L ts.tail) (hi : ∀ {ts a r}, At L ts → item ts = .ok a r → At L r ∧ r.length ≤ ts.length) :
    ∀ (m : Nat) {acc l : List α} {ts r : List Tk} (_ : At L ts) (_ : manyT hd item m acc ts = .ok l r), At L r ∧ r.length ≤ ts.length
  | 0, _, _, _, _, hA, h => by simp only [manyT] at h; cases h; exact ⟨hA, Nat.le_refl _⟩
  | m + 1, acc, l, ts, r, hA, h => by
    simp only [manyT] at h
    split at h
    · rename_i hw
      have A1 := hh ts hA hw
      cases h1 : item ts.tail with
      | err m e => rw [h1] at h; cases h
      | ok a q =>
        rw [h1, bindP_ok] at h
        have a1 := hi A1 h1
        have a2 := At.many hh hi m a1.1 h
        have : ts.tail.length ≤ ts.length := by cases ts <;> simp
        exact ⟨a2.1, by omega⟩
    · cases h; exact ⟨hA, Nat.le_refl _⟩
theorem At.sep {α : Type} {item : List Tk → PR α} (hi : ∀ {ts a r}, At L ts → item ts = .ok a r → At L r ∧ r.length ≤ ts.length) {l : List α} {r : List Tk} (hA : At L ts) (h : sepT item ts = .ok l r) : At L r ∧ r.length ≤ ts.length := by
  unfold sepT at h
  cases h1 : item ts with
  | err m e => rw [h1] at h; cases h
  | ok a q =>
    rw [h1, bindP_ok] at h
    have a1 := hi hA h1
    have a2 := At.many (fun ts hA hw => hA.sym hw) hi _ a1.1 h
    exact ⟨a2.1, by omega⟩

theorem r_step (hA : At L ts) : acall mach0 n_parser_reader_step [.ptr 3 0] (hr x0 x1 x2 n L ts.length) = some (rdRt x0 x1 x2 n L stepV (tierT ts)) := by
  refine acall_fn rfl (af := a_parser_reader_step) rfl rfl ?_
  unfold tierT
  have e1 := r_takeWord (x0 := x0) (x1 := x1) (x2 := x2) (n := n) kUpto hA
  unfold optN
  by_cases w1 : isWord kUpto ts = true
  · have A1 := hA.word w1
    obtain ⟨q1, rfl⟩ := word_shape w1
    simp only [w1, if_true, List.tail_cons] at e1 A1 ⊢
    simp only [kUpto] at e1
    simp only [List.length_cons] at *
    have e2 := r_number (x0 := x0) (x1 := x1) (x2 := x2) (n := n) A1
    cases h2 : numberT q1 with
    | err m e =>
      simp only [h2, rdRt, errH, pfail] at e2
      simp [List.replicate, go_sem, e1, e2, rdRt, errH, pfail]
    | ok v q2 =>
      have A2 := A1.number h2
      simp only [h2, rdRt] at e2
      simp only [bindP_ok]
      have e3 := r_needWord (x0 := x0) (x1 := x1) (x2 := x2) (n := n) kPer A2
      cases h3 : needW kPer q2 with
      | err m e =>
        simp only [h3, rdRt, errH, pfail] at e3
        simp only [kPer] at e3
        simp [List.replicate, go_sem, e1, e2, e3, rdRt, errH, pfail]
      | ok u q3 =>
        have A3 := A2.xW h3
        simp only [h3, rdRt, noneV] at e3
        simp only [kPer] at e3
        simp only [bindP_ok]
        have e4 := r_number (x0 := x0) (x1 := x1) (x2 := x2) (n := n) A3
        cases h4 : numberT q3 with
        | err m e =>
          simp only [h4, rdRt, errH, pfail] at e4
          simp [List.replicate, go_sem, e1, e2, e3, e4, rdRt, errH, pfail]
        | ok v2 q4 =>
          have A4 := A3.number h4
          simp only [h4, rdRt] at e4
          simp only [bindP_ok]
          have e5 := r_needWord (x0 := x0) (x1 := x1) (x2 := x2) (n := n) kAt A4
          cases h5 : needW kAt q4 with
          | err m e =>
            simp only [h5, rdRt, errH, pfail] at e5
            simp only [kAt] at e5
            simp [List.replicate, go_sem, e1, e2, e3, e4, e5, rdRt, errH, pfail]
          | ok u q5 =>
            have A5 := A4.xW h5
            simp only [h5, rdRt, noneV] at e5
            simp only [kAt] at e5
            simp only [bindP_ok]
            have e6 := r_number (x0 := x0) (x1 := x1) (x2 := x2) (n := n) A5
            cases h6 : numberT q5 with
            | err m e =>
              simp only [h6, rdRt, errH, pfail] at e6
              simp [List.replicate, go_sem, e1, e2, e3, e4, e5, e6, rdRt, errH, pfail]
            | ok v3 q6 =>
              have A6 := A5.number h6
              simp only [h6, rdRt] at e6
              simp only [bindP_ok]
              simp [List.replicate, go_sem, e1, e2, e3, e4, e5, e6, rdRt, stepV]
  · have w1 : isWord kUpto ts = false := by simpa using w1
    simp only [w1] at e1 ⊢
    simp [kUpto] at e1
    simp only [Bool.false_eq_true, if_false, bindP_ok]
    have e2 := r_needWord (x0 := x0) (x1 := x1) (x2 := x2) (n := n) kPer hA
    cases h2 : needW kPer ts with
    | err m e =>
      simp only [h2, rdRt, errH, pfail] at e2
      simp only [kPer] at e2
      simp [List.replicate, go_sem, e1, e2, rdRt, errH, pfail]
    | ok u q2 =>
      have A2 := hA.xW h2
      simp only [h2, rdRt, noneV] at e2
      simp only [kPer] at e2
      simp only [bindP_ok]
      have e3 := r_number (x0 := x0) (x1 := x1) (x2 := x2) (n := n) A2
      cases h3 : numberT q2 with
      | err m e =>
        simp only [h3, rdRt, errH, pfail] at e3
        simp [List.replicate, go_sem, e1, e2, e3, rdRt, errH, pfail]
      | ok v2 q3 =>
        have A3 := A2.number h3
        simp only [h3, rdRt] at e3
        simp only [bindP_ok]
        have e4 := r_needWord (x0 := x0) (x1 := x1) (x2 := x2) (n := n) kAt A3
        cases h4 : needW kAt q3 with
        | err m e =>
          simp only [h4, rdRt, errH, pfail] at e4
          simp only [kAt] at e4
          simp [List.replicate, go_sem, e1, e2, e3, e4, rdRt, errH, pfail]
        | ok u q4 =>
          have A4 := A3.xW h4
          simp only [h4, rdRt, noneV] at e4
          simp only [kAt] at e4
          simp only [bindP_ok]
          have e5 := r_number (x0 := x0) (x1 := x1) (x2 := x2) (n := n) A4
          cases h5 : numberT q4 with
          | err m e =>
            simp only [h5, rdRt, errH, pfail] at e5
            simp [List.replicate, go_sem, e1, e2, e3, e4, e5, rdRt, errH, pfail]
          | ok v3 q5 =>
            have A5 := A4.number h5
            simp only [h5, rdRt] at e5
            simp only [bindP_ok]
            simp [List.replicate, go_sem, e1, e2, e3, e4, e5, rdRt, stepV]
theorem At.stepR {a : StepP} {r : List Tk} (hA : At L ts) (h : tierT ts = .ok a r) : At L r ∧ r.length ≤ ts.length := by
  unfold tierT at h
  cases h0 : optN kUpto ts with
  | err m e => rw [h0] at h; cases h
  | ok v q0 =>
    rw [h0, bindP_ok] at h
    have A0 := hA.opt h0
    have l0 := A0.2
    replace A0 := A0.1
    cases h1 : needW kPer q0 with
    | err m e => rw [h1] at h; cases h
    | ok u q1 =>
      rw [h1, bindP_ok] at h
      have A1 := A0.xW h1
      have l1 := needW_le h1
      cases h2 : numberT q1 with
      | err m e => rw [h2] at h; cases h
      | ok v q2 =>
        rw [h2, bindP_ok] at h
        have A2 := A1.number h2
        have l2 := numberT_le h2
        cases h3 : needW kAt q2 with
        | err m e => rw [h3] at h; cases h
        | ok u q3 =>
          rw [h3, bindP_ok] at h
          have A3 := A2.xW h3
          have l3 := needW_le h3
          cases h4 : numberT q3 with
          | err m e => rw [h4] at h; cases h
          | ok v q4 =>
            rw [h4, bindP_ok] at h
            have A4 := A3.number h4
            have l4 := numberT_le h4
            cases h; exact ⟨A4, by omega⟩
theorem zone_l (name : Bs) : ∀ (m : Nat) (acc : List Bs) (ts : List Tk), ts.length ≤ m → acc.length + m ≤ 70000 → At L ts →
    Run mach0 (.c parser_reader_zone_l1b :: .lp parser_reader_zone_l1 :: .endB 0 :: .c parser_reader_zone_k1 :: []) .norm ⟨(.ptr 3 0 :: .undef :: .box [.str [], .sl false 1 []] :: .box [.str name, .sl true 1 (acc.map V.str)] :: .undef :: .undef :: .undef :: .undef :: .undef :: .undef :: .undef :: .undef :: .undef :: .undef :: .undef :: .undef :: .undef :: .undef :: .undef :: .undef :: .undef :: .undef :: .undef :: .undef :: .undef :: .undef :: []), hr x0 x1 x2 n L ts.length⟩
      (FinQ [.cell 2 (some 2)] 4 (rdRt x0 x1 x2 n L zoneV (bindP (manyT (isSymT [44]) digitsT m acc ts) fun l r => bindP (needS [59] r) fun _ r => .ok ⟨name, l⟩ r))) := by
  intro m
  induction m with
  | zero =>
    intro acc ts hl _ hA
    obtain ⟨t, r, rfl⟩ := ends_ne hA.2.1
    simp at hl
  | succ m ih =>
    intro acc ts hl hacc hA
    have et := r_takeSymbol (x0 := x0) (x1 := x1) (x2 := x2) (n := n) [44] hA
    have mn : manyT (isSymT [44]) digitsT (m + 1) acc ts = if isSymT [44] ts then bindP (digitsT ts.tail) fun a r => manyT (isSymT [44]) digitsT m (acc ++ [a]) r else .ok acc ts := rfl
    rw [mn]
    by_cases hw : isSymT [44] ts = true
    · have A1 := hA.sym hw
      obtain ⟨ts, rfl⟩ := sym_shape hw
      simp only [hw, if_true, List.tail_cons] at et A1 ⊢
      simp only [List.length_cons] at et hl ⊢
      have e1 := r_digits (x0 := x0) (x1 := x1) (x2 := x2) (n := n) A1
      have qb : (acc.length + 1) * 16 ≤ 140737488355328 := by omega
      cases h1 : digitsT ts with
      | err m e =>
        simp only [h1, rdRt, errH, pfail] at e1
        unfold parser_reader_zone_l1b
        simp [go_sem, et, e1, rdRt, errH, pfail]
      | ok k q =>
        have hq := A1.digitsR h1
        simp only [h1, rdRt] at e1
        have ih := ih (acc ++ [k]) q (by omega) (by simp; omega) hq.1
        simp only [List.map_append, List.map_cons, List.map_nil] at ih
        simp only [bindP_ok]
        unfold parser_reader_zone_l1b
        simp [go_sem, et, e1, qb]
        simpa using ih
    · have hw : isSymT [44] ts = false := by simpa using hw
      simp only [hw] at et ⊢
      simp at et
      simp only [Bool.false_eq_true, if_false, bindP_ok]
      have e1 := r_needSymbol (x0 := x0) (x1 := x1) (x2 := x2) (n := n) [59] hA
      cases h1 : needS [59] ts with
      | err m e =>
        simp only [h1, rdRt, errH, pfail] at e1
        unfold parser_reader_zone_l1b
        simp [go_sem, et, parser_reader_zone_k1]
        simp [go_sem, parser_reader_zone_k1b, e1, rdRt, errH, pfail]
      | ok u q =>
        simp only [h1, rdRt, noneV] at e1
        unfold parser_reader_zone_l1b
        simp [go_sem, et, parser_reader_zone_k1]
        simp [go_sem, parser_reader_zone_k1b, e1, rdRt, zoneV]
theorem r_zone (hA : At L ts) : acall mach0 n_parser_reader_zone [.ptr 3 0] (hr x0 x1 x2 n L ts.length) = some (rdRt x0 x1 x2 n L zoneV (zoneT ts)) := by
  refine acall_fn rfl (af := a_parser_reader_zone) rfl rfl ?_
  unfold zoneT
  unfold sepT
  have e1 := r_name (x0 := x0) (x1 := x1) (x2 := x2) (n := n) hA
  cases h1 : nameT ts with
  | err m e =>
    simp only [h1, rdRt, errH, pfail] at e1
    simp [List.replicate, go_sem, e1, rdRt, errH, pfail]
  | ok name q1 =>
    have A1 := hA.name h1
    simp only [h1, rdRt] at e1
    simp only [bindP_ok]
    have e2 := r_digits (x0 := x0) (x1 := x1) (x2 := x2) (n := n) A1
    cases h2 : digitsT q1 with
    | err m e =>
      simp only [h2, rdRt, errH, pfail] at e2
      simp [List.replicate, go_sem, e1, e2, rdRt, errH, pfail]
    | ok d q2 =>
      have A2 := A1.digits h2
      simp only [h2, rdRt] at e2
      simp only [bindP_ok]
      have zl := zone_l (x0 := x0) (x1 := x1) (x2 := x2) (n := n) name q2.length [d] q2 (Nat.le_refl _) (by have := A2.len; have := A2.2.2; have := hA.len; have := digitsT_ok h2; have := congrArg List.length this; have := nameT_ok h1; have := congrArg List.length this.1; simp at *; omega) A2
      simp only [List.map_cons, List.map_nil] at zl
      simp [List.replicate, go_sem, e1, e2]
      exact zl
theorem At.zoneR {a : ZoneP} {r : List Tk} (hA : At L ts) (h : zoneT ts = .ok a r) : At L r ∧ r.length ≤ ts.length := by
  unfold zoneT at h
  cases h0 : nameT ts with
  | err m e => rw [h0] at h; cases h
  | ok v q0 =>
    rw [h0, bindP_ok] at h
    have A0 := hA.name h0
    have l0 := nameT_le h0
    cases h1 : sepT digitsT q0 with
    | err m e => rw [h1] at h; cases h
    | ok v q1 =>
      rw [h1, bindP_ok] at h
      have A1 := A0.sep (fun hA h => hA.digitsR h) h1
      have l1 := A1.2
      replace A1 := A1.1
      cases h2 : needS [59] q1 with
      | err m e => rw [h2] at h; cases h
      | ok u q2 =>
        rw [h2, bindP_ok] at h
        have A2 := A1.xS h2
        have l2 := needS_le h2
        cases h; exact ⟨A2, by omega⟩
theorem band_l (name : Bs) : ∀ (m : Nat) (acc : List SlotP) (ts : List Tk), acc ≠ [] → ts.length ≤ m → acc.length + m ≤ 70000 → At L ts →
    Run mach0 (.c parser_reader_band_l1b :: .lp parser_reader_band_l1 :: .endB 0 :: .c parser_reader_band_k1 :: []) .norm ⟨(.ptr 3 0 :: .undef :: .box [.str [], .sl false 3 []] :: .box [.str name, .sl true 3 (acc.map slotV)] :: .undef :: .undef :: .undef :: .undef :: .undef :: .undef :: .undef :: .undef :: .undef :: .undef :: .undef :: .undef :: .undef :: .undef :: .undef :: .undef :: .undef :: .undef :: .undef :: .undef :: .undef :: .undef :: .undef :: .undef :: .undef :: []), hr x0 x1 x2 n L ts.length⟩
      (FinQ [.cell 2 (some 2)] 4 (rdRt x0 x1 x2 n L bandV (bindP (manyT (isSymT [44]) slotT m acc ts) fun l r => bindP (needS [59] r) fun _ r => .ok ⟨name, l⟩ r))) := by
  intro m
  induction m with
  | zero =>
    intro acc ts _ hl _ hA
    obtain ⟨t, r, rfl⟩ := ends_ne hA.2.1
    simp at hl
  | succ m ih =>
    intro acc ts hne hl hacc hA
    have et := r_takeSymbol (x0 := x0) (x1 := x1) (x2 := x2) (n := n) [44] hA
    have mn : manyT (isSymT [44]) slotT (m + 1) acc ts = if isSymT [44] ts then bindP (slotT ts.tail) fun a r => manyT (isSymT [44]) slotT m (acc ++ [a]) r else .ok acc ts := rfl
    rw [mn]
    by_cases hw : isSymT [44] ts = true
    · have A1 := hA.sym hw
      obtain ⟨ts, rfl⟩ := sym_shape hw
      simp only [hw, if_true, List.tail_cons] at et A1 ⊢
      simp only [List.length_cons] at et hl ⊢
      have e1 := r_slot (x0 := x0) (x1 := x1) (x2 := x2) (n := n) A1
      have qb : (acc.length + 1) * 24 ≤ 140737488355328 := by omega
      cases h1 : slotT ts with
      | err m e =>
        simp only [h1, rdRt, errH, pfail] at e1
        unfold parser_reader_band_l1b
        simp [go_sem, et, e1, rdRt, errH, pfail]
      | ok k q =>
        have hq := A1.slotR h1
        simp only [h1, rdRt, slotV] at e1
        have ih := ih (acc ++ [k]) q (by simp) (by omega) (by simp; omega) hq.1
        simp only [List.map_append, List.map_cons, List.map_nil, slotV] at ih
        simp only [bindP_ok]
        unfold parser_reader_band_l1b
        simp [go_sem, et, e1, qb]
        simpa using ih
    · have hw : isSymT [44] ts = false := by simpa using hw
      simp only [hw] at et ⊢
      simp at et
      simp only [Bool.false_eq_true, if_false, bindP_ok]
      have e1 := r_needSymbol (x0 := x0) (x1 := x1) (x2 := x2) (n := n) [59] hA
      cases h1 : needS [59] ts with
      | err m e =>
        simp only [h1, rdRt, errH, pfail] at e1
        unfold parser_reader_band_l1b
        simp [go_sem, et, parser_reader_band_k1]
        simp [go_sem, parser_reader_band_k1b, e1, rdRt, errH, pfail]
      | ok u q =>
        simp only [h1, rdRt, noneV] at e1
        unfold parser_reader_band_l1b
        simp [go_sem, et, parser_reader_band_k1]
        simp [go_sem, parser_reader_band_k1b, e1, rdRt, bandV, slotsV_ne hne]
theorem r_band (hA : At L ts) : acall mach0 n_parser_reader_band [.ptr 3 0] (hr x0 x1 x2 n L ts.length) = some (rdRt x0 x1 x2 n L bandV (bandT ts)) := by
  refine acall_fn rfl (af := a_parser_reader_band) rfl rfl ?_
  unfold bandT
  have e1 := r_name (x0 := x0) (x1 := x1) (x2 := x2) (n := n) hA
  cases h1 : nameT ts with
  | err m e =>
    simp only [h1, rdRt, errH, pfail] at e1
    simp [List.replicate, go_sem, e1, rdRt, errH, pfail]
  | ok name q1 =>
    simp only [h1, rdRt] at e1
    have A1 := hA.name h1
    have lt1 : q1.length + 1 ≤ ts.length := by rw [(nameT_ok h1).1]; simp
    simp only [bindP_ok]
    unfold slotsT
    have e2 := r_takeWord (x0 := x0) (x1 := x1) (x2 := x2) (n := n) kOther A1
    by_cases w2 : isWord kOther q1 = true
    · have A2 := A1.word w2
      obtain ⟨q2, rfl⟩ := word_shape w2
      simp only [w2, if_true, List.tail_cons] at e2 A2 ⊢
      simp only [kOther] at e2
      simp only [List.length_cons] at *
      simp only [bindP_ok]
      have e3 := r_needSymbol (x0 := x0) (x1 := x1) (x2 := x2) (n := n) [59] A2
      cases h3 : needS [59] q2 with
      | err m e =>
        simp only [h3, rdRt, errH, pfail] at e3
        simp [List.replicate, go_sem, e1, e2, parser_reader_band_k1]
        simp [go_sem, parser_reader_band_k1b, e3, rdRt, errH, pfail]
      | ok u q3 =>
        simp only [h3, rdRt, noneV] at e3
        simp [List.replicate, go_sem, e1, e2, parser_reader_band_k1]
        simp [go_sem, parser_reader_band_k1b, e3, rdRt, bandV, slotsV]
    · have w2 : isWord kOther q1 = false := by simpa using w2
      simp only [w2] at e2 ⊢
      simp [kOther] at e2
      simp only [Bool.false_eq_true, if_false]
      unfold sepT
      have e3 := r_slot (x0 := x0) (x1 := x1) (x2 := x2) (n := n) A1
      cases h3 : slotT q1 with
      | err m e =>
        simp only [h3, rdRt, errH, pfail] at e3
        simp [List.replicate, go_sem, e1, e2, e3, rdRt, errH, pfail]
      | ok d q2 =>
        simp only [h3, rdRt, slotV] at e3
        have A3 := A1.slotR h3
        simp only [bindP_ok]
        have zl := band_l (x0 := x0) (x1 := x1) (x2 := x2) (n := n) name q2.length [d] q2 (by simp) (Nat.le_refl _) (by have := hA.len; have := hA.2.2; simp only [List.length_singleton]; omega) A3.1
        simp only [List.map_cons, List.map_nil, slotV] at zl
        simp [List.replicate, go_sem, e1, e2, e3]
        exact zl
theorem At.slotsR {a : List SlotP} {r : List Tk} (hA : At L ts) (h : slotsT ts = .ok a r) : At L r ∧ r.length ≤ ts.length := by
  unfold slotsT at h
  split at h
  · rename_i hw
    have A1 := hA.word hw
    obtain ⟨ts, rfl⟩ := word_shape hw
    cases h
    exact ⟨A1, by simp⟩
  · exact hA.sep (fun hA h => hA.slotR h) h
theorem At.bandR {a : BandP} {r : List Tk} (hA : At L ts) (h : bandT ts = .ok a r) : At L r ∧ r.length ≤ ts.length := by
  unfold bandT at h
  cases h0 : nameT ts with
  | err m e => rw [h0] at h; cases h
  | ok v q0 =>
    rw [h0, bindP_ok] at h
    have A0 := hA.name h0
    have l0 := nameT_le h0
    cases h1 : slotsT q0 with
    | err m e => rw [h1] at h; cases h
    | ok v q1 =>
      rw [h1, bindP_ok] at h
      have A1 := A0.slotsR h1
      have l1 := A1.2
      replace A1 := A1.1
      cases h2 : needS [59] q1 with
      | err m e => rw [h2] at h; cases h
      | ok u q2 =>
        rw [h2, bindP_ok] at h
        have A2 := A1.xS h2
        have l2 := needS_le h2
        cases h; exact ⟨A2, by omega⟩
theorem wplaceF_lo (s : Bs) : ∀ (l : List Bs) (i : Nat), wplaceF s l i = -1 ∨ (i : Int) ≤ wplaceF s l i
  | [], _ => .inl rfl
  | w :: l, i => by
    simp only [wplaceF]
    split
    · exact .inr (Int.le_refl _)
    · rcases wplaceF_lo s l (i + 1) with h | h
      · exact .inl h
      · right; omega
theorem wplace_lo (s : Bs) (l : List Bs) : wplace l s = -1 ∨ 0 ≤ wplace l s := by
  rcases wplaceF_lo s l 0 with h | h
  · exact .inl h
  · right; unfold wplace; omega

theorem rate_l (kind : Int) (zone band : Bs) (setup : Int) : ∀ (m : Nat) (acc : List StepP) (ts : List Tk), ts.length ≤ m → acc.length + m ≤ 70000 → At L ts →
    Run mach0 (.c parser_reader_rate_l1b :: .lp parser_reader_rate_l1 :: .endB 0 :: .c parser_reader_rate_k1 :: []) .norm ⟨(.ptr 3 0 :: .undef :: .box [.int .i64 0, .str [], .str [], .int .i64 0, .sl false 3 []] :: .box [.int .i64 kind, .str zone, .str band, .int .i64 setup, .sl true 3 (acc.map stepV)] :: .undef :: .undef :: .undef :: .undef :: .undef :: .undef :: .undef :: .undef :: .undef :: .undef :: .undef :: .undef :: .undef :: .undef :: .undef :: .undef :: .undef :: .undef :: .undef :: .undef :: .undef :: .undef :: .undef :: .undef :: .undef :: .undef :: .undef :: .undef :: .undef :: .undef :: .undef :: .undef :: .undef :: .undef :: .undef :: .undef :: .undef :: .undef :: .undef :: .undef :: .undef :: .undef :: .undef :: .undef :: .undef :: .undef :: .undef :: .undef :: .undef :: .undef :: .undef :: .undef :: .undef :: []), hr x0 x1 x2 n L ts.length⟩
      (FinQ [.cell 2 (some 5)] 4 (rdRt x0 x1 x2 n L rateV (bindP (manyT (isSymT [44]) tierT m acc ts) fun l r => bindP (needS [59] r) fun _ r => .ok ⟨kind, zone, band, setup, l⟩ r))) := by
  intro m
  induction m with
  | zero =>
    intro acc ts hl _ hA
    obtain ⟨t, r, rfl⟩ := ends_ne hA.2.1
    simp at hl
  | succ m ih =>
    intro acc ts hl hacc hA
    have et := r_takeSymbol (x0 := x0) (x1 := x1) (x2 := x2) (n := n) [44] hA
    have mn : manyT (isSymT [44]) tierT (m + 1) acc ts = if isSymT [44] ts then bindP (tierT ts.tail) fun a r => manyT (isSymT [44]) tierT m (acc ++ [a]) r else .ok acc ts := rfl
    rw [mn]
    by_cases hw : isSymT [44] ts = true
    · have A1 := hA.sym hw
      obtain ⟨ts, rfl⟩ := sym_shape hw
      simp only [hw, if_true, List.tail_cons] at et A1 ⊢
      simp only [List.length_cons] at et hl ⊢
      have e1 := r_step (x0 := x0) (x1 := x1) (x2 := x2) (n := n) A1
      have qb : (acc.length + 1) * 24 ≤ 140737488355328 := by omega
      cases h1 : tierT ts with
      | err m e =>
        simp only [h1, rdRt, errH, pfail] at e1
        unfold parser_reader_rate_l1b
        simp [go_sem, et, e1, rdRt, errH, pfail]
      | ok k q =>
        have hq := A1.stepR h1
        simp only [h1, rdRt, stepV] at e1
        have ih := ih (acc ++ [k]) q (by omega) (by simp; omega) hq.1
        simp only [List.map_append, List.map_cons, List.map_nil, stepV] at ih
        simp only [bindP_ok]
        unfold parser_reader_rate_l1b
        simp [go_sem, et, e1, qb]
        simpa using ih
    · have hw : isSymT [44] ts = false := by simpa using hw
      simp only [hw] at et ⊢
      simp at et
      simp only [Bool.false_eq_true, if_false, bindP_ok]
      have e1 := r_needSymbol (x0 := x0) (x1 := x1) (x2 := x2) (n := n) [59] hA
      cases h1 : needS [59] ts with
      | err m e =>
        simp only [h1, rdRt, errH, pfail] at e1
        unfold parser_reader_rate_l1b
        simp [go_sem, et, parser_reader_rate_k1]
        simp [go_sem, parser_reader_rate_k1b, e1, rdRt, errH, pfail]
      | ok u q =>
        simp only [h1, rdRt, noneV] at e1
        unfold parser_reader_rate_l1b
        simp [go_sem, et, parser_reader_rate_k1]
        simp [go_sem, parser_reader_rate_k1b, e1, rdRt, rateV]
theorem r_rate (hA : At L ts) : acall mach0 n_parser_reader_rate [.ptr 3 0] (hr x0 x1 x2 n L ts.length) = some (rdRt x0 x1 x2 n L rateV (rateT ts)) := by
  refine acall_fn rfl (af := a_parser_reader_rate) rfl rfl ?_
  unfold rateT
  have h70 := hA.2.2
  have hlen := hA.len
  obtain ⟨t, ts, rfl⟩ := ends_ne hA.2.1
  have ep := e_peek (x0 := x0) (x1 := x1) (x2 := x2) (n := n) hA
  have es := e_skip (x0 := x0) (x1 := x1) (x2 := x2) (n := n) hA
  have ek := e_kind t.str
  have ef := fun h => e_pfail t.kind t.val (posV n L (ts.length + 1)) t.str 1 h
  simp only [hr, tokV] at ep es ef
  by_cases hk : t.kind = 1
  · obtain ⟨w, rfl⟩ := word_of_kind hk
    have ef := fun h => e_pfail 1 0 (posV n L (ts.length + 1)) w 1 h
    simp only [tokV] at ef
    simp only [Tk.kind, Tk.val, Tk.str] at ep es ek
    have e4 : Go.Pu.wordT kindWs 0 (.word w :: ts) = if wplace kindWs w < 0 ∨ wplace kindWs w < 0 then failT (.word w :: ts) 1 else .ok (wplace kindWs w) ts := rfl
    rw [e4]
    obtain ⟨v, hv⟩ : ∃ v, wplace kindWs w + 1 = v := ⟨_, rfl⟩
    rw [hv] at ek
    by_cases hp : wplace kindWs w < 0
    · have hz : (v == 0) = true := by
        rcases wplace_lo w kindWs with h | h
        · exact bt' (by omega)
        · omega
      rw [if_pos (by omega)]
      simp [List.replicate, go_sem, ep, ek, hz, ef, rdRt, failT, errH]
      simp [pfail, go_sem]
    · have hz : (v == 0) = false := bf' (by omega)
      rw [if_neg (by omega)]
      have A0 := hA.tl (by simp)
      simp only [bindP_ok]
      have e1 := r_needWord (x0 := x0) (x1 := x1) (x2 := x2) (n := n) kTo A0
      cases h1 : needW kTo ts with
      | err m e =>
        simp only [h1, rdRt, errH, pfail] at e1
        simp only [kTo] at e1
        simp [List.replicate, go_sem, ep, es, ek, hz, e1, rdRt, errH, pfail]
      | ok u q1 =>
        have A1 := A0.xW h1
        simp only [h1, rdRt, noneV] at e1
        simp only [kTo] at e1
        simp only [bindP_ok]
        have e2 := r_nameOrAny (x0 := x0) (x1 := x1) (x2 := x2) (n := n) A1
        cases h2 : nameOrAny q1 with
        | err m e =>
          simp only [h2, rdRt, errH, pfail] at e2
          simp [List.replicate, go_sem, ep, es, ek, hz, e1, e2, rdRt, errH, pfail]
        | ok zone q2 =>
          have A2 := A1.xAny h2
          simp only [h2, rdRt] at e2
          simp only [bindP_ok]
          have e3 := r_needWord (x0 := x0) (x1 := x1) (x2 := x2) (n := n) kIn A2
          cases h3 : needW kIn q2 with
          | err m e =>
            simp only [h3, rdRt, errH, pfail] at e3
            simp only [kIn] at e3
            simp [List.replicate, go_sem, ep, es, ek, hz, e1, e2, e3, rdRt, errH, pfail]
          | ok u q3 =>
            have A3 := A2.xW h3
            simp only [h3, rdRt, noneV] at e3
            simp only [kIn] at e3
            simp only [bindP_ok]
            have e4 := r_nameOrAny (x0 := x0) (x1 := x1) (x2 := x2) (n := n) A3
            cases h4 : nameOrAny q3 with
            | err m e =>
              simp only [h4, rdRt, errH, pfail] at e4
              simp [List.replicate, go_sem, ep, es, ek, hz, e1, e2, e3, e4, rdRt, errH, pfail]
            | ok band q4 =>
              have A4 := A3.xAny h4
              simp only [h4, rdRt] at e4
              simp only [bindP_ok]
              have e5 := r_takeWord (x0 := x0) (x1 := x1) (x2 := x2) (n := n) kSetup A4
              unfold optN sepT
              by_cases w5 : isWord kSetup q4 = true
              · have A5 := A4.word w5
                obtain ⟨q5, rfl⟩ := word_shape w5
                simp only [w5, if_true, List.tail_cons] at e5 A5 ⊢
                simp only [kSetup] at e5
                simp only [List.length_cons] at *
                have e6 := r_number (x0 := x0) (x1 := x1) (x2 := x2) (n := n) A5
                cases h6 : numberT q5 with
                | err m e =>
                  simp only [h6, rdRt, errH, pfail] at e6
                  simp [List.replicate, go_sem, ep, es, ek, hz, e1, e2, e3, e4, e5, e6, rdRt, errH, pfail]
                | ok setup q6 =>
                  have A6 := A5.number h6
                  simp only [h6, rdRt] at e6
                  simp only [bindP_ok]
                  have e7 := r_step (x0 := x0) (x1 := x1) (x2 := x2) (n := n) A6
                  cases h7 : tierT q6 with
                  | err m e =>
                    simp only [h7, rdRt, errH, pfail] at e7
                    simp [List.replicate, go_sem, ep, es, ek, hz, e1, e2, e3, e4, e5, e6, e7, rdRt, errH, pfail]
                  | ok d q7 =>
                    have A7 := A6.stepR h7
                    simp only [h7, rdRt, stepV] at e7
                    simp only [bindP_ok]
                    have zl := rate_l (x0 := x0) (x1 := x1) (x2 := x2) (n := n) v zone band setup q7.length [d] q7 (Nat.le_refl _) (by have := A7.1.len; have := A7.2; have := h70; have := hlen; have := needW_le h1; have := nameOrAny_le h2; have := needW_le h3; have := nameOrAny_le h4; have := numberT_le h6; simp only [List.length_singleton, List.length_cons, List.length_nil] at *; omega) A7.1
                    simp only [List.map_cons, List.map_nil, stepV] at zl
                    simp [List.replicate, go_sem, ep, es, ek, hz, e1, e2, e3, e4, e5, e6, e7, hv]
                    exact zl
              · have w5 : isWord kSetup q4 = false := by simpa using w5
                simp only [w5] at e5 ⊢
                simp [kSetup] at e5
                simp only [Bool.false_eq_true, if_false, bindP_ok]
                have e6 := r_step (x0 := x0) (x1 := x1) (x2 := x2) (n := n) A4
                cases h6 : tierT q4 with
                | err m e =>
                  simp only [h6, rdRt, errH, pfail] at e6
                  simp [List.replicate, go_sem, ep, es, ek, hz, e1, e2, e3, e4, e5, e6, rdRt, errH, pfail]
                | ok d q6 =>
                  have A6 := A4.stepR h6
                  simp only [h6, rdRt, stepV] at e6
                  simp only [bindP_ok]
                  have zl := rate_l (x0 := x0) (x1 := x1) (x2 := x2) (n := n) v zone band 0 q6.length [d] q6 (Nat.le_refl _) (by have := A6.1.len; have := A6.2; have := h70; have := hlen; have := needW_le h1; have := nameOrAny_le h2; have := needW_le h3; have := nameOrAny_le h4; simp only [List.length_singleton, List.length_cons, List.length_nil] at *; omega) A6.1
                  simp only [List.map_cons, List.map_nil, stepV] at zl
                  simp [List.replicate, go_sem, ep, es, ek, hz, e1, e2, e3, e4, e5, e6, hv]
                  exact zl
  · have hk' : ¬ (t.kind : Int) = 1 := by omega
    have e3 : Go.Pu.wordT kindWs 0 (t :: ts) = failT (t :: ts) 1 := by cases t <;> simp [Go.Pu.wordT, Tk.kind] at hk ⊢
    rw [e3]
    simp [List.replicate, go_sem, ep, ek, ef, nt' hk', rdRt, failT, errH]
    simp [pfail, go_sem]
theorem At.rateR {a : RateP} {r : List Tk} (hA : At L ts) (h : rateT ts = .ok a r) : At L r ∧ r.length ≤ ts.length := by
  unfold rateT at h
  cases h0 : wordT kindWs 0 ts with
  | err m e => rw [h0] at h; cases h
  | ok v q0 =>
    rw [h0, bindP_ok] at h
    have A0 := hA.xWord h0
    have l0 := wordT_le h0
    cases h1 : needW kTo q0 with
    | err m e => rw [h1] at h; cases h
    | ok u q1 =>
      rw [h1, bindP_ok] at h
      have A1 := A0.xW h1
      have l1 := needW_le h1
      cases h2 : nameOrAny q1 with
      | err m e => rw [h2] at h; cases h
      | ok v q2 =>
        rw [h2, bindP_ok] at h
        have A2 := A1.xAny h2
        have l2 := nameOrAny_le h2
        cases h3 : needW kIn q2 with
        | err m e => rw [h3] at h; cases h
        | ok u q3 =>
          rw [h3, bindP_ok] at h
          have A3 := A2.xW h3
          have l3 := needW_le h3
          cases h4 : nameOrAny q3 with
          | err m e => rw [h4] at h; cases h
          | ok v q4 =>
            rw [h4, bindP_ok] at h
            have A4 := A3.xAny h4
            have l4 := nameOrAny_le h4
            cases h5 : optN kSetup q4 with
            | err m e => rw [h5] at h; cases h
            | ok v q5 =>
              rw [h5, bindP_ok] at h
              have A5 := A4.opt h5
              have l5 := A5.2
              replace A5 := A5.1
              cases h6 : sepT tierT q5 with
              | err m e => rw [h6] at h; cases h
              | ok v q6 =>
                rw [h6, bindP_ok] at h
                have A6 := A5.sep (fun hA h => hA.stepR h) h6
                have l6 := A6.2
                replace A6 := A6.1
                cases h7 : needS [59] q6 with
                | err m e => rw [h7] at h; cases h
                | ok u q7 =>
                  rw [h7, bindP_ok] at h
                  have A7 := A6.xS h7
                  have l7 := needS_le h7
                  cases h; exact ⟨A7, by omega⟩
theorem r_discount (hA : At L ts) : acall mach0 n_parser_reader_discount [.ptr 3 0] (hr x0 x1 x2 n L ts.length) = some (rdRt x0 x1 x2 n L discV (discT ts)) := by
  refine acall_fn rfl (af := a_parser_reader_discount) rfl rfl ?_
  unfold discT
  have e1 := r_name (x0 := x0) (x1 := x1) (x2 := x2) (n := n) hA
  cases h1 : nameT ts with
  | err m e =>
    simp only [h1, rdRt, errH, pfail] at e1
    simp [List.replicate, go_sem, e1, rdRt, errH, pfail]
  | ok name q1 =>
    have A1 := hA.name h1
    simp only [h1, rdRt] at e1
    simp only [bindP_ok]
    have e2 := r_number (x0 := x0) (x1 := x1) (x2 := x2) (n := n) A1
    cases h2 : numberT q1 with
    | err m e =>
      simp only [h2, rdRt, errH, pfail] at e2
      simp [List.replicate, go_sem, e1, e2, rdRt, errH, pfail]
    | ok p q2 =>
      have A2 := A1.number h2
      simp only [h2, rdRt] at e2
      simp only [bindP_ok]
      have e3 := r_needWord (x0 := x0) (x1 := x1) (x2 := x2) (n := n) kPoints A2
      cases h3 : needW kPoints q2 with
      | err m e =>
        simp only [h3, rdRt, errH, pfail] at e3
        simp only [kPoints] at e3
        simp [List.replicate, go_sem, e1, e2, e3, rdRt, errH, pfail]
      | ok u q3 =>
        have A3 := A2.xW h3
        simp only [h3, rdRt, noneV] at e3
        simp only [kPoints] at e3
        simp only [bindP_ok]
        have e4 := r_needWord (x0 := x0) (x1 := x1) (x2 := x2) (n := n) kWhen A3
        cases h4 : needW kWhen q3 with
        | err m e =>
          simp only [h4, rdRt, errH, pfail] at e4
          simp only [kWhen] at e4
          simp [List.replicate, go_sem, e1, e2, e3, e4, rdRt, errH, pfail]
        | ok u q4 =>
          have A4 := A3.xW h4
          simp only [h4, rdRt, noneV] at e4
          simp only [kWhen] at e4
          simp only [bindP_ok]
          have e5 := e_either (x0 := x0) (x1 := x1) (x2 := x2) (n := n) A4
          cases h5 : exprT q4 with
          | err m e =>
            simp only [h5, rdRt, errH, pfail] at e5
            simp [List.replicate, go_sem, e1, e2, e3, e4, e5, rdRt, errH, pfail]
          | ok x q5 =>
            have A5 := A4.expr h5
            obtain ⟨op, num, text, args⟩ := x
            simp only [h5, rdRt, exprV] at e5
            simp only [bindP_ok]
            have e6 := r_needSymbol (x0 := x0) (x1 := x1) (x2 := x2) (n := n) [59] A5
            cases h6 : needS [59] q5 with
            | err m e =>
              simp only [h6, rdRt, errH, pfail] at e6
              simp [List.replicate, go_sem, e1, e2, e3, e4, e5, e6, rdRt, errH, pfail]
            | ok u q6 =>
              have A6 := A5.xS h6
              simp only [h6, rdRt, noneV] at e6
              simp only [bindP_ok]
              simp [List.replicate, go_sem, e1, e2, e3, e4, e5, e6, rdRt, discV, exprC]
theorem At.discR {a : DiscP} {r : List Tk} (hA : At L ts) (h : discT ts = .ok a r) : At L r ∧ r.length ≤ ts.length := by
  unfold discT at h
  cases h0 : nameT ts with
  | err m e => rw [h0] at h; cases h
  | ok v q0 =>
    rw [h0, bindP_ok] at h
    have A0 := hA.name h0
    have l0 := nameT_le h0
    cases h1 : numberT q0 with
    | err m e => rw [h1] at h; cases h
    | ok v q1 =>
      rw [h1, bindP_ok] at h
      have A1 := A0.number h1
      have l1 := numberT_le h1
      cases h2 : needW kPoints q1 with
      | err m e => rw [h2] at h; cases h
      | ok u q2 =>
        rw [h2, bindP_ok] at h
        have A2 := A1.xW h2
        have l2 := needW_le h2
        cases h3 : needW kWhen q2 with
        | err m e => rw [h3] at h; cases h
        | ok u q3 =>
          rw [h3, bindP_ok] at h
          have A3 := A2.xW h3
          have l3 := needW_le h3
          cases h4 : exprT q3 with
          | err m e => rw [h4] at h; cases h
          | ok v q4 =>
            rw [h4, bindP_ok] at h
            have A4 := A3.expr h4
            have l4 := exprT_le h4
            cases h5 : needS [59] q4 with
            | err m e => rw [h5] at h; cases h
            | ok u q5 =>
              rw [h5, bindP_ok] at h
              have A5 := A4.xS h5
              have l5 := needS_le h5
              cases h; exact ⟨A5, by omega⟩
end
end Go.Am
