/- The parser's tariffs. -/
import Derived.Test.YtcjglgeamdfpmaaEP9
set_option linter.unusedSimpArgs false
set_option linter.unnecessarySimpa false
set_option linter.unusedVariables false
set_option maxRecDepth 10000
namespace Go.Am
open Go Go.Pu

def tariffV (t : TariffP) : V := .agg [.str t.name, .int .i64 t.start, .bool t.split, .sl false 2 (t.zones.map zoneV), .sl false 2 (t.bands.map bandV), .sl false 5 (t.rates.map rateV), .sl false 6 (t.discs.map discV)]
theorem slotsV_sl (l : List SlotP) : ∃ sz xs, slotsV l = .sl false sz xs := by
  cases l with
  | nil => exact ⟨_, _, rfl⟩
  | cons a l => exact ⟨_, _, rfl⟩

section
variable {x0 x1 x2 : List V} {n : Nat} {L : List (Tk × Nat)} {ts : List Tk}

theorem td_l (name : Bs) (start : Int) (split : Bool) (zs : List ZoneP) (bs : List BandP) (rs : List RateP) : ∀ (m : Nat) (acc : List DiscP) (ts : List Tk), ts.length ≤ m → acc.length + m ≤ 70000 → At L ts →
    Run mach0 (.c parser_reader_tariff_l4b :: .lp parser_reader_tariff_l4 :: .endB 6 :: .c parser_reader_tariff_k1 :: []) .norm ⟨(.ptr 3 0 :: .undef :: .box [.str [], .int .i64 0, .bool false, .sl false 2 [], .sl false 2 [], .sl false 5 [], .sl false 6 []] :: .box [.str name, .int .i64 start, .bool split, .sl true 2 (zs.map zoneV), .sl true 2 (bs.map bandV), .sl true 5 (rs.map rateV), .sl true 6 (acc.map discV)] :: .undef :: .undef :: .undef :: .undef :: .undef :: .undef :: .undef :: .undef :: .undef :: .undef :: .undef :: .undef :: .undef :: .undef :: .undef :: .undef :: .undef :: .undef :: .undef :: .undef :: .undef :: .undef :: .undef :: .undef :: .undef :: .undef :: .undef :: .undef :: .undef :: .undef :: .undef :: .undef :: .undef :: .undef :: .undef :: .undef :: .undef :: .undef :: .undef :: .undef :: .undef :: .undef :: .undef :: .undef :: .undef :: .undef :: .undef :: .undef :: .undef :: .undef :: .undef :: .undef :: .undef :: .undef :: .undef :: .undef :: .undef :: .undef :: .undef :: .undef :: .undef :: .undef :: .undef :: .undef :: .undef :: .undef :: .undef :: .undef :: .undef :: .undef :: .undef :: .undef :: .undef :: .undef :: .undef :: .undef :: .undef :: .undef :: []), hr x0 x1 x2 n L ts.length⟩
      (FinQ [.cell 2 (some 7)] 4 (rdRt x0 x1 x2 n L tariffV (bindP (manyT (isWord kDisc) discT m acc ts) fun l r => .ok ⟨name, start, split, zs, bs, rs, l⟩ r))) := by
  intro m
  induction m with
  | zero =>
    intro acc ts hl _ hA
    obtain ⟨t, r, rfl⟩ := ends_ne hA.2.1
    simp at hl
  | succ m ih =>
    intro acc ts hl hacc hA
    have et := r_takeWord (x0 := x0) (x1 := x1) (x2 := x2) (n := n) kDisc hA
    have mn : manyT (isWord kDisc) discT (m + 1) acc ts = if isWord kDisc ts then bindP (discT ts.tail) fun a r => manyT (isWord kDisc) discT m (acc ++ [a]) r else .ok acc ts := rfl
    rw [mn]
    by_cases hw : isWord kDisc ts = true
    · have A1 := hA.word hw
      obtain ⟨ts, rfl⟩ := word_shape hw
      simp only [hw, if_true, List.tail_cons] at et A1 ⊢
      simp only [List.length_cons] at et hl ⊢
      simp only [kDisc] at et
      have e1 := r_discount (x0 := x0) (x1 := x1) (x2 := x2) (n := n) A1
      have qb : (acc.length + 1) * 80 ≤ 140737488355328 := by omega
      cases h1 : discT ts with
      | err m e =>
        simp only [h1, rdRt, errH, pfail] at e1
        unfold parser_reader_tariff_l4b
        simp [go_sem, et, e1, rdRt, errH, pfail]
      | ok k q =>
        have hq := A1.discR h1
        obtain ⟨nm, po, op, num, text, args⟩ := k
        simp only [h1, rdRt, discV, exprC] at e1
        have ih := ih (acc ++ [⟨nm, po, op, num, text, args⟩]) q (by omega) (by simp; omega) hq.1
        simp only [List.map_append, List.map_cons, List.map_nil, discV, exprC] at ih
        simp only [bindP_ok]
        unfold parser_reader_tariff_l4b
        simp [go_sem, et, e1, qb]
        simpa using ih
    · have hw : isWord kDisc ts = false := by simpa using hw
      simp only [hw] at et ⊢
      simp [kDisc] at et
      simp only [Bool.false_eq_true, if_false, bindP_ok]
      unfold parser_reader_tariff_l4b
      simp [go_sem, et, parser_reader_tariff_k1]
      simp [go_sem, parser_reader_tariff_k1b, rdRt, tariffV]
theorem tr_l (name : Bs) (start : Int) (split : Bool) (zs : List ZoneP) (bs : List BandP) : ∀ (m : Nat) (acc : List RateP) (ts : List Tk), ts.length ≤ m → acc.length + m ≤ 70000 → At L ts →
    Run mach0 (.c parser_reader_tariff_l3b :: .lp parser_reader_tariff_l3 :: .endB 4 :: .c parser_reader_tariff_k2 :: []) .norm ⟨(.ptr 3 0 :: .undef :: .box [.str [], .int .i64 0, .bool false, .sl false 2 [], .sl false 2 [], .sl false 5 [], .sl false 6 []] :: .box [.str name, .int .i64 start, .bool split, .sl true 2 (zs.map zoneV), .sl true 2 (bs.map bandV), .sl true 5 (acc.map rateV), .sl true 6 []] :: .undef :: .undef :: .undef :: .undef :: .undef :: .undef :: .undef :: .undef :: .undef :: .undef :: .undef :: .undef :: .undef :: .undef :: .undef :: .undef :: .undef :: .undef :: .undef :: .undef :: .undef :: .undef :: .undef :: .undef :: .undef :: .undef :: .undef :: .undef :: .undef :: .undef :: .undef :: .undef :: .undef :: .undef :: .undef :: .undef :: .undef :: .undef :: .undef :: .undef :: .undef :: .undef :: .undef :: .undef :: .undef :: .undef :: .undef :: .undef :: .undef :: .undef :: .undef :: .undef :: .undef :: .undef :: .undef :: .undef :: .undef :: .undef :: .undef :: .undef :: .undef :: .undef :: .undef :: .undef :: .undef :: .undef :: .undef :: .undef :: .undef :: .undef :: .undef :: .undef :: .undef :: .undef :: .undef :: .undef :: .undef :: .undef :: []), hr x0 x1 x2 n L ts.length⟩
      (FinQ [.cell 2 (some 7)] 4 (rdRt x0 x1 x2 n L tariffV (bindP (manyT (isWord kRate) rateT m acc ts) fun l r => bindP (manyT (isWord kDisc) discT r.length [] r) fun ds r => .ok ⟨name, start, split, zs, bs, l, ds⟩ r))) := by
  intro m
  induction m with
  | zero =>
    intro acc ts hl _ hA
    obtain ⟨t, r, rfl⟩ := ends_ne hA.2.1
    simp at hl
  | succ m ih =>
    intro acc ts hl hacc hA
    have et := r_takeWord (x0 := x0) (x1 := x1) (x2 := x2) (n := n) kRate hA
    have mn : manyT (isWord kRate) rateT (m + 1) acc ts = if isWord kRate ts then bindP (rateT ts.tail) fun a r => manyT (isWord kRate) rateT m (acc ++ [a]) r else .ok acc ts := rfl
    rw [mn]
    by_cases hw : isWord kRate ts = true
    · have A1 := hA.word hw
      obtain ⟨ts, rfl⟩ := word_shape hw
      simp only [hw, if_true, List.tail_cons] at et A1 ⊢
      simp only [List.length_cons] at et hl ⊢
      simp only [kRate] at et
      have e1 := r_rate (x0 := x0) (x1 := x1) (x2 := x2) (n := n) A1
      have qb : (acc.length + 1) * 72 ≤ 140737488355328 := by omega
      cases h1 : rateT ts with
      | err m e =>
        simp only [h1, rdRt, errH, pfail] at e1
        unfold parser_reader_tariff_l3b
        simp [go_sem, et, e1, rdRt, errH, pfail]
      | ok k q =>
        have hq := A1.rateR h1
        simp only [h1, rdRt, rateV] at e1
        have ih := ih (acc ++ [k]) q (by omega) (by simp; omega) hq.1
        simp only [List.map_append, List.map_cons, List.map_nil, rateV] at ih
        simp only [bindP_ok]
        unfold parser_reader_tariff_l3b
        simp [go_sem, et, e1, qb]
        simpa using ih
    · have hw : isWord kRate ts = false := by simpa using hw
      simp only [hw] at et ⊢
      simp [kRate] at et
      simp only [Bool.false_eq_true, if_false, bindP_ok]
      have nx := td_l (x0 := x0) (x1 := x1) (x2 := x2) (n := n) name start split zs bs acc ts.length [] ts (Nat.le_refl _) (by have := hA.len; have := hA.2.2; simp only [List.length_nil]; omega) hA
      simp only [List.map_nil] at nx
      unfold parser_reader_tariff_l3b
      simp [go_sem, et, parser_reader_tariff_k2]
      simp [go_sem, parser_reader_tariff_k2b]
      exact nx
theorem tb_l (name : Bs) (start : Int) (split : Bool) (zs : List ZoneP) : ∀ (m : Nat) (acc : List BandP) (ts : List Tk), ts.length ≤ m → acc.length + m ≤ 70000 → At L ts →
    Run mach0 (.c parser_reader_tariff_l2b :: .lp parser_reader_tariff_l2 :: .endB 2 :: .c parser_reader_tariff_k3 :: []) .norm ⟨(.ptr 3 0 :: .undef :: .box [.str [], .int .i64 0, .bool false, .sl false 2 [], .sl false 2 [], .sl false 5 [], .sl false 6 []] :: .box [.str name, .int .i64 start, .bool split, .sl true 2 (zs.map zoneV), .sl true 2 (acc.map bandV), .sl true 5 [], .sl true 6 []] :: .undef :: .undef :: .undef :: .undef :: .undef :: .undef :: .undef :: .undef :: .undef :: .undef :: .undef :: .undef :: .undef :: .undef :: .undef :: .undef :: .undef :: .undef :: .undef :: .undef :: .undef :: .undef :: .undef :: .undef :: .undef :: .undef :: .undef :: .undef :: .undef :: .undef :: .undef :: .undef :: .undef :: .undef :: .undef :: .undef :: .undef :: .undef :: .undef :: .undef :: .undef :: .undef :: .undef :: .undef :: .undef :: .undef :: .undef :: .undef :: .undef :: .undef :: .undef :: .undef :: .undef :: .undef :: .undef :: .undef :: .undef :: .undef :: .undef :: .undef :: .undef :: .undef :: .undef :: .undef :: .undef :: .undef :: .undef :: .undef :: .undef :: .undef :: .undef :: .undef :: .undef :: .undef :: .undef :: .undef :: .undef :: .undef :: []), hr x0 x1 x2 n L ts.length⟩
      (FinQ [.cell 2 (some 7)] 4 (rdRt x0 x1 x2 n L tariffV (bindP (manyT (isWord kBand) bandT m acc ts) fun l r => bindP (manyT (isWord kRate) rateT r.length [] r) fun rs r => bindP (manyT (isWord kDisc) discT r.length [] r) fun ds r => .ok ⟨name, start, split, zs, l, rs, ds⟩ r))) := by
  intro m
  induction m with
  | zero =>
    intro acc ts hl _ hA
    obtain ⟨t, r, rfl⟩ := ends_ne hA.2.1
    simp at hl
  | succ m ih =>
    intro acc ts hl hacc hA
    have et := r_takeWord (x0 := x0) (x1 := x1) (x2 := x2) (n := n) kBand hA
    have mn : manyT (isWord kBand) bandT (m + 1) acc ts = if isWord kBand ts then bindP (bandT ts.tail) fun a r => manyT (isWord kBand) bandT m (acc ++ [a]) r else .ok acc ts := rfl
    rw [mn]
    by_cases hw : isWord kBand ts = true
    · have A1 := hA.word hw
      obtain ⟨ts, rfl⟩ := word_shape hw
      simp only [hw, if_true, List.tail_cons] at et A1 ⊢
      simp only [List.length_cons] at et hl ⊢
      simp only [kBand] at et
      have e1 := r_band (x0 := x0) (x1 := x1) (x2 := x2) (n := n) A1
      have qb : (acc.length + 1) * 40 ≤ 140737488355328 := by omega
      cases h1 : bandT ts with
      | err m e =>
        simp only [h1, rdRt, errH, pfail] at e1
        unfold parser_reader_tariff_l2b
        simp [go_sem, et, e1, rdRt, errH, pfail]
      | ok k q =>
        have hq := A1.bandR h1
        simp only [h1, rdRt, bandV] at e1
        obtain ⟨ssz, sxs, hsl⟩ := slotsV_sl k.slots
        rw [hsl] at e1
        have ih := ih (acc ++ [k]) q (by omega) (by simp; omega) hq.1
        simp only [List.map_append, List.map_cons, List.map_nil, bandV, hsl] at ih
        simp only [bindP_ok]
        unfold parser_reader_tariff_l2b
        simp [go_sem, et, e1, qb]
        simpa using ih
    · have hw : isWord kBand ts = false := by simpa using hw
      simp only [hw] at et ⊢
      simp [kBand] at et
      simp only [Bool.false_eq_true, if_false, bindP_ok]
      have nx := tr_l (x0 := x0) (x1 := x1) (x2 := x2) (n := n) name start split zs acc ts.length [] ts (Nat.le_refl _) (by have := hA.len; have := hA.2.2; simp only [List.length_nil]; omega) hA
      simp only [List.map_nil] at nx
      unfold parser_reader_tariff_l2b
      simp [go_sem, et, parser_reader_tariff_k3]
      simp [go_sem, parser_reader_tariff_k3b]
      exact nx
theorem tz_l (name : Bs) (start : Int) (split : Bool) : ∀ (m : Nat) (acc : List ZoneP) (ts : List Tk), ts.length ≤ m → acc.length + m ≤ 70000 → At L ts →
    Run mach0 (.c parser_reader_tariff_l1b :: .lp parser_reader_tariff_l1 :: .endB 0 :: .c parser_reader_tariff_k4 :: []) .norm ⟨(.ptr 3 0 :: .undef :: .box [.str [], .int .i64 0, .bool false, .sl false 2 [], .sl false 2 [], .sl false 5 [], .sl false 6 []] :: .box [.str name, .int .i64 start, .bool split, .sl true 2 (acc.map zoneV), .sl true 2 [], .sl true 5 [], .sl true 6 []] :: .undef :: .undef :: .undef :: .undef :: .undef :: .undef :: .undef :: .undef :: .undef :: .undef :: .undef :: .undef :: .undef :: .undef :: .undef :: .undef :: .undef :: .undef :: .undef :: .undef :: .undef :: .undef :: .undef :: .undef :: .undef :: .undef :: .undef :: .undef :: .undef :: .undef :: .undef :: .undef :: .undef :: .undef :: .undef :: .undef :: .undef :: .undef :: .undef :: .undef :: .undef :: .undef :: .undef :: .undef :: .undef :: .undef :: .undef :: .undef :: .undef :: .undef :: .undef :: .undef :: .undef :: .undef :: .undef :: .undef :: .undef :: .undef :: .undef :: .undef :: .undef :: .undef :: .undef :: .undef :: .undef :: .undef :: .undef :: .undef :: .undef :: .undef :: .undef :: .undef :: .undef :: .undef :: .undef :: .undef :: .undef :: .undef :: []), hr x0 x1 x2 n L ts.length⟩
      (FinQ [.cell 2 (some 7)] 4 (rdRt x0 x1 x2 n L tariffV (bindP (manyT (isWord kZone) zoneT m acc ts) fun l r => bindP (manyT (isWord kBand) bandT r.length [] r) fun bs r => bindP (manyT (isWord kRate) rateT r.length [] r) fun rs r => bindP (manyT (isWord kDisc) discT r.length [] r) fun ds r => .ok ⟨name, start, split, l, bs, rs, ds⟩ r))) := by
  intro m
  induction m with
  | zero =>
    intro acc ts hl _ hA
    obtain ⟨t, r, rfl⟩ := ends_ne hA.2.1
    simp at hl
  | succ m ih =>
    intro acc ts hl hacc hA
    have et := r_takeWord (x0 := x0) (x1 := x1) (x2 := x2) (n := n) kZone hA
    have mn : manyT (isWord kZone) zoneT (m + 1) acc ts = if isWord kZone ts then bindP (zoneT ts.tail) fun a r => manyT (isWord kZone) zoneT m (acc ++ [a]) r else .ok acc ts := rfl
    rw [mn]
    by_cases hw : isWord kZone ts = true
    · have A1 := hA.word hw
      obtain ⟨ts, rfl⟩ := word_shape hw
      simp only [hw, if_true, List.tail_cons] at et A1 ⊢
      simp only [List.length_cons] at et hl ⊢
      simp only [kZone] at et
      have e1 := r_zone (x0 := x0) (x1 := x1) (x2 := x2) (n := n) A1
      have qb : (acc.length + 1) * 40 ≤ 140737488355328 := by omega
      cases h1 : zoneT ts with
      | err m e =>
        simp only [h1, rdRt, errH, pfail] at e1
        unfold parser_reader_tariff_l1b
        simp [go_sem, et, e1, rdRt, errH, pfail]
      | ok k q =>
        have hq := A1.zoneR h1
        simp only [h1, rdRt, zoneV] at e1
        have ih := ih (acc ++ [k]) q (by omega) (by simp; omega) hq.1
        simp only [List.map_append, List.map_cons, List.map_nil, zoneV] at ih
        simp only [bindP_ok]
        unfold parser_reader_tariff_l1b
        simp [go_sem, et, e1, qb]
        simpa using ih
    · have hw : isWord kZone ts = false := by simpa using hw
      simp only [hw] at et ⊢
      simp [kZone] at et
      simp only [Bool.false_eq_true, if_false, bindP_ok]
      have nx := tb_l (x0 := x0) (x1 := x1) (x2 := x2) (n := n) name start split acc ts.length [] ts (Nat.le_refl _) (by have := hA.len; have := hA.2.2; simp only [List.length_nil]; omega) hA
      simp only [List.map_nil] at nx
      unfold parser_reader_tariff_l1b
      simp [go_sem, et, parser_reader_tariff_k4]
      simp [go_sem, parser_reader_tariff_k4b]
      exact nx
theorem dateT_ok {v : Int} {r : List Tk} (h : dateT ts = .ok v r) : 0 ≤ v ∧ v ≤ 12622780800 ∧ ts.length = r.length + 5 := by
  unfold dateT at h
  cases h1 : fixedT 4 9999 ts with
  | err m e => rw [h1] at h; cases h
  | ok y q1 =>
    rw [h1, bindP_ok] at h
    cases h2 : needS [45] q1 with
    | err m e => rw [h2] at h; cases h
    | ok u q2 =>
      rw [h2, bindP_ok] at h
      cases h3 : fixedT 2 99 q2 with
      | err m e => rw [h3] at h; cases h
      | ok mo q3 =>
        rw [h3, bindP_ok] at h
        cases h4 : needS [45] q3 with
        | err m e => rw [h4] at h; cases h
        | ok u q4 =>
          rw [h4, bindP_ok] at h
          cases h5 : fixedT 2 99 q4 with
          | err m e => rw [h5] at h; cases h
          | ok da q5 =>
            rw [h5, bindP_ok] at h
            have l1 := fixedT_ok h1
            have l3 := fixedT_ok h3
            have l5 := fixedT_ok h5
            obtain ⟨d1, l1, _⟩ := l1
            obtain ⟨d3, l3, _⟩ := l3
            obtain ⟨d5, l5, _⟩ := l5
            have l2 := needS_ok h2
            have l4 := needS_ok h4
            have len : ts.length = q5.length + 5 := by rw [l1, l2, l3, l4, l5]; simp
            split at h
            · rename_i v' hd
              cases h
              unfold dayQ at hd
              split at hd
              · cases hd
              · simp only [Option.some.injEq] at hd
                subst hd
                rename_i hn
                obtain ⟨a1, a2, a3, a4, a5, a6, a7⟩ := lenP_pos (y := y) (m := mo) (d := da) (by omega) (by rw [lenP_lenQ]; omega)
                have hi := IsDate.hi (day := bef y + mcum y (mo - 1).toNat + da - 1) (y := y) (m := mo) (d := da) ⟨a1, a2, a3, a4, a6, a7, rfl⟩
                have lo := IsDate.lo (day := bef y + mcum y (mo - 1).toNat + da - 1) (y := y) (m := mo) (d := da) ⟨a1, a2, a3, a4, a6, a7, rfl⟩
                exact ⟨by omega, by omega, len⟩
            · cases h
theorem At.date {v : Int} {r : List Tk} (hA : At L ts) (h : dateT ts = .ok v r) : At L r := by
  unfold dateT at h
  cases h1 : fixedT 4 9999 ts with
  | err m e => rw [h1] at h; cases h
  | ok y q1 =>
    rw [h1, bindP_ok] at h
    cases h2 : needS [45] q1 with
    | err m e => rw [h2] at h; cases h
    | ok u q2 =>
      rw [h2, bindP_ok] at h
      cases h3 : fixedT 2 99 q2 with
      | err m e => rw [h3] at h; cases h
      | ok mo q3 =>
        rw [h3, bindP_ok] at h
        cases h4 : needS [45] q3 with
        | err m e => rw [h4] at h; cases h
        | ok u q4 =>
          rw [h4, bindP_ok] at h
          cases h5 : fixedT 2 99 q4 with
          | err m e => rw [h5] at h; cases h
          | ok da q5 =>
            rw [h5, bindP_ok] at h
            have A := ((((hA.fixed h1).xS h2).fixed h3).xS h4).fixed h5
            split at h
            · cases h; exact A
            · cases h
theorem fixedT_lo {s : Nat} {m w : Int} {r : List Tk} (h : fixedT s m ts = .ok w r) : 0 ≤ w ∧ w ≤ m := by
  obtain ⟨v, e, h1, _, h2⟩ := fixedT_ok h
  omega

theorem r_tariff (hA : At L ts) : acall mach0 n_parser_reader_tariff [.ptr 3 0] (hr x0 x1 x2 n L ts.length) = some (rdRt x0 x1 x2 n L tariffV (tariffT ts)) := by
  refine acall_fn rfl (af := a_parser_reader_tariff) rfl rfl ?_
  unfold tariffT
  have e1 := r_needWord (x0 := x0) (x1 := x1) (x2 := x2) (n := n) kTariff hA
  cases h1 : needW kTariff ts with
  | err m e =>
    simp only [h1, rdRt, errH, pfail] at e1
    simp only [kTariff] at e1
    simp [List.replicate, go_sem, e1, rdRt, errH, pfail]
  | ok u q1 =>
    have A1 := hA.xW h1
    simp only [h1, rdRt, noneV] at e1
    simp only [kTariff] at e1
    simp only [bindP_ok]
    have e2 := r_name (x0 := x0) (x1 := x1) (x2 := x2) (n := n) A1
    cases h2 : nameT q1 with
    | err m e =>
      simp only [h2, rdRt, errH, pfail] at e2
      simp [List.replicate, go_sem, e1, e2, rdRt, errH, pfail]
    | ok name q2 =>
      have A2 := A1.name h2
      simp only [h2, rdRt] at e2
      simp only [bindP_ok]
      have e3 := r_needWord (x0 := x0) (x1 := x1) (x2 := x2) (n := n) kFrom A2
      cases h3 : needW kFrom q2 with
      | err m e =>
        simp only [h3, rdRt, errH, pfail] at e3
        simp only [kFrom] at e3
        simp [List.replicate, go_sem, e1, e2, e3, rdRt, errH, pfail]
      | ok u q3 =>
        have A3 := A2.xW h3
        simp only [h3, rdRt, noneV] at e3
        simp only [kFrom] at e3
        simp only [bindP_ok]
        have e4 := r_date (x0 := x0) (x1 := x1) (x2 := x2) (n := n) A3
        cases h4 : dateT q3 with
        | err m e =>
          simp only [h4, rdRt, errH, pfail] at e4
          simp [List.replicate, go_sem, e1, e2, e3, e4, rdRt, errH, pfail]
        | ok d q4 =>
          have A4 := A3.date h4
          have bd := dateT_ok h4
          simp only [h4, rdRt] at e4
          simp only [bindP_ok]
          unfold clockT clockN
          obtain ⟨tt, tr, htt, ep⟩ := r_peek (x0 := x0) (x1 := x1) (x2 := x2) (n := n) A4
          simp only [tokV] at ep
          by_cases hn : isNum q4 = true
          · have hkk : ((tt.kind : Int) == 2) = true := by
              rw [htt] at hn
              cases tt <;> simp [isNum, Tk.kind] at hn ⊢
            rw [if_pos hn]
            have e5 := r_fixed (x0 := x0) (x1 := x1) (x2 := x2) (n := n) 2 23 A4
            cases h5 : fixedT 2 23 q4 with
            | err m e =>
              simp only [h5, rdRt, errH, pfail] at e5
              simp at e5
              simp [List.replicate, go_sem, e1, e2, e3, e4, ep, hkk, e5, rdRt, errH, pfail]
            | ok ch q5 =>
              have A5 := A4.fixed h5
              simp only [h5, rdRt] at e5
              simp at e5
              simp only [bindP_ok]
              have e6 := r_needSymbol (x0 := x0) (x1 := x1) (x2 := x2) (n := n) [58] A5
              cases h6 : needS [58] q5 with
              | err m e =>
                simp only [h6, rdRt, errH, pfail] at e6
                simp [List.replicate, go_sem, e1, e2, e3, e4, ep, hkk, e5, e6, rdRt, errH, pfail]
              | ok u q6 =>
                have A6 := A5.xS h6
                simp only [h6, rdRt, noneV] at e6
                simp only [bindP_ok]
                have e7 := r_fixed (x0 := x0) (x1 := x1) (x2 := x2) (n := n) 2 59 A6
                cases h7 : fixedT 2 59 q6 with
                | err m e =>
                  simp only [h7, rdRt, errH, pfail] at e7
                  simp at e7
                  simp [List.replicate, go_sem, e1, e2, e3, e4, ep, hkk, e5, e6, e7, rdRt, errH, pfail]
                | ok cm q7 =>
                  have A7 := A6.fixed h7
                  simp only [h7, rdRt] at e7
                  simp at e7
                  simp only [bindP_ok]
                  have e8 := r_needSymbol (x0 := x0) (x1 := x1) (x2 := x2) (n := n) [58] A7
                  cases h8 : needS [58] q7 with
                  | err m e =>
                    simp only [h8, rdRt, errH, pfail] at e8
                    simp [List.replicate, go_sem, e1, e2, e3, e4, ep, hkk, e5, e6, e7, e8, rdRt, errH, pfail]
                  | ok u q8 =>
                    have A8 := A7.xS h8
                    simp only [h8, rdRt, noneV] at e8
                    simp only [bindP_ok]
                    have e9 := r_fixed (x0 := x0) (x1 := x1) (x2 := x2) (n := n) 2 59 A8
                    cases h9 : fixedT 2 59 q8 with
                    | err m e =>
                      simp only [h9, rdRt, errH, pfail] at e9
                      simp at e9
                      simp [List.replicate, go_sem, e1, e2, e3, e4, ep, hkk, e5, e6, e7, e8, e9, rdRt, errH, pfail]
                    | ok cs q9 =>
                      have A9 := A8.fixed h9
                      simp only [h9, rdRt] at e9
                      simp at e9
                      simp only [bindP_ok]
                      have b1 := fixedT_lo h5
                      have b2 := fixedT_lo h7
                      have b3 := fixedT_lo h9
                      have w1 : IntKind.wrap .i64 (3600 * ch) = 3600 * ch := wrap_i64 (by omega)
                      have w2 : IntKind.wrap .i64 (60 * cm) = 60 * cm := wrap_i64 (by omega)
                      have w3 : IntKind.wrap .i64 (3600 * ch + 60 * cm) = 3600 * ch + 60 * cm := wrap_i64 (by omega)
                      have w4 : IntKind.wrap .i64 (3600 * ch + 60 * cm + cs) = 3600 * ch + 60 * cm + cs := wrap_i64 (by omega)
                      have w5 : IntKind.wrap .i64 (d + (3600 * ch + 60 * cm + cs)) = d + (3600 * ch + 60 * cm + cs) := wrap_i64 (by omega)
                      have e10 := r_takeWord (x0 := x0) (x1 := x1) (x2 := x2) (n := n) kSplit A9
                      unfold splitT
                      by_cases hs : isWord kSplit q9 = true
                      · have A10 := A9.word hs
                        rw [if_pos hs]
                        rw [if_pos hs, hs] at e10
                        simp only [kSplit] at e10
                        generalize q9.tail = q10 at *
                        simp only [bindP_ok]
                        have e11 := r_needSymbol (x0 := x0) (x1 := x1) (x2 := x2) (n := n) [59] A10
                        cases h11 : needS [59] q10 with
                        | err m e =>
                          simp only [h11, rdRt, errH, pfail] at e11
                          simp [List.replicate, go_sem, e1, e2, e3, e4, ep, hkk, e5, e6, e7, e8, e9, w1, w2, w3, w4, w5, e10, e11, rdRt, errH, pfail]
                        | ok u q11 =>
                          have A11 := A10.xS h11
                          simp only [h11, rdRt, noneV] at e11
                          simp only [bindP_ok]
                          have nx := tz_l (x0 := x0) (x1 := x1) (x2 := x2) (n := n) name (d + (3600 * ch + 60 * cm + cs)) true q11.length [] q11 (Nat.le_refl _) (by have := A11.len; have := A11.2.2; simp only [List.length_nil]; omega) A11
                          simp only [List.map_nil] at nx
                          simp [List.replicate, go_sem, e1, e2, e3, e4, ep, hkk, e5, e6, e7, e8, e9, w1, w2, w3, w4, w5, e10, e11]
                          exact nx
                      · rw [if_neg hs]
                        have hs : isWord kSplit q9 = false := by simpa using hs
                        simp only [hs] at e10
                        simp [kSplit] at e10
                        simp only [bindP_ok]
                        have e11 := r_needSymbol (x0 := x0) (x1 := x1) (x2 := x2) (n := n) [59] A9
                        cases h11 : needS [59] q9 with
                        | err m e =>
                          simp only [h11, rdRt, errH, pfail] at e11
                          simp [List.replicate, go_sem, e1, e2, e3, e4, ep, hkk, e5, e6, e7, e8, e9, w1, w2, w3, w4, w5, e10, e11, rdRt, errH, pfail]
                        | ok u q11 =>
                          have A11 := A9.xS h11
                          simp only [h11, rdRt, noneV] at e11
                          simp only [bindP_ok]
                          have nx := tz_l (x0 := x0) (x1 := x1) (x2 := x2) (n := n) name (d + (3600 * ch + 60 * cm + cs)) false q11.length [] q11 (Nat.le_refl _) (by have := A11.len; have := A11.2.2; simp only [List.length_nil]; omega) A11
                          simp only [List.map_nil] at nx
                          simp [List.replicate, go_sem, e1, e2, e3, e4, ep, hkk, e5, e6, e7, e8, e9, w1, w2, w3, w4, w5, e10, e11]
                          exact nx
          · have hkk : ((tt.kind : Int) == 2) = false := by
              rw [htt] at hn
              cases tt <;> simp [isNum, Tk.kind] at hn ⊢
            rw [if_neg hn]
            simp only [bindP_ok]
            have e5 := r_takeWord (x0 := x0) (x1 := x1) (x2 := x2) (n := n) kSplit A4
            unfold splitT
            by_cases hs : isWord kSplit q4 = true
            · have A5 := A4.word hs
              rw [if_pos hs]
              rw [if_pos hs, hs] at e5
              simp only [kSplit] at e5
              generalize q4.tail = q5 at *
              simp only [bindP_ok]
              have e6 := r_needSymbol (x0 := x0) (x1 := x1) (x2 := x2) (n := n) [59] A5
              cases h6 : needS [59] q5 with
              | err m e =>
                simp only [h6, rdRt, errH, pfail] at e6
                simp [List.replicate, go_sem, e1, e2, e3, e4, ep, hkk, e5, e6, rdRt, errH, pfail]
              | ok u q6 =>
                have A6 := A5.xS h6
                simp only [h6, rdRt, noneV] at e6
                simp only [bindP_ok]
                have nx := tz_l (x0 := x0) (x1 := x1) (x2 := x2) (n := n) name (d) true q6.length [] q6 (Nat.le_refl _) (by have := A6.len; have := A6.2.2; simp only [List.length_nil]; omega) A6
                simp only [List.map_nil] at nx
                simp [List.replicate, go_sem, e1, e2, e3, e4, ep, hkk, e5, e6]
                exact nx
            · rw [if_neg hs]
              have hs : isWord kSplit q4 = false := by simpa using hs
              simp only [hs] at e5
              simp [kSplit] at e5
              simp only [bindP_ok]
              have e6 := r_needSymbol (x0 := x0) (x1 := x1) (x2 := x2) (n := n) [59] A4
              cases h6 : needS [59] q4 with
              | err m e =>
                simp only [h6, rdRt, errH, pfail] at e6
                simp [List.replicate, go_sem, e1, e2, e3, e4, ep, hkk, e5, e6, rdRt, errH, pfail]
              | ok u q6 =>
                have A6 := A4.xS h6
                simp only [h6, rdRt, noneV] at e6
                simp only [bindP_ok]
                have nx := tz_l (x0 := x0) (x1 := x1) (x2 := x2) (n := n) name (d) false q6.length [] q6 (Nat.le_refl _) (by have := A6.len; have := A6.2.2; simp only [List.length_nil]; omega) A6
                simp only [List.map_nil] at nx
                simp [List.replicate, go_sem, e1, e2, e3, e4, ep, hkk, e5, e6]
                exact nx
theorem dateT_le {v : Int} {r : List Tk} (h : dateT ts = .ok v r) : r.length ≤ ts.length := by
  have := dateT_ok h
  omega
theorem At.splitR {v : Bool} {r : List Tk} (hA : At L ts) (h : splitT ts = .ok v r) : At L r ∧ r.length ≤ ts.length := by
  unfold splitT at h
  split at h
  · rename_i hw
    have A1 := hA.word hw
    obtain ⟨ts, rfl⟩ := word_shape hw
    cases h
    exact ⟨A1, by simp⟩
  · cases h; exact ⟨hA, Nat.le_refl _⟩
theorem At.clock1 {a : Int} {r : List Tk} (hA : At L ts) (h : clockN ts = .ok a r) : At L r ∧ r.length ≤ ts.length := by
  unfold clockN at h
  cases h0 : fixedT 2 23 ts with
  | err m e => rw [h0] at h; cases h
  | ok v q0 =>
    rw [h0, bindP_ok] at h
    have A0 := hA.fixed h0
    have l0 := fixedT_le h0
    cases h1 : needS [58] q0 with
    | err m e => rw [h1] at h; cases h
    | ok u q1 =>
      rw [h1, bindP_ok] at h
      have A1 := A0.xS h1
      have l1 := needS_le h1
      cases h2 : fixedT 2 59 q1 with
      | err m e => rw [h2] at h; cases h
      | ok v q2 =>
        rw [h2, bindP_ok] at h
        have A2 := A1.fixed h2
        have l2 := fixedT_le h2
        cases h3 : needS [58] q2 with
        | err m e => rw [h3] at h; cases h
        | ok u q3 =>
          rw [h3, bindP_ok] at h
          have A3 := A2.xS h3
          have l3 := needS_le h3
          cases h4 : fixedT 2 59 q3 with
          | err m e => rw [h4] at h; cases h
          | ok v q4 =>
            rw [h4, bindP_ok] at h
            have A4 := A3.fixed h4
            have l4 := fixedT_le h4
            cases h; exact ⟨A4, by omega⟩
theorem At.clockR {v : Int} {r : List Tk} (hA : At L ts) (h : clockT ts = .ok v r) : At L r ∧ r.length ≤ ts.length := by
  unfold clockT at h
  split at h
  · exact hA.clock1 h
  · cases h; exact ⟨hA, Nat.le_refl _⟩
theorem At.tariffR {a : TariffP} {r : List Tk} (hA : At L ts) (h : tariffT ts = .ok a r) : At L r ∧ r.length ≤ ts.length := by
  unfold tariffT at h
  cases h0 : needW kTariff ts with
  | err m e => rw [h0] at h; cases h
  | ok u q0 =>
    rw [h0, bindP_ok] at h
    have A0 := hA.xW h0
    have l0 := needW_le h0
    cases h1 : nameT q0 with
    | err m e => rw [h1] at h; cases h
    | ok v q1 =>
      rw [h1, bindP_ok] at h
      have A1 := A0.name h1
      have l1 := nameT_le h1
      cases h2 : needW kFrom q1 with
      | err m e => rw [h2] at h; cases h
      | ok u q2 =>
        rw [h2, bindP_ok] at h
        have A2 := A1.xW h2
        have l2 := needW_le h2
        cases h3 : dateT q2 with
        | err m e => rw [h3] at h; cases h
        | ok v q3 =>
          rw [h3, bindP_ok] at h
          have A3 := A2.date h3
          have l3 := dateT_le h3
          cases h4 : clockT q3 with
          | err m e => rw [h4] at h; cases h
          | ok v q4 =>
            rw [h4, bindP_ok] at h
            have A4 := A3.clockR h4
            have l4 := A4.2
            replace A4 := A4.1
            cases h5 : splitT q4 with
            | err m e => rw [h5] at h; cases h
            | ok v q5 =>
              rw [h5, bindP_ok] at h
              have A5 := A4.splitR h5
              have l5 := A5.2
              replace A5 := A5.1
              cases h6 : needS [59] q5 with
              | err m e => rw [h6] at h; cases h
              | ok u q6 =>
                rw [h6, bindP_ok] at h
                have A6 := A5.xS h6
                have l6 := needS_le h6
                cases h7 : manyT (isWord kZone) zoneT q6.length [] q6 with
                | err m e => rw [h7] at h; cases h
                | ok v q7 =>
                  rw [h7, bindP_ok] at h
                  have A7 := At.many (fun ts hA hw => hA.word hw) (fun hA h => hA.zoneR h) _ A6 h7
                  have l7 := A7.2
                  replace A7 := A7.1
                  cases h8 : manyT (isWord kBand) bandT q7.length [] q7 with
                  | err m e => rw [h8] at h; cases h
                  | ok v q8 =>
                    rw [h8, bindP_ok] at h
                    have A8 := At.many (fun ts hA hw => hA.word hw) (fun hA h => hA.bandR h) _ A7 h8
                    have l8 := A8.2
                    replace A8 := A8.1
                    cases h9 : manyT (isWord kRate) rateT q8.length [] q8 with
                    | err m e => rw [h9] at h; cases h
                    | ok v q9 =>
                      rw [h9, bindP_ok] at h
                      have A9 := At.many (fun ts hA hw => hA.word hw) (fun hA h => hA.rateR h) _ A8 h9
                      have l9 := A9.2
                      replace A9 := A9.1
                      cases h10 : manyT (isWord kDisc) discT q9.length [] q9 with
                      | err m e => rw [h10] at h; cases h
                      | ok v q10 =>
                        rw [h10, bindP_ok] at h
                        have A10 := At.many (fun ts hA hw => hA.word hw) (fun hA h => hA.discR h) _ A9 h10
                        have l10 := A10.2
                        replace A10 := A10.1
                        cases h; exact ⟨A10, by omega⟩
end
end Go.Am
