/- The parser: Tariff and Expr. -/
import Derived.Test.YtcjglgeamdfpmaaEP10
import Derived.Test.YtcjglgeamdfpmaaEPv
import Derived.Test.YtcjglgeamdfpmaaEAmD
set_option linter.unusedSimpArgs false
set_option linter.unnecessarySimpa false
set_option linter.unusedVariables false
set_option maxRecDepth 10000
namespace Go.Am
open Go Go.Pu

theorem e_caught (p : Int) (e : Nat) : acall mach0 n_parser_caught [pfail p e] [] = some (.ret (.agg [.int .i64 p, .int .i64 e]) []) := by
  refine acall_fn rfl (af := a_parser_caught) rfl rfl ?_
  simp [List.replicate, go_sem, pfail]

/-- What Expr comes to. -/
def ExprV (s : List UInt8) : V := if s.length > 65536 then .tup [.agg [.int .i64 0, .int .i64 0, .str [], .sl false 4 []], .int .i64 0, .int .i64 5] else match scan s with
  | .err rem e => .tup [.agg [.int .i64 0, .int .i64 0, .str [], .sl false 4 []], .int .i64 (s.length - rem : Nat), .int .i64 e]
  | .ok L => match allT exprT (L.map (·.1)) with
    | .ok t _ => .tup [exprV t, .int .i64 0, .int .i64 0]
    | .err m e => .tup [.agg [.int .i64 0, .int .i64 0, .str [], .sl false 4 []], .int .i64 (posV s.length L m), .int .i64 e]

theorem dsx_pres : d_parser_Expr.pres = [p1_parser_Expr, p2_parser_Expr, p3_parser_Expr] := rfl
theorem dsx_nt : d_parser_Expr.ntmps = 29 := rfl
theorem dsx_d : d_parser_Expr.d = 20 := rfl
theorem dsx_g : d_parser_Expr.g = n_parser_Expr_1 := rfl
theorem dsx_caps : d_parser_Expr.caps = [.t 2, .t 3, .t 4] := rfl
theorem dsx_post : d_parser_Expr.post = b_parser_Expr := rfl
theorem dsx_res : d_parser_Expr.res = [.cell 2 (some 4), .cell 3 none, .cell 4 none] := rfl

theorem runs_Expr (s : List UInt8) : RunsD mach1 d_parser_Expr [.str s] [] (.ret (ExprV s) []) := by
  have es := e_Scan1 s
  unfold RunsD ExprV
  unfold scanV at es
  by_cases h : s.length > 65536
  · rw [if_pos h] at es ⊢
    simp [dsx_pres, dsx_nt, dsx_res, p1_parser_Expr, p2_parser_Expr, p3_parser_Expr, List.replicate, go_sem, es]
  · rw [if_neg h] at es ⊢
    cases hs : scan s with
    | err rem e =>
      simp only [hs] at es ⊢
      have he : ¬ (e : Int) = 0 := by have := scan_e hs; omega
      simp [dsx_pres, dsx_nt, dsx_res, p1_parser_Expr, p2_parser_Expr, p3_parser_Expr, List.replicate, go_sem, es, nt' he]
    | ok L =>
      simp only [hs] at es ⊢
      have hA : At L (L.map (·.1)) := ⟨⟨[], L, rfl, rfl⟩, scan_ends hs, by have := scan_len s.length s L (Nat.le_refl _) hs; omega⟩
      have e1 := up1 _ _ _ _ (e_either (x0 := [.int .i64 0, .int .i64 0, .str [], .sl false 4 []]) (x1 := [.int .i64 0]) (x2 := [.int .i64 0]) (n := s.length) hA)
      simp only [hr, List.length_map, Nat.sub_self] at e1
      unfold allT
      cases h1 : exprT (L.map (·.1)) with
      | err m e =>
        simp only [h1, rdRt, errH, pfail] at e1
        have ec := up1 _ _ _ _ (e_caught (posV s.length L m) e)
        simp only [pfail] at ec
        simp at e1 ec
        simp [dsx_pres, dsx_nt, dsx_res, dsx_d, dsx_g, dsx_caps, dsx_post, p1_parser_Expr, p2_parser_Expr, p3_parser_Expr, b_parser_Expr, List.replicate, go_sem, es, e1]
        simp [d_parser_Expr, gframe, g_parser_Expr_1, List.replicate, go_sem, ec]
      | ok t q =>
        obtain ⟨op, num, text, args⟩ := t
        have A1 := hA.expr h1
        simp only [h1, rdRt, exprV] at e1
        simp at e1
        have e2 := up1 _ _ _ _ (r_end (x0 := [.int .i64 op, .int .i64 num, .str text, .sl false 4 (exprVs args)]) (x1 := [.int .i64 0]) (x2 := [.int .i64 0]) (n := s.length) A1)
        simp only [bindP_ok]
        cases h2 : endT q with
        | err m e =>
          simp only [h2, rdRt, errH, pfail] at e2
          have ec := up1 _ _ _ _ (e_caught (posV s.length L m) e)
          simp only [pfail] at ec
          simp [dsx_pres, dsx_nt, dsx_res, dsx_d, dsx_g, dsx_caps, dsx_post, p1_parser_Expr, p2_parser_Expr, p3_parser_Expr, b_parser_Expr, List.replicate, go_sem, es, e1, e2]
          simp [d_parser_Expr, gframe, g_parser_Expr_1, List.replicate, go_sem, ec]
        | ok u q2 =>
          simp only [h2, rdRt, noneV] at e2
          simp [dsx_pres, dsx_nt, dsx_res, dsx_d, dsx_g, dsx_caps, dsx_post, p1_parser_Expr, p2_parser_Expr, p3_parser_Expr, b_parser_Expr, List.replicate, go_sem, es, e1, e2]
          simp [d_parser_Expr, gframe, g_parser_Expr_1, List.replicate, go_sem, exprV]

theorem T2_Expr : T2 n_parser_Expr = some (d_parser_Expr, mach1) := by unfold T2; rw [if_neg (by decide), if_neg (by decide), if_pos rfl]
theorem e_Expr (s : List UInt8) : acall mach n_parser_Expr [.str s] [] = some (.ret (ExprV s) []) := acall_ext (M := mach) (dcall_eq T2_Expr (runs_Expr s))

/-- What Tariff comes to. -/
def TariffV (s : List UInt8) : V := if s.length > 65536 then .tup [.agg [.str [], .int .i64 0, .bool false, .sl false 2 [], .sl false 2 [], .sl false 5 [], .sl false 6 []], .int .i64 0, .int .i64 5] else match scan s with
  | .err rem e => .tup [.agg [.str [], .int .i64 0, .bool false, .sl false 2 [], .sl false 2 [], .sl false 5 [], .sl false 6 []], .int .i64 (s.length - rem : Nat), .int .i64 e]
  | .ok L => match allT tariffT (L.map (·.1)) with
    | .ok t _ => .tup [tariffV t, .int .i64 0, .int .i64 0]
    | .err m e => .tup [.agg [.str [], .int .i64 0, .bool false, .sl false 2 [], .sl false 2 [], .sl false 5 [], .sl false 6 []], .int .i64 (posV s.length L m), .int .i64 e]

theorem dsy_pres : d_parser_Tariff.pres = [p1_parser_Tariff, p2_parser_Tariff, p3_parser_Tariff] := rfl
theorem dsy_nt : d_parser_Tariff.ntmps = 29 := rfl
theorem dsy_d : d_parser_Tariff.d = 20 := rfl
theorem dsy_g : d_parser_Tariff.g = n_parser_Tariff_1 := rfl
theorem dsy_caps : d_parser_Tariff.caps = [.t 2, .t 3, .t 4] := rfl
theorem dsy_post : d_parser_Tariff.post = b_parser_Tariff := rfl
theorem dsy_res : d_parser_Tariff.res = [.cell 2 (some 7), .cell 3 none, .cell 4 none] := rfl

theorem runs_Tariff (s : List UInt8) : RunsD mach1 d_parser_Tariff [.str s] [] (.ret (TariffV s) []) := by
  have es := e_Scan1 s
  unfold RunsD TariffV
  unfold scanV at es
  by_cases h : s.length > 65536
  · rw [if_pos h] at es ⊢
    simp [dsy_pres, dsy_nt, dsy_res, p1_parser_Tariff, p2_parser_Tariff, p3_parser_Tariff, List.replicate, go_sem, es]
  · rw [if_neg h] at es ⊢
    cases hs : scan s with
    | err rem e =>
      simp only [hs] at es ⊢
      have he : ¬ (e : Int) = 0 := by have := scan_e hs; omega
      simp [dsy_pres, dsy_nt, dsy_res, p1_parser_Tariff, p2_parser_Tariff, p3_parser_Tariff, List.replicate, go_sem, es, nt' he]
    | ok L =>
      simp only [hs] at es ⊢
      have hA : At L (L.map (·.1)) := ⟨⟨[], L, rfl, rfl⟩, scan_ends hs, by have := scan_len s.length s L (Nat.le_refl _) hs; omega⟩
      have e1 := up1 _ _ _ _ (r_tariff (x0 := [.str [], .int .i64 0, .bool false, .sl false 2 [], .sl false 2 [], .sl false 5 [], .sl false 6 []]) (x1 := [.int .i64 0]) (x2 := [.int .i64 0]) (n := s.length) hA)
      simp only [hr, List.length_map, Nat.sub_self] at e1
      unfold allT
      cases h1 : tariffT (L.map (·.1)) with
      | err m e =>
        simp only [h1, rdRt, errH, pfail] at e1
        have ec := up1 _ _ _ _ (e_caught (posV s.length L m) e)
        simp only [pfail] at ec
        simp at e1 ec
        simp [dsy_pres, dsy_nt, dsy_res, dsy_d, dsy_g, dsy_caps, dsy_post, p1_parser_Tariff, p2_parser_Tariff, p3_parser_Tariff, b_parser_Tariff, List.replicate, go_sem, es, e1]
        simp [d_parser_Tariff, gframe, g_parser_Tariff_1, List.replicate, go_sem, ec]
      | ok t q =>
        have A1 := (hA.tariffR h1).1
        simp only [h1, rdRt, tariffV] at e1
        simp at e1
        have e2 := up1 _ _ _ _ (r_end (x0 := [.str t.name, .int .i64 t.start, .bool t.split, .sl false 2 (t.zones.map zoneV), .sl false 2 (t.bands.map bandV), .sl false 5 (t.rates.map rateV), .sl false 6 (t.discs.map discV)]) (x1 := [.int .i64 0]) (x2 := [.int .i64 0]) (n := s.length) A1)
        simp only [bindP_ok]
        cases h2 : endT q with
        | err m e =>
          simp only [h2, rdRt, errH, pfail] at e2
          have ec := up1 _ _ _ _ (e_caught (posV s.length L m) e)
          simp only [pfail] at ec
          simp [dsy_pres, dsy_nt, dsy_res, dsy_d, dsy_g, dsy_caps, dsy_post, p1_parser_Tariff, p2_parser_Tariff, p3_parser_Tariff, b_parser_Tariff, List.replicate, go_sem, es, e1, e2]
          simp [d_parser_Tariff, gframe, g_parser_Tariff_1, List.replicate, go_sem, ec]
        | ok u q2 =>
          simp only [h2, rdRt, noneV] at e2
          simp [dsy_pres, dsy_nt, dsy_res, dsy_d, dsy_g, dsy_caps, dsy_post, p1_parser_Tariff, p2_parser_Tariff, p3_parser_Tariff, b_parser_Tariff, List.replicate, go_sem, es, e1, e2]
          simp [d_parser_Tariff, gframe, g_parser_Tariff_1, List.replicate, go_sem, tariffV]

theorem T2_Tariff : T2 n_parser_Tariff = some (d_parser_Tariff, mach1) := by unfold T2; rw [if_neg (by decide), if_pos rfl]
theorem e_Tariff (s : List UInt8) : acall mach n_parser_Tariff [.str s] [] = some (.ret (TariffV s) []) := acall_ext (M := mach) (dcall_eq T2_Tariff (runs_Tariff s))
end Go.Am
