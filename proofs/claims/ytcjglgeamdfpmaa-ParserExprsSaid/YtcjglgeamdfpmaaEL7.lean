/- The lexer's Scan. -/
import Derived.Test.YtcjglgeamdfpmaaEL6
import Derived.Test.YtcjglgeamdfpmaaEAmD
set_option linter.unusedSimpArgs false
set_option linter.unnecessarySimpa false
set_option linter.unusedVariables false
set_option maxRecDepth 10000
namespace Go.Am
open Go Go.Pu

def tkV (n : Nat) (x : Tk × Nat) : V := tokV x.1.kind x.1.val (n - x.2 : Nat) x.1.str
def scanRt (n : Nat) (acc : List V) : SR → Rt
  | .ok ts => .ret (.tup [.sl false 4 (acc ++ ts.map (tkV n)), .int .i64 0, .int .i64 0]) []
  | .err rem e => .ret (.tup [.sl false 4 [], .int .i64 (n - rem : Nat), .int .i64 e]) []
theorem scanRt_cons (n : Nat) (acc : List V) (t : Tk × Nat) (o : SR) : scanRt n acc (SR.cons t o) = scanRt n (acc ++ [tkV n t]) o := by
  cases o <;> simp [scanRt, SR.cons]

theorem kind_ne {t : Tk} (h : t.ok = true) : ¬ ((t.kind : Nat) : Int) = 0 := by
  cases t <;> simp [Tk.kind, Tk.ok] at h ⊢

theorem Scan_l : ∀ (n : Nat) (p r : List UInt8) (acc : List V), r.length < n → p.length + r.length ≤ 65536 → acc.length ≤ p.length →
    Run mach0 (.c lexer_Scan_l1b :: .lp lexer_Scan_l1 :: .endB 0 :: []) .norm ⟨(.undef :: .undef :: .ptr 0 0 :: .ptr 1 0 :: .ptr 2 0 :: .ptr 3 0 :: .undef :: .undef :: .undef :: .undef :: .undef :: .undef :: .undef :: .undef :: .undef :: .undef :: .undef :: .undef :: .undef :: .undef :: .undef :: .undef :: .undef :: .undef :: []), [[.sl true 4 acc], [.int .i64 0], [.int .i64 0], [.str (p ++ r), .int .i64 p.length]]⟩
      (PostD mach0 d_lexer_Scan 0 [.ptr 0 0, .ptr 1 0, .ptr 2 0] (scanRt (p ++ r).length acc (scan r))) := by
  intro n
  induction n with
  | zero => intro p r acc hn; omega
  | succ n ih =>
    intro p r acc hn hl ha
    obtain ⟨rt, e, hrt⟩ := e_next [.sl true 4 acc] [.int .i64 0] [.int .i64 0] p r hl
    simp only [hq] at e
    have q : (acc.length + 1) * 40 ≤ 140737488355328 := by omega
    cases hk : skipB false r with
    | nil =>
      rw [hk] at hrt
      simp only [hq, tokV] at hrt
      subst hrt
      rw [scan_nil hk]
      unfold lexer_Scan_l1b
      simp [go_sem, e, q]
      simp [d_lexer_Scan, gframe, g_lexer_Scan_1, List.replicate, go_sem]
      simp [scanRt, tkV, tokV, Tk.kind, Tk.val, Tk.str, go_sem]
    | cons b l =>
      have hsk := skipB_le false r
      rw [hk] at hrt hsk
      simp only [List.length_cons] at hsk
      cases ho : lexOne b l with
      | err er =>
        simp only [ho] at hrt
        obtain ⟨j, hrt⟩ := hrt
        simp only [hq, failV] at hrt
        subst hrt
        rw [scan_err hk ho]
        unfold lexer_Scan_l1b
        simp [go_sem, e]
        simp [d_lexer_Scan, gframe, g_lexer_Scan_1, List.replicate, go_sem]
        simp [scanRt, go_sem]
      | ok t r' =>
        simp only [ho] at hrt
        have hle := lexOne_le ho
        have htk := kind_ne (lexOne_ok ho).1
        rw [scan_ok hk ho, scanRt_cons]
        obtain ⟨d, hd⟩ : ∃ d, r = d ++ r' := by
          obtain ⟨q1, h1⟩ := skip_suf false r
          rw [hk, (lexOne_ok ho).2.2] at h1
          exact ⟨q1 ++ t.src, by rw [List.append_assoc]; exact h1⟩
        have hdl : r.length = d.length + r'.length := by rw [hd]; simp
        have ih := ih (p ++ d) r' (acc ++ [tkV (p ++ r).length (t, l.length + 1)]) (by omega) (by simp; omega) (by simp; omega)
        have e2 : (p ++ r).length - r'.length = p.length + d.length := by simp; omega
        simp only [nextRt, hq, tokV, e2] at hrt
        subst hrt
        rw [List.append_assoc, ← hd] at ih
        unfold lexer_Scan_l1b
        simp [go_sem, e, q, bf' htk]
        simpa [tkV, tokV] using ih

theorem ds_pres : d_lexer_Scan.pres = [p1_lexer_Scan, p2_lexer_Scan] := rfl
theorem ds_nt : d_lexer_Scan.ntmps = 24 := rfl
theorem ds_d : d_lexer_Scan.d = 10 := rfl
theorem ds_g : d_lexer_Scan.g = n_lexer_Scan_1 := rfl
theorem ds_caps : d_lexer_Scan.caps = [.t 2, .t 3, .t 4] := rfl
theorem ds_post : d_lexer_Scan.post = b_lexer_Scan := rfl
theorem ds_res : d_lexer_Scan.res = [.cell 2 none, .cell 3 none, .cell 4 none] := rfl

theorem runs_Scan (s : List UInt8) : RunsD mach0 d_lexer_Scan [.str s] [] (if s.length > 65536 then .ret (.tup [.sl false 4 [], .int .i64 0, .int .i64 5]) [] else scanRt s.length [] (scan s)) := by
  unfold RunsD
  by_cases h : s.length > 65536
  · have h' : (65536 : Int) < s.length := by omega
    rw [if_pos h]
    simp [ds_pres, ds_nt, ds_res, p1_lexer_Scan, p2_lexer_Scan, List.replicate, go_sem, h']
  · have h' : ¬ (65536 : Int) < s.length := by omega
    rw [if_neg h]
    have := Scan_l (s.length + 1) [] s [] (by omega) (by simp; omega) (by simp)
    simp [ds_pres, ds_nt, ds_d, ds_g, ds_caps, ds_post, p1_lexer_Scan, p2_lexer_Scan, List.replicate, go_sem, h', b_lexer_Scan]
    simpa using this

/-- What Scan comes to. -/
def scanV (s : List UInt8) : V := if s.length > 65536 then .tup [.sl false 4 [], .int .i64 0, .int .i64 5] else match scan s with
  | .ok ts => .tup [.sl false 4 (ts.map (tkV s.length)), .int .i64 0, .int .i64 0]
  | .err rem e => .tup [.sl false 4 [], .int .i64 (s.length - rem : Nat), .int .i64 e]

theorem scanV_eq (s : List UInt8) : (if s.length > 65536 then Rt.ret (.tup [.sl false 4 [], .int .i64 0, .int .i64 5]) [] else scanRt s.length [] (scan s)) = .ret (scanV s) [] := by
  unfold scanV scanRt
  split
  · rfl
  · cases scan s <;> simp

theorem T1_Scan : T1 n_lexer_Scan = some (d_lexer_Scan, mach0) := by unfold T1; rw [if_pos rfl]
theorem T2_Scan : T2 n_lexer_Scan = some (d_lexer_Scan, mach0) := by unfold T2; rw [if_pos rfl]
theorem e_Scan (s : List UInt8) : acall mach n_lexer_Scan [.str s] [] = some (.ret (scanV s) []) := by
  rw [← scanV_eq]
  exact acall_ext (M := mach) (dcall_eq T2_Scan (runs_Scan s))
theorem e_Scan1 (s : List UInt8) : acall mach1 n_lexer_Scan [.str s] [] = some (.ret (scanV s) []) := by
  rw [← scanV_eq]
  exact acall_ext (M := mach1) (dcall_eq T1_Scan (runs_Scan s))
end Go.Am
