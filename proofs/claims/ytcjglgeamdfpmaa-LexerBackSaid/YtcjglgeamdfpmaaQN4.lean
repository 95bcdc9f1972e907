/- The law of the lexer LexerBack. -/
import Derived.Test.YtcjglgeamdfpmaaQN3
set_option linter.unusedSimpArgs false
set_option linter.unnecessarySimpa false
set_option linter.unusedVariables false
set_option maxRecDepth 10000
namespace Go.Am
open Go Go.Pu Go.RowKit

def srcs : List Tk → List UInt8
  | [] => []
  | x :: xs => x.src ++ 32 :: srcs xs
def toksOf : List Tk → List (Tk × Nat)
  | [] => [(.fin, 0)]
  | x :: xs => (x, (srcs (x :: xs)).length) :: toksOf xs
def wantL : Nat → List Tk → List V
  | _, [] => []
  | n, x :: xs => tokV x.kind x.val n x.str :: wantL (n + (x.src.length + 1)) xs

theorem fol_space {x : Tk} {r : List UInt8} : x.fol (32 :: r) = true := by
  cases x with
  | sym s =>
    match s with
    | [] => rfl
    | [c] => simp only [Tk.fol, headIs]; split <;> (try split) <;> rfl
    | _ :: _ :: _ => rfl
  | _ => rfl
theorem scan_srcs : ∀ {xs : List Tk}, (∀ x ∈ xs, x.ok = true) → scan (srcs xs) = .ok (toksOf xs)
  | [], _ => rfl
  | x :: xs, h => by
    have h1 := scan_src (r := 32 :: srcs xs) (h x (by simp)) fol_space
    rw [scan_blank (by rfl), scan_srcs (xs := xs) (fun y hy => h y (by simp [hy]))] at h1
    simp only [srcs]
    rw [h1]
    simp [toksOf, SR.cons, srcs]
theorem srcs_snoc (x : Tk) : ∀ xs : List Tk, srcs (xs ++ [x]) = srcs xs ++ (x.src ++ [32])
  | [] => rfl
  | y :: xs => by simp [srcs, srcs_snoc x xs]
theorem wantL_snoc (x : Tk) : ∀ (xs : List Tk) (n : Nat), wantL n (xs ++ [x]) = wantL n xs ++ [tokV x.kind x.val (n + (srcs xs).length : Nat) x.str]
  | [], n => by simp [wantL, srcs]
  | y :: xs, n => by
    simp only [List.cons_append, wantL, wantL_snoc x xs, srcs, List.length_append, List.length_cons]
    have : n + (y.src.length + 1) + (srcs xs).length = n + (y.src.length + ((srcs xs).length + 1)) := by omega
    rw [this]
theorem toksOf_want (N : Nat) : ∀ xs : List Tk, (srcs xs).length ≤ N → (toksOf xs).map (tkV N) = wantL (N - (srcs xs).length) xs ++ [tokV 0 0 N []]
  | [], h => by simp [toksOf, wantL, tkV, Tk.kind, Tk.val, Tk.str]
  | x :: xs, h => by
    have hl : (srcs (x :: xs)).length = x.src.length + ((srcs xs).length + 1) := by simp [srcs]
    have ih := toksOf_want N xs (by omega)
    simp only [toksOf, List.map_cons, ih, wantL, tkV, List.cons_append]
    have : N - (srcs xs).length = N - (srcs (x :: xs)).length + (x.src.length + 1) := by omega
    rw [this]
theorem wantL_len : ∀ (xs : List Tk) (n : Nat), (wantL n xs).length = xs.length
  | [], n => rfl
  | x :: xs, n => by simp [wantL, wantL_len xs]
theorem wantL_tok : ∀ (xs : List Tk) (n : Nat), ∀ v ∈ wantL n xs, isTok v
  | [], n, v, h => by cases h
  | x :: xs, n, v, h => by
    simp only [wantL, List.mem_cons] at h
    rcases h with rfl | h
    · exact ⟨_, _, _, _, rfl⟩
    · exact wantL_tok xs _ v h

theorem src_len {t : Tk} (h : t.ok = true) : t.src.length ≤ 202 := by
  cases t with
  | fin => cases h
  | word s => simp [Tk.ok] at h; simp [Tk.src, Tk.str]; omega
  | num s => simp [Tk.ok] at h; simp [Tk.src, Tk.str]; omega
  | text s => simp [Tk.ok] at h; simp [Tk.src]; omega
  | sym s =>
    match s with
    | [] => simp [Tk.ok, isSym] at h
    | [_] => simp [Tk.src, Tk.str]
    | [_, _] => simp [Tk.src, Tk.str]
    | _ :: _ :: _ :: _ => simp [Tk.ok, isSym] at h
theorem srcs_len : ∀ {xs : List Tk}, (∀ x ∈ xs, x.ok = true) → (srcs xs).length ≤ xs.length * 203
  | [], _ => by simp [srcs]
  | x :: xs, h => by
    have h1 := src_len (h x (by simp))
    have h2 := srcs_len (xs := xs) (fun y hy => h y (by simp [hy]))
    simp [srcs]
    omega

theorem proper_tok {k : Int} {s : List UInt8} (h : properP k s = true) : ∃ t : Tk, t.ok = true ∧ ((t.kind : Nat) : Int) = k ∧ t.str = s := by
  unfold properP at h
  split at h
  · cases h
  · split at h
    · rename_i ts hs
      split at h
      · rename_i x y
        simp only [Bool.and_eq_true, beq_iff_eq] at h
        have ht := scan_toks _ _ _ (Nat.le_refl _) hs
        cases ht with
        | cons t k' _ hok _ => exact ⟨t, hok, h.1.2, h.2⟩
      · cases h
    · cases h

theorem fin_back (xs : List Tk) (hok : ∀ x ∈ xs, x.ok = true) (hl : xs.length ≤ 60) :
    Run mach (.c billinglaw23_LexerBack_k1b :: []) .norm ⟨(.undef :: .undef :: .undef :: .str (srcs xs) :: .sl true 4 (wantL 0 xs) :: .undef :: .undef :: .undef :: .undef :: .undef :: .undef :: .undef :: .undef :: .undef :: .undef :: .undef :: .undef :: .undef :: .undef :: .undef :: .undef :: .undef :: .undef :: .undef :: .undef :: .undef :: .undef :: .undef :: .undef :: .undef :: .undef :: .undef :: .undef :: .undef :: .undef :: .undef :: .undef :: .undef :: .undef :: .undef :: .undef :: .undef :: .undef :: .undef :: .undef :: .undef :: .undef :: .undef :: .undef :: .undef :: .undef :: .undef :: .undef :: .undef :: .undef :: .undef :: .undef :: .undef :: .undef :: .undef :: .undef :: .undef :: .undef :: .undef :: .undef :: .undef :: .undef :: .undef :: .undef :: .undef :: .undef :: .undef :: .undef :: .undef :: []), []⟩ (FinQ [.tmp 2] 0 (.ret (.bool true) [])) := by
  have e1 := e_Scan (srcs xs)
  have hlen := srcs_len hok
  have h6 : ¬ (srcs xs).length > 65536 := by omega
  unfold scanV at e1
  rw [if_neg h6, scan_srcs hok] at e1
  simp only at e1
  rw [toksOf_want _ xs (Nat.le_refl _), Nat.sub_self] at e1
  have q : (wantL 0 xs).length + 1 ≤ 1000 := by rw [wantL_len]; omega
  have q1 : ((wantL 0 xs).length + 1) * 40 ≤ 140737488355328 := by omega
  have e2 := m_Same (wantL 0 xs ++ [tokV 0 0 ((srcs xs).length : Nat) []]) (by
    intro v hv
    simp only [List.mem_append, List.mem_singleton] at hv
    rcases hv with hv | rfl
    · exact wantL_tok _ _ v hv
    · exact ⟨_, _, _, _, rfl⟩) (by simp; omega)
  simp only [tokV] at e1 e2
  unfold billinglaw23_LexerBack_k1b
  simp [go_sem, q1, e1, e2, e_awake23]

theorem Back_l (l : List V) (ht : ∀ v ∈ l, ∃ k n p s, v = tokV k n p s ∧ s.length ≤ 140737488355328) (hl : l.length ≤ 60) : ∀ (l2 l1 : List V) (xs : List Tk), l = l1 ++ l2 → xs.length = l1.length → (∀ x ∈ xs, x.ok = true) →
    Run mach (.c billinglaw23_LexerBack_l1b :: .lp billinglaw23_LexerBack_l1 :: .endB 0 :: .c billinglaw23_LexerBack_k1 :: []) .norm ⟨(.sl false 4 l :: .undef :: .undef :: .str (srcs xs) :: .sl true 4 (wantL 0 xs) :: .int .i64 l1.length :: .undef :: .undef :: .undef :: .undef :: .undef :: .undef :: .undef :: .undef :: .undef :: .undef :: .undef :: .undef :: .undef :: .undef :: .undef :: .undef :: .undef :: .undef :: .undef :: .undef :: .undef :: .undef :: .undef :: .undef :: .undef :: .undef :: .undef :: .undef :: .undef :: .undef :: .undef :: .undef :: .undef :: .undef :: .undef :: .undef :: .undef :: .undef :: .undef :: .undef :: .undef :: .undef :: .undef :: .undef :: .undef :: .undef :: .undef :: .undef :: .undef :: .undef :: .undef :: .undef :: .undef :: .undef :: .undef :: .undef :: .undef :: .undef :: .undef :: .undef :: .undef :: .undef :: .undef :: .undef :: .undef :: .undef :: .undef :: .undef :: []), []⟩ (FinQ [.tmp 2] 0 (.ret (.bool true) []))
  | [], l1, xs, h, hx, hok => by
    simp only [List.append_nil] at h
    subst h
    have q : ¬ ((l.length : Int) < l.length) := by omega
    have f := fin_back xs hok (by omega)
    unfold billinglaw23_LexerBack_l1b
    simp [go_sem, q, billinglaw23_LexerBack_k1]
    simpa using f
  | v :: l2, l1, xs, h, hx, hok => by
    obtain ⟨k, n, p, s, hv, hs⟩ := ht v (by rw [h]; simp)
    have hll : l.length = l1.length + (l2.length + 1) := by rw [h]; simp
    have hn : nth l l1.length = tokV k n p s := by rw [h, hv]; exact nth_mid
    have q : (l1.length : Int) < l.length := by omega
    have q' : l1.length < l.length := by omega
    have w1 : IntKind.wrap .i64 ((l1.length : Int) + 1) = l1.length + 1 := wrap_i64 (by omega)
    have hp := m_Proper k n p s (by omega)
    cases hpr : properP k s with
    | false =>
      rw [hpr] at hp
      simp only [tokV] at hn hp
      unfold billinglaw23_LexerBack_l1b
      simp [go_sem, q, q', hn, hp, e_awake23]
    | true =>
      rw [hpr] at hp
      obtain ⟨t, hto, hk, hts⟩ := proper_tok hpr
      have hlen := srcs_len hok
      have hsl := src_len hto
      have ih := Back_l l ht hl l2 (l1 ++ [v]) (xs ++ [t]) (by rw [h]; simp) (by simp [hx]) (by
        intro x hx
        simp only [List.mem_append, List.mem_singleton] at hx
        rcases hx with hx | rfl
        · exact hok x hx
        · exact hto)
      have e1 := m_Source t.kind t.val (srcs xs).length t.str (by rw [hts]; omega)
      rw [src_srcP] at e1
      rw [srcs_snoc, wantL_snoc] at ih
      have c1 : (srcs xs).length + t.src.length ≤ 9223372036854775807 := by omega
      have c2 : (srcs xs).length + t.src.length + 1 ≤ 9223372036854775807 := by omega
      have qa : (wantL 0 xs).length + 1 ≤ 1000 := by rw [wantL_len]; omega
      have q1 : ((wantL 0 xs).length + 1) * 40 ≤ 140737488355328 := by omega
      simp only [List.length_append, List.length_cons, List.length_nil, Nat.zero_add] at ih
      subst hts
      by_cases h2 : k = 2
      · subst h2
        obtain ⟨s', rfl⟩ : ∃ s', t = .num s' := by
          cases t with
          | num s' => exact ⟨s', rfl⟩
          | _ => simp [Tk.kind] at hk
        have hdig : s'.all digitB = true := by simp only [Tk.ok, Bool.and_eq_true] at hto; exact hto.1.2
        have e2 := m_Value s' (by simp [Tk.src, Tk.str] at hsl; omega) hdig
        simp only [tokV, Tk.kind, Tk.val, Tk.str, Tk.src] at hn hp e1 ih c1 c2
        unfold billinglaw23_LexerBack_l1b
        simp [go_sem, q, q', hn, hp, w1, e2, q1]
        simp at e1 ih
        simp [go_sem, e1, c1, c2, w1]
        simpa using ih
      · have hv0 : t.val = 0 := by
          cases t with
          | num s' => simp [Tk.kind] at hk; exact (h2 hk.symm).elim
          | _ => rfl
        rw [hv0] at e1 ih
        simp only [tokV, hk] at hn hp e1 ih
        unfold billinglaw23_LexerBack_l1b
        simp [go_sem, q, q', hn, hp, w1, bf' h2, q1]
        simp at e1 ih
        simp [go_sem, e1, c1, c2, w1]
        simpa using ih

theorem law_back (l : List V) (ht : ∀ v ∈ l, ∃ k n p s, v = tokV k n p s ∧ s.length ≤ 140737488355328) : acall mach n_billinglaw23_LexerBack [.sl false 4 l] [] = some (.ret (.bool true) []) := by
  refine acall_fn rfl (af := a_billinglaw23_LexerBack) rfl rfl ?_
  by_cases h : l.length > 60
  · have h' : (60 : Int) < l.length := by omega
    simp [List.replicate, go_sem, h', e_awake23]
  · have h' : ¬ (60 : Int) < l.length := by omega
    have := Back_l l ht (by omega) l [] [] rfl rfl (by simp)
    simp [List.replicate, go_sem, h']
    simpa [srcs, wantL] using this

theorem u43 : Go.Proofs.Try.prog.underlying 43 = some (.slice 48) := by kernel_rfl
theorem u3 : Go.Proofs.Try.prog.underlying 3 = some (.int .i64) := by kernel_rfl
theorem f48 : fTypes Go.Proofs.Try.prog 48 = some [3, 3, 3, 9] := by kernel_rfl
theorem a48 : aggT Go.Proofs.Try.prog 48 = true := by kernel_rfl
theorem c48 : Go.Proofs.Try.prog.cellsOf 48 = 4 := by kernel_rfl
theorem arg_toks {u : V} (h : u = mkEl Go.Proofs.Try.prog 43 u.cells ∧ ∃ f, TyC Go.Proofs.Try.prog f 43 u.cells) : ∃ l : List V, u = .sl false 4 l ∧ ∀ v ∈ l, ∃ k n p s, v = tokV k n p s ∧ s.length ≤ 140737488355328 := by
  obtain ⟨h1, f, h2⟩ := h
  obtain ⟨g, xs, hx, _, _, hel⟩ := tyc_slice u43 h2
  rw [hx, mkEl_one (by simp [aggT, u43]), c48] at h1
  refine ⟨xs, h1, fun v hv => ?_⟩
  obtain ⟨h3, h4⟩ := hel v hv
  obtain ⟨g', _, h5⟩ := tyc_fields f48 h4
  obtain ⟨x1, y1, e1, t1, h5⟩ := h5.cons
  obtain ⟨x2, y2, e2, t2, h5⟩ := h5.cons
  obtain ⟨x3, y3, e3, t3, h5⟩ := h5.cons
  obtain ⟨x4, y4, e4, t4, h5⟩ := h5.cons
  have e5 := h5.nil
  obtain ⟨n1, r1, _⟩ := tyc_int u3 t1
  obtain ⟨n2, r2, _⟩ := tyc_int u3 t2
  obtain ⟨n3, r3, _⟩ := tyc_int u3 t3
  obtain ⟨s, r4, hs⟩ := tyc_string u9 t4
  rw [h3, mkEl_agg a48, e1, e2, e3, e4, e5, r1, r2, r3, r4]
  exact ⟨n1, n2, n3, s, rfl, by unfold reachBytes at hs; omega⟩
theorem all_lexerBack (us : List V) (h : TyArgs Go.Proofs.Try.prog Go.Proofs.Try.f6.params.toList us) : acall mach 6 us [] = some (.ret (.bool true) []) := by
  obtain ⟨u, rfl, h1⟩ := TyArgs.one h
  obtain ⟨l, rfl, hl⟩ := arg_toks h1
  exact law_back l hl
end Go.Am
