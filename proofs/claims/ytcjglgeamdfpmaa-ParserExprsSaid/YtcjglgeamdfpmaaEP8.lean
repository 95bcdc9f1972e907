/- The parser's slots. -/
import Derived.Test.YtcjglgeamdfpmaaEP7
set_option linter.unusedSimpArgs false
set_option linter.unnecessarySimpa false
set_option linter.unusedVariables false
set_option maxRecDepth 10000
namespace Go.Am
open Go Go.Pu

def slotV (s : SlotP) : V := .agg [.int .i64 s.days, .int .i64 s.lo, .int .i64 s.hi]

theorem day_hi (w : Bs) {k : Int} (h : k = wplace dayWs w) : k ≤ 7 := by
  have := wplace_hi w dayWs
  have e8 : dayWs.length = 8 := rfl
  rw [e8] at this
  omega
theorem sym_shape {s : Bs} {ts : List Tk} (h : isSymT s ts = true) : ∃ r, ts = .sym s :: r := ⟨_, isSymT_cons h⟩
theorem word_shape {s : Bs} {ts : List Tk} (h : isWord s ts = true) : ∃ r, ts = .word s :: r := ⟨_, isWord_cons h⟩

theorem shl_i64 {k : Int} (h0 : 0 ≤ k) (h7 : k ≤ 7) : IntKind.wrap .i64 (2 ^ min k.toNat 64) = 2 ^ k.toNat := by
  obtain ⟨j, rfl⟩ : ∃ j : Nat, k = j := ⟨k.toNat, by omega⟩
  have : j = 0 ∨ j = 1 ∨ j = 2 ∨ j = 3 ∨ j = 4 ∨ j = 5 ∨ j = 6 ∨ j = 7 := by omega
  rcases this with rfl | rfl | rfl | rfl | rfl | rfl | rfl | rfl <;> rfl
theorem or_all : ∀ (j : Fin 8) (d : Fin 128), d.val < 2 ^ j.val → bits .or .i64 ((d.val : Nat) : Int) (2 ^ j.val) = ((d.val : Nat) : Int) + 2 ^ j.val := by decide +kernel
theorem or_i64 {d k : Int} (h0 : 0 ≤ k) (h7 : k ≤ 7) (hd : 0 ≤ d) (hk : d < 2 ^ k.toNat) : bits .or .i64 d (2 ^ k.toNat) = d + 2 ^ k.toNat := by
  obtain ⟨j, rfl⟩ : ∃ j : Nat, k = j := ⟨k.toNat, by omega⟩
  obtain ⟨e, rfl⟩ : ∃ e : Nat, d = e := ⟨d.toNat, by omega⟩
  simp only [Int.toNat_natCast] at hk ⊢
  have hj : j < 8 := by omega
  have he : e < 2 ^ j := by
    have : ((e : Nat) : Int) < ((2 ^ j : Nat) : Int) := by rw [Int.natCast_pow]; exact hk
    omega
  have h128 : e < 128 := Nat.lt_of_lt_of_le he (by
    have := Nat.pow_le_pow_right (n := 2) (by omega) (show j ≤ 7 by omega)
    simpa using this)
  exact or_all ⟨j, hj⟩ ⟨e, h128⟩ he

theorem pow_step {last k : Int} (h : last + 1 ≤ k) (h0 : 0 ≤ last) {d : Int} (hd : d < 2 ^ (last + 1).toNat) : d < 2 ^ k.toNat ∧ d + 2 ^ k.toNat < 2 ^ (k + 1).toNat := by
  have e1 : (k + 1).toNat = k.toNat + 1 := by omega
  have m : (2 : Int) ^ (last + 1).toNat ≤ 2 ^ k.toNat := by
    have := Nat.pow_le_pow_right (n := 2) (by omega) (show (last + 1).toNat ≤ k.toNat by omega)
    exact_mod_cast this
  rw [e1, Int.pow_succ]
  omega

section
variable {x0 x1 x2 : List V} {n : Nat} {L : List (Tk × Nat)} {ts : List Tk}

theorem At.xDays : ∀ (m : Nat) {last days w : Int} {ts r : List Tk} (_ : At L ts) (_ : Go.Pu.daysT m last days ts = .ok w r), At L r
  | 0, _, _, _, _, _, hA, h => by simp only [Go.Pu.daysT] at h; cases h; exact hA
  | m + 1, last, days, w, ts, r, hA, h => by
    simp only [Go.Pu.daysT] at h
    split at h
    · rename_i hw
      cases h1 : Go.Pu.wordT dayWs (last + 1) ts.tail with
      | err m e => rw [h1] at h; cases h
      | ok k q =>
        rw [h1, bindP_ok] at h
        exact At.xDays m ((hA.sym hw).xWord h1) h
    · cases h; exact hA

abbrev kS (x0 x1 x2 : List V) (n : Nat) (L : List (Tk × Nat)) (r : PR SlotP) : Ex → St → Prop := FinQ [.cell 2 (some 3)] 4 (rdRt x0 x1 x2 n L slotV r)

theorem slot_l : ∀ (m : Nat) (last days : Int) (ts : List Tk), ts.length ≤ m → 0 ≤ last → last ≤ 7 → 0 ≤ days → days < 2 ^ (last + 1).toNat → At L ts →
    Run mach0 (.c parser_reader_slot_l1b :: .lp parser_reader_slot_l1 :: .endB 0 :: .c parser_reader_slot_k1 :: []) .norm ⟨(.ptr 3 0 :: .undef :: .box [.int .i64 0, .int .i64 0, .int .i64 0] :: .int .i64 last :: .box [.int .i64 days, .int .i64 0, .int .i64 0] :: .undef :: .undef :: .undef :: .undef :: .undef :: .undef :: .undef :: .undef :: .undef :: .undef :: .undef :: .undef :: .undef :: .undef :: .undef :: .undef :: .undef :: .undef :: .undef :: .undef :: .undef :: .undef :: .undef :: .undef :: .undef :: []), hr x0 x1 x2 n L ts.length⟩
      (kS x0 x1 x2 n L (bindP (Go.Pu.daysT m last days ts) fun d r => bindP (timeT 23 r) fun a r => bindP (needS [45] r) fun _ r => bindP (timeT 24 r) fun b r => .ok ⟨d, a, b⟩ r)) := by
  intro m
  induction m with
  | zero =>
    intro last days ts hl _ _ _ _ hA
    obtain ⟨t, r, rfl⟩ := ends_ne hA.2.1
    simp at hl
  | succ m ih =>
    intro last days ts hl h0 h7 hd0 hd hA
    have et := r_takeSymbol (x0 := x0) (x1 := x1) (x2 := x2) (n := n) [43] hA
    unfold Go.Pu.daysT
    by_cases hw : isSymT [43] ts = true
    · have A1 := hA.sym hw
      obtain ⟨ts, rfl⟩ := sym_shape hw
      simp only [hw, if_true, List.tail_cons] at et A1 ⊢
      simp only [List.length_cons] at et hl ⊢
      have e1 := r_day (x0 := x0) (x1 := x1) (x2 := x2) (n := n) last (by omega) A1
      cases h1 : wordT dayWs (last + 1) ts with
      | err m e =>
        simp only [h1, rdRt, errH, pfail] at e1
        unfold parser_reader_slot_l1b
        simp [go_sem, et, e1, rdRt, errH, pfail, kS]
      | ok k q =>
        simp only [h1, rdRt] at e1
        obtain ⟨w, g1, g2, g3, g4⟩ := wordT_ok h1
        have hk7 : k ≤ 7 := day_hi w g2
        obtain ⟨p1, p2⟩ := pow_step g3 h0 hd
        have hq : q.length ≤ m := by rw [g1] at hl; simp at hl; omega
        have hp0 : (0 : Int) ≤ 2 ^ k.toNat := Int.le_of_lt (Int.pow_pos (by decide))
        have ih := ih k (days + 2 ^ k.toNat) q hq g4 hk7 (by omega) p2 (A1.xWord h1)
        have sh := shl_i64 g4 hk7
        have oo := or_i64 g4 hk7 hd0 p1
        simp only [bindP_ok]
        unfold parser_reader_slot_l1b
        simp [go_sem, et, e1, g4, sh, oo]
        exact ih
    · have hw : isSymT [43] ts = false := by simpa using hw
      simp [hw] at et ⊢
      have e1 := r_time (x0 := x0) (x1 := x1) (x2 := x2) (n := n) 23 (by decide) hA
      unfold parser_reader_slot_l1b
      simp [go_sem, et, parser_reader_slot_k1]
      unfold parser_reader_slot_k1b
      cases h1 : timeT 23 ts with
      | err m e =>
        simp only [h1, rdRt, errH, pfail] at e1
        simp [go_sem, e1, rdRt, errH, pfail, kS]
      | ok a q =>
        simp only [h1, rdRt] at e1
        have A1 := hA.time h1
        have e2 := r_needSymbol (x0 := x0) (x1 := x1) (x2 := x2) (n := n) [45] A1
        simp only [bindP_ok]
        cases h2 : needS [45] q with
        | err m e =>
          simp only [h2, rdRt, errH, pfail] at e2
          simp [go_sem, e1, e2, rdRt, errH, pfail, kS]
        | ok u q2 =>
          simp only [h2, rdRt, noneV] at e2
          have A2 := A1.xS h2
          have e3 := r_time (x0 := x0) (x1 := x1) (x2 := x2) (n := n) 24 (by decide) A2
          simp only [bindP_ok]
          cases h3 : timeT 24 q2 with
          | err m e =>
            simp only [h3, rdRt, errH, pfail] at e3
            simp [go_sem, e1, e2, e3, rdRt, errH, pfail, kS]
          | ok b q3 =>
            simp only [h3, rdRt] at e3
            simp [go_sem, e1, e2, e3, rdRt, kS, slotV]

theorem r_slot (hA : At L ts) : acall mach0 n_parser_reader_slot [.ptr 3 0] (hr x0 x1 x2 n L ts.length) = some (rdRt x0 x1 x2 n L slotV (slotT ts)) := by
  refine acall_fn rfl (af := a_parser_reader_slot) rfl rfl ?_
  unfold slotT
  have e1 := r_day (x0 := x0) (x1 := x1) (x2 := x2) (n := n) (-1) (by omega) hA
  rw [show (-1 : Int) + 1 = 0 by rfl] at e1
  cases h1 : wordT dayWs 0 ts with
  | err m e =>
    simp only [h1, rdRt, errH, pfail] at e1
    simp [List.replicate, go_sem, e1, rdRt, errH, pfail]
  | ok k q =>
    simp only [h1, rdRt] at e1
    obtain ⟨w, g1, g2, g3, g4⟩ := wordT_ok h1
    have hk7 : k ≤ 7 := day_hi w g2
    have hp0 : (0 : Int) ≤ 2 ^ k.toNat := Int.le_of_lt (Int.pow_pos (by decide))
    have hp1 : (2 : Int) ^ k.toNat < 2 ^ (k + 1).toNat := by
      rw [show (k + 1).toNat = k.toNat + 1 by omega, Int.pow_succ]
      have := Int.pow_pos (n := 2) (m := k.toNat) (by decide)
      omega
    have sl := slot_l (x0 := x0) (x1 := x1) (x2 := x2) (n := n) q.length k (2 ^ k.toNat) q (Nat.le_refl _) g4 hk7 hp0 hp1 (hA.xWord h1)
    have sh := shl_i64 g4 hk7
    simp [List.replicate, go_sem, e1, g4, sh]
    simpa [kS, hr] using sl
theorem At.slot {s : SlotP} {r : List Tk} (hA : At L ts) (h : slotT ts = .ok s r) : At L r := by
  unfold slotT at h
  cases h1 : Go.Pu.wordT dayWs 0 ts with
  | err m e => rw [h1] at h; cases h
  | ok v q =>
    rw [h1, bindP_ok] at h
    cases h2 : Go.Pu.daysT q.length v (2 ^ v.toNat) q with
    | err m e => rw [h2] at h; cases h
    | ok u q2 =>
      rw [h2, bindP_ok] at h
      cases h3 : timeT 23 q2 with
      | err m e => rw [h3] at h; cases h
      | ok v3 q3 =>
        rw [h3, bindP_ok] at h
        cases h4 : Go.Pu.needS [45] q3 with
        | err m e => rw [h4] at h; cases h
        | ok v4 q4 =>
          rw [h4, bindP_ok] at h
          cases h5 : timeT 24 q4 with
          | err m e => rw [h5] at h; cases h
          | ok v5 q5 => rw [h5, bindP_ok] at h; cases h; exact ((((hA.xWord h1).xDays _ h2).time h3).xS h4).time h5
end
end Go.Am
