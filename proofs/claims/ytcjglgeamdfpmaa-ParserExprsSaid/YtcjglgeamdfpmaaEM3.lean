/- The reference's Skip and Value. -/
import Derived.Test.YtcjglgeamdfpmaaEM2
set_option linter.unusedSimpArgs false
set_option linter.unnecessarySimpa false
set_option linter.unusedVariables false
set_option maxRecDepth 10000
namespace Go.Am
open Go Go.Pu

theorem Skip_l : ∀ (r p : List UInt8), p.length + r.length ≤ 1000000 →
    Run mach0 (.c billingref23_Skip_l2b :: .lp billingref23_Skip_l2 :: .endB 0 :: .c billingref23_Skip_k3 :: []) .norm ⟨(.str (p ++ r) :: .int .i64 p.length :: .undef :: .undef :: .undef :: .undef :: .undef :: .undef :: .undef :: .undef :: .undef :: .undef :: .undef :: .undef :: .undef :: .undef :: .undef :: .undef :: .undef :: .undef :: .undef :: .undef :: .undef :: .undef :: .undef :: .undef :: .undef :: .undef :: .undef :: .undef :: .undef :: .undef :: .undef :: .undef :: .undef :: .undef :: .undef :: .undef :: .undef :: .undef :: .undef :: .undef :: .undef :: .undef :: .undef :: []), []⟩
      (FinQ [.tmp 4] 0 (.ret (.int .i64 (p.length + (r.length - (skipB false r).length) : Nat)) [])) ∧
    Run mach0 (.c billingref23_Skip_l1b :: .lp billingref23_Skip_l1 :: .endB 2 :: .c billingref23_Skip_k1 :: .c billingref23_Skip_k2 :: .endB 1 :: .lp billingref23_Skip_l2 :: .endB 0 :: .c billingref23_Skip_k3 :: []) .norm ⟨(.str (p ++ r) :: .int .i64 p.length :: .undef :: .undef :: .undef :: .undef :: .undef :: .undef :: .undef :: .undef :: .undef :: .undef :: .undef :: .undef :: .undef :: .undef :: .undef :: .undef :: .undef :: .undef :: .undef :: .undef :: .undef :: .undef :: .undef :: .undef :: .undef :: .undef :: .undef :: .undef :: .undef :: .undef :: .undef :: .undef :: .undef :: .undef :: .undef :: .undef :: .undef :: .undef :: .undef :: .undef :: .undef :: .undef :: .undef :: []), []⟩
      (FinQ [.tmp 4] 0 (.ret (.int .i64 (p.length + (r.length - (skipB true r).length) : Nat)) []))
  | [], p, hl => by
    have q : ¬ ((p.length : Int) < p.length) := by omega
    have o : Run mach0 (.c billingref23_Skip_l2b :: .lp billingref23_Skip_l2 :: .endB 0 :: .c billingref23_Skip_k3 :: []) .norm ⟨(.str (p ++ []) :: .int .i64 p.length :: .undef :: .undef :: .undef :: .undef :: .undef :: .undef :: .undef :: .undef :: .undef :: .undef :: .undef :: .undef :: .undef :: .undef :: .undef :: .undef :: .undef :: .undef :: .undef :: .undef :: .undef :: .undef :: .undef :: .undef :: .undef :: .undef :: .undef :: .undef :: .undef :: .undef :: .undef :: .undef :: .undef :: .undef :: .undef :: .undef :: .undef :: .undef :: .undef :: .undef :: .undef :: .undef :: .undef :: []), []⟩
      (FinQ [.tmp 4] 0 (.ret (.int .i64 (p.length + (([] : List UInt8).length - (skipB false []).length) : Nat)) [])) := by
      unfold billingref23_Skip_l2b
      simp [go_sem, q, skipB, billingref23_Skip_k3]
      simp [go_sem, billingref23_Skip_k3b]
    refine ⟨o, ?_⟩
    unfold billingref23_Skip_l1b
    simp [go_sem, q, skipB, billingref23_Skip_k1]
    simp [go_sem, billingref23_Skip_k1b]
    simpa [skipB] using o
  | b :: l, p, hl => by
    simp only [List.length_cons] at hl
    obtain ⟨i1, i2⟩ := Skip_l l (p ++ [b]) (by simp; omega)
    have w : IntKind.wrap .i64 ((p.length : Int) + 1) = (p.length : Int) + 1 := wrap_i64 (by omega)
    have q : (p.length : Int) < (p.length : Int) + ((l.length : Int) + 1) := by omega
    have g := get_mid (p := p) (r := l) (b := b)
    have h1 := skip_le' false l
    have h2 := skip_le' true l
    simp only [List.append_assoc, List.singleton_append, List.length_append, List.length_cons, List.length_nil, Nat.zero_add] at i1 i2
    have inner : b.toNat ≠ 10 → Run mach0 (.c billingref23_Skip_l1b :: .lp billingref23_Skip_l1 :: .endB 2 :: .c billingref23_Skip_k1 :: .c billingref23_Skip_k2 :: .endB 1 :: .lp billingref23_Skip_l2 :: .endB 0 :: .c billingref23_Skip_k3 :: []) .norm ⟨(.str (p ++ b :: l) :: .int .i64 p.length :: .undef :: .undef :: .undef :: .undef :: .undef :: .undef :: .undef :: .undef :: .undef :: .undef :: .undef :: .undef :: .undef :: .undef :: .undef :: .undef :: .undef :: .undef :: .undef :: .undef :: .undef :: .undef :: .undef :: .undef :: .undef :: .undef :: .undef :: .undef :: .undef :: .undef :: .undef :: .undef :: .undef :: .undef :: .undef :: .undef :: .undef :: .undef :: .undef :: .undef :: .undef :: .undef :: .undef :: []), []⟩
      (FinQ [.tmp 4] 0 (.ret (.int .i64 (p.length + ((b :: l).length - (skipB true l).length) : Nat)) [])) := fun hb => by
      have hbi : ¬ (b.toNat : Int) = 10 := by omega
      have e3 : p.length + 1 + (l.length - (skipB true l).length) = p.length + (l.length + 1 - (skipB true l).length) := by omega
      rw [e3] at i2
      unfold billingref23_Skip_l1b
      simp [go_sem, q, g, nt' hbi, w]
      simpa using i2
    have outer : Run mach0 (.c billingref23_Skip_l2b :: .lp billingref23_Skip_l2 :: .endB 0 :: .c billingref23_Skip_k3 :: []) .norm ⟨(.str (p ++ b :: l) :: .int .i64 p.length :: .undef :: .undef :: .undef :: .undef :: .undef :: .undef :: .undef :: .undef :: .undef :: .undef :: .undef :: .undef :: .undef :: .undef :: .undef :: .undef :: .undef :: .undef :: .undef :: .undef :: .undef :: .undef :: .undef :: .undef :: .undef :: .undef :: .undef :: .undef :: .undef :: .undef :: .undef :: .undef :: .undef :: .undef :: .undef :: .undef :: .undef :: .undef :: .undef :: .undef :: .undef :: .undef :: .undef :: []), []⟩
      (FinQ [.tmp 4] 0 (.ret (.int .i64 (p.length + ((b :: l).length - (skipB false (b :: l)).length) : Nat)) [])) := by
      by_cases hb : blankB b = true
      · have e : skipB false (b :: l) = skipB false l := by rw [skipB, if_pos hb]
        have e3 : p.length + 1 + (l.length - (skipB false l).length) = p.length + (l.length + 1 - (skipB false l).length) := by omega
        rw [e3] at i1
        rw [e]
        have h35 : ¬ (b.toNat : Int) = 35 := by simp [blankB] at hb; omega
        have hbi : (b.toNat : Int) = 32 ∨ (b.toNat : Int) = 9 ∨ (b.toNat : Int) = 10 := by
          simp [blankB] at hb; omega
        unfold billingref23_Skip_l2b
        simp [go_sem, q, g, bf' h35, billingref23_Skip_k2]
        unfold billingref23_Skip_k2b
        rcases hbi with hbi | hbi | hbi
        · simp [go_sem, q, g, nf' hbi, w]; simpa using i1
        · simp [go_sem, q, g, nf' hbi, nt' (show ¬ (b.toNat : Int) = 32 by omega), w]; simpa using i1
        · simp [go_sem, q, g, nf' hbi, nt' (show ¬ (b.toNat : Int) = 32 by omega), nt' (show ¬ (b.toNat : Int) = 9 by omega), w]; simpa using i1
      · have h32 : ¬ (b.toNat : Int) = 32 := by intro h; apply hb; simp [blankB]; omega
        have h9 : ¬ (b.toNat : Int) = 9 := by intro h; apply hb; simp [blankB]; omega
        have h10 : ¬ (b.toNat : Int) = 10 := by intro h; apply hb; simp [blankB]; omega
        by_cases h35 : b.toNat = 35
        · have e : skipB false (b :: l) = skipB true l := by rw [skipB, if_neg hb, if_pos h35]
          have hbi : (b.toNat : Int) = 35 := by omega
          rw [e]
          unfold billingref23_Skip_l2b
          simp [go_sem, q, g, bt' hbi]
          simpa using inner (by omega)
        · have e : skipB false (b :: l) = b :: l := by rw [skipB, if_neg hb, if_neg h35]
          have hbi : ¬ (b.toNat : Int) = 35 := by omega
          rw [e]
          unfold billingref23_Skip_l2b
          simp [go_sem, q, g, bf' hbi, billingref23_Skip_k2]
          simp [go_sem, q, g, billingref23_Skip_k2b, nt' h32, nt' h9, nt' h10]
    refine ⟨outer, ?_⟩
    by_cases hb : b.toNat = 10
    · have e : skipB true (b :: l) = skipB false l := by rw [skipB, if_pos hb]
      have e2 : skipB false (b :: l) = skipB false l := by rw [skipB, if_pos (by simp [blankB, hb])]
      have hbi : (b.toNat : Int) = 10 := by omega
      rw [e2] at outer
      rw [e]
      unfold billingref23_Skip_l1b
      simp [go_sem, q, g, nf' hbi, billingref23_Skip_k1]
      simp [go_sem, billingref23_Skip_k1b]
      simpa using outer
    · have e : skipB true (b :: l) = skipB true l := by rw [skipB, if_neg hb]
      rw [e]
      exact inner hb

theorem e_rSkip (p r : List UInt8) (hl : p.length + r.length ≤ 1000000) : acall mach0 n_billingref23_Skip [.str (p ++ r), .int .i64 p.length] [] = some (.ret (.int .i64 (p.length + (r.length - (skipB false r).length) : Nat)) []) := by
  refine acall_fn rfl (af := a_billingref23_Skip) rfl rfl ?_
  have := (Skip_l r p hl).1
  simp [List.replicate, go_sem]
  simpa using this

theorem Value_l : ∀ (r p : List UInt8), p.length + r.length ≤ 1000000 → (p ++ r).all digitB = true →
    Run mach0 (.c billingref23_Value_l1b :: .lp billingref23_Value_l1 :: .endB 0 :: .c billingref23_Value_k1 :: []) .norm ⟨(.str (p ++ r) :: .undef :: .undef :: .int .i64 (value p) :: .int .i64 p.length :: .undef :: .undef :: .undef :: .undef :: .undef :: .undef :: .undef :: .undef :: .undef :: .undef :: .undef :: .undef :: .undef :: .undef :: .undef :: .undef :: .undef :: .undef :: .undef :: []), []⟩
      (FinQ [.tmp 2] 0 (.ret (.int .i64 (value (p ++ r))) []))
  | [], p, hl, hd => by
    have q : ¬ ((p.length : Int) < p.length) := by omega
    unfold billingref23_Value_l1b
    simp [go_sem, q, billingref23_Value_k1]
    simp [go_sem, billingref23_Value_k1b]
  | b :: r, p, hl, hd => by
    have hdp : p.all digitB = true := by simp at hd ⊢; exact hd.1
    have hb : 48 ≤ b.toNat ∧ b.toNat ≤ 57 := by
      have : digitB b = true := by simp at hd; exact hd.2.1
      simpa [digitB] using this
    have hlt := value_lt hdp
    have hv : value (p ++ [b]) = if p.length < 16 then 10 * value p + (b.toNat - 48) else value p := valF_snoc 16 0 p b
    by_cases h16 : p.length < 16
    · have ih := Value_l r (p ++ [b]) (by simp at hl ⊢; omega) (by simpa using hd)
      simp only [List.length_cons] at hl
      rw [if_pos h16] at hv
      simp only [List.append_assoc, List.singleton_append, List.length_append, List.length_cons, List.length_nil, Nat.zero_add, hv] at ih
      have h16' : (p.length : Int) < 16 := by omega
      have q : (p.length : Int) < p.length + (r.length + 1) := by omega
      have g := get_mid (p := p) (r := r) (b := b)
      have w : IntKind.wrap .i64 ((p.length : Int) + 1) = p.length + 1 := wrap_i64 (by omega)
      have w2 : IntKind.wrap .u8 ((b.toNat : Int) - 48) = ((b.toNat - 48 : Nat) : Int) := by
        have : (b.toNat : Int) - 48 = ((b.toNat - 48 : Nat) : Int) := by omega
        rw [this, wrap_u8]; omega
      generalize value p = v at *
      have w3 : IntKind.wrap .i64 ((b.toNat - 48 : Nat) : Int) = ((b.toNat - 48 : Nat) : Int) := wrap_i64 (by omega)
      have w4 : IntKind.wrap .i64 (10 * (v : Int)) = 10 * (v : Int) := wrap_i64 (by omega)
      have w5 : IntKind.wrap .i64 (10 * (v : Int) + ((b.toNat - 48 : Nat) : Int)) = 10 * (v : Int) + ((b.toNat - 48 : Nat) : Int) := by rw [wrap_i64 (by omega)]
      unfold billingref23_Value_l1b
      simp [go_sem, q, h16', g, w, w2, w3, w4, w5]
      simpa using ih
    · have h16' : ¬ (p.length : Int) < 16 := by omega
      have hsame : ∀ (r p : List UInt8), ¬ p.length < 16 → value (p ++ r) = value p := by
        intro r
        induction r with
        | nil => intro p _; simp
        | cons c r ih =>
          intro p hp
          have h1 := ih (p ++ [c]) (by simp; omega)
          have h2 : value (p ++ [c]) = if p.length < 16 then 10 * value p + (c.toNat - 48) else value p := valF_snoc 16 0 p c
          rw [if_neg hp] at h2
          rw [← h2, ← h1]; simp
      rw [hsame _ _ h16]
      have q : (p.length : Int) < p.length + (r.length + 1) := by omega
      unfold billingref23_Value_l1b
      simp [go_sem, q, h16', billingref23_Value_k1]
      simp [go_sem, billingref23_Value_k1b]

theorem e_Value (s : List UInt8) (hl : s.length ≤ 1000000) (hd : s.all digitB = true) : acall mach0 n_billingref23_Value [.str s] [] = some (.ret (.int .i64 (value s)) []) := by
  refine acall_fn rfl (af := a_billingref23_Value) rfl rfl ?_
  have := Value_l s [] (by simpa using hl) hd
  have e0 : value [] = 0 := rfl
  rw [e0] at this
  simp [List.replicate, go_sem]
  simpa using this
end Go.Am
