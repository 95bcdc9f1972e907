/- The reference's operands. -/
import Derived.Test.YtcjglgeamdfpmaaER2
import Derived.Test.YtcjglgeamdfpmaaEP7
set_option linter.unusedSimpArgs false
set_option linter.unnecessarySimpa false
set_option linter.unusedVariables false
set_option maxRecDepth 10000
namespace Go.Am
open Go Go.Pu

theorem Place_l (s : List UInt8) : ∀ (l2 l1 : List (List UInt8)), l1.length + l2.length ≤ 1000 →
    Run mach0 (.c billingref24_Place_l1b :: .lp billingref24_Place_l1 :: .endB 0 :: .c billingref24_Place_k1 :: []) .norm ⟨(.sl false 1 (ssV (l1 ++ l2)) :: .str s :: .undef :: .undef :: .undef :: .int .i64 l1.length :: .undef :: .undef :: .undef :: .undef :: .undef :: .undef :: .undef :: .undef :: .undef :: .undef :: .undef :: .undef :: .undef :: []), []⟩
      (FinQ [.tmp 4] 0 (.ret (.int .i64 (wplaceF s l2 l1.length)) []))
  | [], l1, hl => by
    have q : ¬ ((l1.length : Int) < l1.length) := by omega
    unfold billingref24_Place_l1b
    simp [go_sem, ssV, q, billingref24_Place_k1]
    simp [go_sem, billingref24_Place_k1b, wplaceF]
  | x :: l2, l1, hl => by
    simp only [List.length_cons] at hl
    have ih := Place_l s l2 (l1 ++ [x]) (by simp; omega)
    have q : (l1.length : Int) < l1.length + (l2.length + 1) := by omega
    have w : IntKind.wrap .i64 ((l1.length : Int) + 1) = l1.length + 1 := wrap_i64 (by omega)
    have hn := nth_ss (l1 := l1) (l2 := l2) (x := x)
    have hlen : (ssV (l1 ++ x :: l2)).length = l1.length + (l2.length + 1) := by simp [ssV]
    unfold billingref24_Place_l1b
    by_cases h : x = s
    · subst h
      simp [go_sem, hlen, q, hn, wplaceF]
    · have h' : (x == s) = false := by simpa using h
      simp only [List.append_assoc, List.singleton_append, List.length_append, List.length_cons, List.length_nil, Nat.zero_add] at ih
      simp [go_sem, hlen, q, hn, h', w, wplaceF, h]
      simpa using ih
theorem e_Place (o : Bool) (l : List (List UInt8)) (s : List UInt8) (hl : l.length ≤ 1000) : acall mach0 n_billingref24_Place [.sl o 1 (ssV l), .str s] [] = some (.ret (.int .i64 (wplace l s)) []) := by
  refine acall_fn rfl (af := a_billingref24_Place) rfl rfl ?_
  have := Place_l s l [] (by simpa using hl)
  cases o <;> simp [List.replicate, go_sem] <;> simpa [wplace] using this

theorem wplaceF_in (s : Bs) : ∀ (l : List Bs) (i : Nat), s ∈ l → 0 ≤ wplaceF s l i
  | [], _, h => by cases h
  | w :: l, i, h => by
    simp only [wplaceF]
    split
    · omega
    · rename_i hn
      rcases List.mem_cons.1 h with h | h
      · exact absurd h.symm hn
      · exact wplaceF_in s l (i + 1) h
theorem attr_place (s : Bs) : decide (0 ≤ wplace attrs s) = isAttr s := by
  unfold isAttr
  by_cases h : s ∈ attrs
  · have := wplaceF_in s attrs 0 h
    simp only [List.contains_eq_mem, h, decide_true, decide_eq_true_eq]
    exact this
  · rw [wplace_no h]
    simp [h]

/-- Tokens that a text has. -/
def okT (ts : List Tk) : Prop := ∀ t ∈ ts, t.ok = true ∨ t = .fin
theorem okT.tl {t : Tk} {ts : List Tk} (h : okT (t :: ts)) : okT ts := fun u hu => h u (List.mem_cons_of_mem _ hu)

theorem isSymT_word {s : Bs} {ts : List Tk} (ho : okT ts) (hs : isSym s = false) : isSymT s ts = false := by
  cases ts with
  | nil => rfl
  | cons t ts =>
    cases t with
    | sym w =>
      have := ho (.sym w) (by simp)
      simp only [Tk.ok, reduceCtorEq, or_false] at this
      simp only [isSymT, beq_eq_false_iff_ne]
      intro e; subst e; rw [hs] at this; cases this
    | _ => rfl
theorem isWord_sym {s : Bs} {ts : List Tk} (ho : okT ts) (hs : headIs lowerB s = false) : isWord s ts = false := by
  cases ts with
  | nil => rfl
  | cons t ts =>
    cases t with
    | word w =>
      have := ho (.word w) (by simp)
      simp only [Tk.ok, Bool.and_eq_true, reduceCtorEq, or_false] at this
      simp only [isWord, beq_eq_false_iff_ne]
      intro e; subst e; rw [hs] at this; exact Bool.noConfusion this.1.1
    | _ => rfl
theorem isA_word {s : Bs} {ts : List Tk} (ho : okT ts) (hs : isSym s = false) : isA s ts = isWord s ts := by
  unfold isA; rw [isSymT_word ho hs, Bool.or_false]
theorem isA_sym {s : Bs} {ts : List Tk} (ho : okT ts) (hs : headIs lowerB s = false) : isA s ts = isSymT s ts := by
  unfold isA; rw [isWord_sym ho hs, Bool.false_or]
end Go.Am
