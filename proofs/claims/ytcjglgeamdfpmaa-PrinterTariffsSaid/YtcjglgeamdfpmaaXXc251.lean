/- The printer's digits, joins and lists. -/
import Derived.Test.YtcjglgeamdfpmaaXXc23
import Derived.Test.YtcjglgeamdfpmaaXXc24
import Derived.Test.YtcjglgeamdfpmaaXXpure
import Derived.Laws.RangeAny
import Derived.KernelRfl
set_option linter.unusedSimpArgs false
set_option linter.unnecessarySimpa false
set_option linter.unusedVariables false
set_option maxRecDepth 10000
namespace Go.Am
open Go Go.Pu
theorem leA {n m : Nat} (h : n ≤ m) : (n ≤ m) = True := eq_true h
def outD : Nat → Nat → Int → Bs → Bs
 | 0, _, _, acc => acc
 | k + 1, n, s, acc => if 0 < n ∨ 0 < s ∨ acc = [] then outD k (n / 10) (s - 1) (dg (n % 10) :: acc) else acc
theorem set_zeros (k : Nat) (acc : Bs) (b : UInt8) : (List.replicate (k + 1) (0 : UInt8) ++ acc).set k b = List.replicate k 0 ++ b :: acc := by
 rw [List.replicate_succ', List.append_assoc, List.set_append_right _ _ (by simp)]
 simp
theorem drop_zeros (k : Nat) (acc : Bs) (h : acc.length + k = 20) : ((B (List.replicate k 0 ++ acc)).take 20).drop k = B acc := by
 rw [B_take, B_drop]
 congr 1
 rw [List.take_of_length_le (by simp; omega)]
 simp
theorem decimal_l : ∀ (k n : Nat) (s : Int) (acc : Bs), n < 10 ^ k → n < 10 ^ 18 → s ≤ k → (k : Int) - 20 ≤ s → acc.length + k = 20 →
  Run mach0 (.c printer_decimal_l1b :: .lp printer_decimal_l1 :: .endB 0 :: .c printer_decimal_k1 :: []) .norm
   ⟨(.int .i64 n :: .int .i64 s :: .undef :: .undef :: .undef :: .box (B (List.replicate k 0 ++ acc)) :: .int .i64 k :: .undef :: .undef :: .undef :: .undef :: .undef :: .undef :: .undef :: .undef :: .undef :: .undef :: .undef :: .undef :: .undef :: .undef :: .undef :: .undef :: .undef :: .undef :: .undef :: .undef :: .undef :: .undef :: .undef :: .undef :: .undef :: []), []⟩ (FinQ [.tmp 4] 0 (.ret (.str (outD k n s acc)) []))
 | k, n, s, acc, hn, h18, hs, hs2, hl => by
  have hlen : (List.replicate k (0 : UInt8) ++ acc).length = 20 := by simp; omega
  have hall : ((List.replicate k (V.int .u8 0)).all isU8) = true := by simp [isU8]
  have fin : ¬ (0 < n ∨ 0 < s ∨ acc = []) → Run mach0 (.c printer_decimal_l1b :: .lp printer_decimal_l1 :: .endB 0 :: .c printer_decimal_k1 :: []) .norm
   ⟨(.int .i64 n :: .int .i64 s :: .undef :: .undef :: .undef :: .box (B (List.replicate k 0 ++ acc)) :: .int .i64 k :: .undef :: .undef :: .undef :: .undef :: .undef :: .undef :: .undef :: .undef :: .undef :: .undef :: .undef :: .undef :: .undef :: .undef :: .undef :: .undef :: .undef :: .undef :: .undef :: .undef :: .undef :: .undef :: .undef :: .undef :: .undef :: []), []⟩ (FinQ [.tmp 4] 0 (.ret (.str acc) [])) := by
   intro hc
   obtain rfl : n = 0 := by omega
   have c2 : ¬ 0 < s := by omega
   have c3 : ¬ (k : Int) = 20 := by
    intro h
    apply hc
    right; right
    exact List.length_eq_zero_iff.1 (by omega)
   have hd := drop_zeros k acc hl
   have hone : (B (List.replicate k 0 ++ acc)).all V.one = true := by simp [B, V.one]
   have hbl : (B (List.replicate k 0 ++ acc)).length = 20 := by rw [B_length]; exact hlen
   have k20 : (k : Int) ≤ 20 := by omega
   generalize B (List.replicate k 0 ++ acc) = bb at *
   unfold printer_decimal_l1b
   simp [go_sem, c2, bf' c3, printer_decimal_k1]
   simp [go_sem, printer_decimal_k1b, hbl, hone, k20, hd]
  match k with
  | 0 =>
   have hc : ¬ (0 < n ∨ 0 < s ∨ acc = []) := by
    rintro (h | h | h)
    ·simp at hn; omega
    ·omega
    ·subst h; simp at hl
   exact fin hc
  | k + 1 =>
   unfold outD
   by_cases hc : 0 < n ∨ 0 < s ∨ acc = []
   ·rw [if_pos hc]
    have ih := decimal_l k (n / 10) (s - 1) (dg (n % 10) :: acc) (by rw [Nat.pow_succ] at hn; omega) (by omega) (by omega) (by omega) (by simp; omega)
    have hM : n % 10 < 10 := Nat.mod_lt _ (by omega)
    have t1 : (n : Int).tdiv 10 = ((n / 10 : Nat) : Int) := rfl
    have t2 : (n : Int).tmod 10 = ((n % 10 : Nat) : Int) := rfl
    have w0 : IntKind.wrap .i64 ((n / 10 : Nat) : Int) = ((n / 10 : Nat) : Int) := wrap_i64 (by omega)
    have w1 : IntKind.wrap .i64 (48 + ((n % 10 : Nat) : Int)) = 48 + (n % 10 : Nat) := wrap_i64 (by omega)
    have w2 : IntKind.wrap .i64 ((n % 10 : Nat) : Int) = ((n % 10 : Nat) : Int) := wrap_i64 (by omega)
    have w3 : IntKind.wrap .i64 (((k + 1 : Nat) : Int) - 1) = (k : Int) := by rw [wrap_i64 (by omega)]; omega
    have w4 : IntKind.wrap .i64 (s - 1) = s - 1 := wrap_i64 (by omega)
    have w5 : IntKind.wrap .u8 (48 + ((n % 10 : Nat) : Int)) = ((dg (n % 10)).toNat : Int) := by
     rw [dg_toNat hM]; simp [IntKind.wrap, IntKind.signed, IntKind.bits]; omega
    have hu : upd (B (List.replicate (k + 1) 0 ++ acc)) k (.int .u8 ((dg (n % 10)).toNat : Int)) = B (List.replicate k 0 ++ dg (n % 10) :: acc) := by rw [upd_B, set_zeros]
    have hbl : (B (List.replicate (k + 1) 0 ++ acc)).length = 20 := by rw [B_length]; exact hlen
    have k20 : k < 20 := by omega
    have k20' : (k : Int) < 20 := by omega
    have e20 : ((k + 1 : Nat) : Int) = 20 ↔ acc = [] := by
     constructor
     ·intro h; exact List.length_eq_zero_iff.1 (by omega)
     ·intro h; subst h; simp at hl ⊢; omega
    generalize B (List.replicate (k + 1) 0 ++ acc) = bb at *
    generalize hK : ((k + 1 : Nat) : Int) = K at *
    have hk1 : k + 1 ≤ 20 := by omega
    by_cases c1 : 0 < n
    ·have c1' : (0 : Int) < n := by omega
     generalize n / 10 = D at *
     generalize n % 10 = M at *
     unfold printer_decimal_l1b
     simp [go_sem, c1, c1', t1, t2, w0, w1, w2, w3, w4, w5, hu, hbl, k20, k20', hk1, overlay]
     exact ih
    ·obtain rfl : n = 0 := by omega
     have w6 : IntKind.wrap .u8 48 = ((dg 0).toNat : Int) := by decide
     have w7 : IntKind.wrap .i64 48 = 48 := by decide
     have w8 : IntKind.wrap .i64 0 = 0 := by decide
     simp only [Nat.zero_div, Nat.zero_mod] at hu ih ⊢
     generalize B (List.replicate k 0 ++ dg 0 :: acc) = bb2 at *
     generalize dg 0 = d0 at *
     unfold printer_decimal_l1b
     by_cases c2 : 0 < s
     ·simp [go_sem, c2, w3, w4, w6, w7, w8, hu, hbl, k20, k20', hk1, overlay]
      simpa using ih
     ·have c3 : K = 20 := e20.2 (by rcases hc with h | h | h; exact absurd h c1; exact absurd h c2; exact h)
      simp [go_sem, c2, bt' c3, w3, w4, w6, w7, w8, hu, hbl, k20, k20', hk1, overlay]
      simpa using ih
   ·rw [if_neg hc]
    exact fin hc
theorem outD_dec : ∀ (k n : Nat) (s : Int) (acc : Bs), n < 10 ^ k → 0 < n → s ≤ 1 → outD k n s acc = decF k n ++ acc
 | 0, n, s, acc, h, h0, _ => by simp at h; omega
 | k + 1, n, s, acc, h, h0, hs => by
  unfold outD decF
  rw [if_pos (.inl h0)]
  by_cases h10 : n < 10
  ·rw [if_pos h10]
   have e : n / 10 = 0 := by omega
   have e2 : n % 10 = n := by omega
   rw [e, e2]
   cases k with
   | zero => rfl
   | succ k => unfold outD; rw [if_neg (by simp; omega)]; rfl
  ·rw [if_neg h10, outD_dec k (n / 10) (s - 1) _ (by rw [Nat.pow_succ] at h; omega) (by omega) (by omega)]
   simp
theorem outD_one {n : Nat} (h : n < 10 ^ 18) : outD 20 n 1 [] = dec n := by
 by_cases h0 : n = 0
 ·subst h0; rfl
 ·rw [outD_dec 20 n 1 [] (by omega) (by omega) (by omega), List.append_nil]
  rfl
theorem outD_two : ∀ n : Fin 100, outD 20 n.val 2 [] = k2 n.val := by decide +kernel
theorem e_decimal1 (n : Nat) (h : n < 10 ^ 18) : acall mach0 n_printer_decimal [.int .i64 n, .int .i64 1] [] = some (.ret (.str (dec n)) []) := by
 have run := decimal_l 20 n 1 [] (by omega) h (by omega) (by omega) rfl
 rw [outD_one h] at run
 refine acall_fn rfl (af := a_printer_decimal) rfl rfl ?_
 simp [List.replicate, go_sem]
 simpa [B, List.replicate] using run
theorem e_decimal2 (n : Nat) (h : n < 100) : acall mach0 n_printer_decimal [.int .i64 n, .int .i64 2] [] = some (.ret (.str (k2 n)) []) := by
 have run := decimal_l 20 n 2 [] (by omega) (by omega) (by omega) (by omega) rfl
 rw [outD_two ⟨n, h⟩] at run
 refine acall_fn rfl (af := a_printer_decimal) rfl rfl ?_
 simp [List.replicate, go_sem]
 simpa [B, List.replicate] using run
end Go.Am
namespace Go.Am
open Go Go.Pu
def sumL : List Bs → Nat
 | [] => 0
 | a :: l => a.length + sumL l
theorem sumL_app : ∀ a b : List Bs, sumL (a ++ b) = sumL a + sumL b
 | [], b => by simp [sumL]
 | x :: a, b => by simp only [List.cons_append, sumL, sumL_app a b]; omega
theorem sumL_flat : ∀ l : List Bs, l.flatten.length = sumL l
 | [] => rfl
 | a :: l => by simp only [List.flatten_cons, List.length_append, sumL, sumL_flat l]
theorem nth_strs (l1 : List Bs) (a : Bs) (l2 : List Bs) : nth ((l1 ++ a :: l2).map V.str) l1.length = .str a := by
 induction l1 with
 | nil => rfl
 | cons b l1 ih => exact ih
theorem join_l1 (l : List Bs) (hn : l.length ≤ 1000000) (hs : sumL l ≤ 1000000000000) (k : List It) (r : Rt)
    (hk : Run mach0 (.c printer_join_k2b :: k) .norm ⟨(.sl false 1 (l.map V.str) :: .undef :: .undef :: .int .i64 (sumL l) :: .undef :: .undef :: .undef :: .undef :: .undef :: .undef :: .undef :: .undef :: .undef :: .undef :: .undef :: .undef :: .undef :: .undef :: .undef :: .undef :: .undef :: .undef :: .undef :: .undef :: .undef :: .undef :: .undef :: .undef :: .undef :: .undef :: .undef :: .undef :: .undef :: .undef :: []), []⟩ (FinQ [.tmp 2] 0 r)) : ∀ (l2 l1 : List Bs), l1 ++ l2 = l →
    Run mach0 (.c printer_join_l1b :: .lp printer_join_l1 :: .endB 0 :: .c printer_join_k2 :: k) .norm
      ⟨(.sl false 1 (l.map V.str) :: .undef :: .undef :: .int .i64 (sumL l1) :: .undef :: .undef :: .undef :: .undef :: .undef :: .sl false 1 (l.map V.str) :: .int .i64 l.length :: .int .i64 l1.length :: .undef :: .undef :: .undef :: .undef :: .undef :: .undef :: .undef :: .undef :: .undef :: .undef :: .undef :: .undef :: .undef :: .undef :: .undef :: .undef :: .undef :: .undef :: .undef :: .undef :: .undef :: .undef :: []), []⟩ (FinQ [.tmp 2] 0 r)
  | [], l1, he => by
    have q : ¬ ((l1.length : Int) < l.length) := by rw [← he]; simp
    rw [List.append_nil] at he
    subst he
    unfold printer_join_l1b
    simp [go_sem, q, printer_join_k2]
    exact hk
  | a :: l2, l1, he => by
    have ih := join_l1 l hn hs k r hk l2 (l1 ++ [a]) (by rw [← he]; simp)
    have len : l.length = l1.length + (l2.length + 1) := by rw [← he]; simp
    have hs2 : sumL l = sumL l1 + (a.length + sumL l2) := by rw [← he, sumL_app]; rfl
    have q : (l1.length : Int) < l.length := by omega
    have q' : l1.length < l.length := by omega
    have w : IntKind.wrap .i64 ((l1.length : Int) + 1) = l1.length + 1 := wrap_i64 (by omega)
    have w2 : IntKind.wrap .i64 ((sumL l1 : Int) + a.length) = sumL l1 + a.length := wrap_i64 (by omega)
    have hnth : nth (l.map V.str) l1.length = .str a := by rw [← he]; exact nth_strs _ _ _
    simp only [List.length_append, List.length_cons, List.length_nil, Nat.zero_add, sumL_app, sumL, Nat.add_zero] at ih
    unfold printer_join_l1b
    simp [go_sem, q, q', hnth, w, w2]
    simpa using ih
theorem join_l2 (l : List Bs) (hn : l.length ≤ 1000000) (hs : sumL l ≤ 1000000000000) : ∀ (l2 l1 : List Bs), l1 ++ l2 = l →
  Run mach0 (.c printer_join_l2b :: .lp printer_join_l2 :: .endB 2 :: .c printer_join_k1 :: []) .norm
   ⟨(.sl false 1 (l.map V.str) :: .undef :: .undef :: .undef :: .undef :: .undef :: .sl true 1 (B l1.flatten) :: .undef :: .undef :: .undef :: .undef :: .undef :: .undef :: .undef :: .undef :: .undef :: .undef :: .undef :: .undef :: .undef :: .undef :: .undef :: .sl false 1 (l.map V.str) :: .int .i64 l.length :: .int .i64 l1.length :: .undef :: .undef :: .undef :: .undef :: .undef :: .undef :: .undef :: .undef :: .undef :: []), []⟩ (FinQ [.tmp 2] 0 (.ret (.str l.flatten) []))
 | [], l1, he => by
  have q : ¬ ((l1.length : Int) < l.length) := by rw [← he]; simp
  rw [List.append_nil] at he
  subst he
  unfold printer_join_l2b
  simp [go_sem, q, printer_join_k1]
  simp [go_sem, printer_join_k1b]
 | a :: l2, l1, he => by
  have ih := join_l2 l hn hs l2 (l1 ++ [a]) (by rw [← he]; simp)
  have len : l.length = l1.length + (l2.length + 1) := by rw [← he]; simp
  have hs2 : sumL l = sumL l1 + (a.length + sumL l2) := by rw [← he, sumL_app]; rfl
  have hfl := sumL_flat l1
  have q : (l1.length : Int) < l.length := by omega
  have q' : l1.length < l.length := by omega
  have w : IntKind.wrap .i64 ((l1.length : Int) + 1) = l1.length + 1 := wrap_i64 (by omega)
  have hnth : nth (l.map V.str) l1.length = .str a := by rw [← he]; exact nth_strs _ _ _
  have o1 : l1.flatten.length + a.length ≤ 140737488355328 := by omega
  simp only [List.length_append, List.length_cons, List.length_nil, Nat.zero_add, List.flatten_append, List.flatten_cons, List.flatten_nil, List.append_nil] at ih
  generalize l1.flatten = x at *
  unfold printer_join_l2b
  simp [go_sem, q, q', hnth, w, o1, B_append]
  simpa using ih
theorem e_join (o : Bool) (l : List Bs) (hn : l.length ≤ 1000000) (hs : sumL l ≤ 1000000000000) : acall mach0 n_printer_join [.sl o 1 (l.map V.str)] [] = some (.ret (.str l.flatten) []) := by
 have r2 := join_l2 l hn hs l [] rfl
 have r1 := join_l1 l hn hs (r := .ret (.str l.flatten) []) [] (by
  unfold printer_join_k2b
  have w1 : (sumL l : Int) ≤ 281474976710656 := by omega
  have w2 : (sumL l : Int) ≤ 9223372036854775807 := by omega
  simp (disch := omega) [go_sem, w1, w2, leA]
  simpa [B] using r2) l [] rfl
 refine acall_fn rfl (af := a_printer_join) rfl rfl ?_
 cases o
 ·simp [List.replicate, go_sem]
  simpa [sumL] using r1
 ·simp [List.replicate, go_sem]
  simpa [sumL] using r1
theorem list_l (l : List Bs) (hn : l.length ≤ 1000000) (hs : sumL l ≤ 1000000000000) : ∀ (l2 l1 : List Bs), l1 ++ l2 = l →
  Run mach0 (.c printer_list_l1b :: .lp printer_list_l1 :: .endB 0 :: .c printer_list_k1 :: []) .norm
   ⟨(.sl false 1 (l.map V.str) :: .undef :: .undef :: .sl true 1 (B (joinB l1)) :: .undef :: .undef :: .sl false 1 (l.map V.str) :: .int .i64 l.length :: .int .i64 l1.length :: .undef :: .undef :: .undef :: .undef :: .undef :: .undef :: .undef :: .undef :: .undef :: .undef :: .undef :: .undef :: .undef :: .undef :: []), []⟩ (FinQ [.tmp 2] 0 (.ret (.str (joinB l)) []))
 | [], l1, he => by
  have q : ¬ ((l1.length : Int) < l.length) := by rw [← he]; simp
  rw [List.append_nil] at he
  subst he
  unfold printer_list_l1b
  simp [go_sem, q, printer_list_k1]
  simp [go_sem, printer_list_k1b]
 | a :: l2, l1, he => by
  have ih := list_l l hn hs l2 (l1 ++ [a]) (by rw [← he]; simp)
  have len : l.length = l1.length + (l2.length + 1) := by rw [← he]; simp
  have hs2 : sumL l = sumL l1 + (a.length + sumL l2) := by rw [← he, sumL_app]; rfl
  have q : (l1.length : Int) < l.length := by omega
  have q' : l1.length < l.length := by omega
  have w : IntKind.wrap .i64 ((l1.length : Int) + 1) = l1.length + 1 := wrap_i64 (by omega)
  have hnth : nth (l.map V.str) l1.length = .str a := by rw [← he]; exact nth_strs _ _ _
  have hj : (joinB l1).length ≤ sumL l1 + 2 * l1.length := by
   cases l1 with
   | nil => simp [joinB]
   | cons b m =>
    have key : ∀ m : List Bs, (m.flatMap (fun b => (44 :: 32 :: b : Bs))).length = sumL m + 2 * m.length := by
     intro m
     induction m with
     | nil => rfl
     | cons c m ih => simp only [List.flatMap_cons, List.length_append, List.length_cons, sumL, ih]; omega
    have e : (joinB (b :: m)).length = b.length + (m.flatMap (fun b => (44 :: 32 :: b : Bs))).length := List.length_append
    rw [e, key, List.length_cons]
    simp only [sumL]
    omega
  simp only [List.length_append, List.length_cons, List.length_nil, Nat.zero_add] at ih
  unfold printer_list_l1b
  cases l1 with
  | nil =>
   have e : joinB ([] ++ [a]) = a := by simp [joinB]
   rw [e] at ih
   have o1 : a.length ≤ 140737488355328 := by omega
   simp [go_sem, joinB] at ih q q' w hnth ⊢
   simp [go_sem, q, q', hnth, w, o1, B_append]
   simpa [B] using ih
  | cons b m =>
   have e : joinB (b :: m ++ [a]) = joinB (b :: m) ++ 44 :: 32 :: a := by simp [joinB]
   rw [e] at ih
   have o1 : (joinB (b :: m)).length + 2 ≤ 140737488355328 := by omega
   have o2 : (joinB (b :: m)).length + 2 + a.length ≤ 140737488355328 := by omega
   have hp : (0 : Int) < ((b :: m).length : Int) := by simp
   have hpn : 0 < (b :: m).length := by simp
   have hB : ([V.int .u8 44, V.int .u8 32] : List V) = B [44, 32] := rfl
   generalize joinB (b :: m) = x at *
   generalize (b :: m).length = y at *
   simp [go_sem, q, q', hnth, w, hp, hpn, o1, o2, B_append]
   simpa using ih
theorem e_list (l : List Bs) (hn : l.length ≤ 1000000) (hs : sumL l ≤ 1000000000000) : acall mach0 n_printer_list [.sl false 1 (l.map V.str)] [] = some (.ret (.str (joinB l)) []) := by
 have run := list_l l hn hs l [] rfl
 refine acall_fn rfl (af := a_printer_list) rfl rfl ?_
 simp [List.replicate, go_sem]
 simpa [joinB, B] using run
end Go.Am
namespace Go.Am
open Go Go.Pu
theorem get_ba (p : Bs) (b : UInt8) (r : Bs) (h : p.length < (ByteArray.mk (p ++ b :: r).toArray).size) : (ByteArray.mk (p ++ b :: r).toArray)[p.length]'h = b := by
 show (p ++ b :: r).toArray[p.length] = b
 simp
theorem size_ba (l : Bs) : (ByteArray.mk l.toArray).size = l.length := rfl
theorem dec_lo {p r : Bs} {b : UInt8} (hb : b.toNat < 128) : Utf8.decode ⟨(p ++ b :: r).toArray⟩ p.length = (b.toNat, 1) := by
 have h : p.length < (ByteArray.mk (p ++ b :: r).toArray).size := by rw [size_ba]; simp
 rw [decode_ascii _ _ h (by rw [get_ba]; exact hb), get_ba]
theorem dec_hi {p r : Bs} {b : UInt8} (hb : ¬ b.toNat < 128) : 128 ≤ (Utf8.decode ⟨(p ++ b :: r).toArray⟩ p.length).1 := by
 have h : p.length < (ByteArray.mk (p ++ b :: r).toArray).size := by rw [size_ba]; simp
 exact (decode_high _ _ h (by rw [get_ba]; omega)).1
theorem dec_hi' {p r : Bs} {b : UInt8} (hb : ¬ b.toNat < 128) : ∃ d1 d2 : Nat, Utf8.decode ⟨(p ++ b :: r).toArray⟩ p.length = (d1, d2) ∧ 128 ≤ d1 := ⟨_, _, rfl, dec_hi hb⟩
theorem name_l : ∀ (r p : Bs), p ≠ [] → (p ++ r).length ≤ 1000000 →
  Run mach0 (.c printer_name_l1b :: .lp printer_name_l1 :: .endB 0 :: .c printer_name_k1 :: []) .norm
   ⟨(.undef :: .undef :: .undef :: .undef :: .undef :: .undef :: .undef :: .undef :: .undef :: .undef :: .undef :: .undef :: .undef :: .undef :: .undef :: .undef :: .undef :: .undef :: .iter (p ++ r) p.length :: .undef :: .undef :: .undef :: .undef :: .undef :: .undef :: .undef :: .undef :: .undef :: .undef :: .undef :: .undef :: .undef :: .undef :: .undef :: .undef :: .undef :: .undef :: .undef :: .undef :: .undef :: .undef :: .undef :: .undef :: .undef :: .undef :: .undef :: .undef :: []), []⟩ (FinQ [.tmp 2] 0 (.ret (.bool (r.all wordB)) []))
 | [], p, hp, hl => by
  unfold printer_name_l1b
  simp [go_sem, printer_name_k1]
  simp [go_sem, printer_name_k1b]
 | b :: r, p, hp, hl => by
  have ih := name_l r (p ++ [b]) (by simp) (by simpa using hl)
  simp only [List.append_assoc, List.singleton_append, List.length_append, List.length_cons, List.length_nil, Nat.zero_add] at ih
  have q : p.length < p.length + (r.length + 1) := by omega
  have hp0 : ¬ (p.length : Int) = 0 := by
   intro h
   apply hp
   exact List.length_eq_zero_iff.1 (by omega)
  unfold printer_name_l1b
  by_cases hb : b.toNat < 128
  ·have hd := dec_lo (p := p) (r := r) hb
   by_cases h1 : (97 : Int) ≤ (b.toNat : Int)
   ·by_cases h2 : (b.toNat : Int) ≤ 122
    ·have hw : wordB b = true := by simp [wordB, lowerB]; omega
     simp [go_sem, q, hd, h1, h2, hw]
     simpa using ih
    ·have hw : wordB b = false := by simp [wordB, lowerB, digitB]; omega
     have h3 : ¬ (b.toNat : Int) = 45 := by omega
     have h4 : ¬ (b.toNat : Int) < 48 := by omega
     have h5 : (57 : Int) < (b.toNat : Int) := by omega
     simp [go_sem, q, hd, h1, h2, hw, bf' hp0, nt' h3, h4, h5]
   ·by_cases h3 : (b.toNat : Int) = 45
    ·have hw : wordB b = true := by simp [wordB]; omega
     simp [go_sem, q, hd, h1, hw, bf' hp0, nf' h3]
     simpa using ih
    ·by_cases h4 : (b.toNat : Int) < 48
     ·have hw : wordB b = false := by simp [wordB, lowerB, digitB]; omega
      simp [go_sem, q, hd, h1, hw, bf' hp0, nt' h3, h4]
     ·by_cases h5 : (57 : Int) < (b.toNat : Int)
      ·have hw : wordB b = false := by simp [wordB, lowerB, digitB]; omega
       simp [go_sem, q, hd, h1, hw, bf' hp0, nt' h3, h4, h5]
      ·have hw : wordB b = true := by simp [wordB, lowerB, digitB]; omega
       simp [go_sem, q, hd, h1, hw, bf' hp0, nt' h3, h4, h5]
       simpa using ih
  ·obtain ⟨d1, d2, he, hd⟩ := dec_hi' (p := p) (r := r) hb
   have hw : wordB b = false := by simp [wordB, lowerB, digitB]; omega
   have h1 : (97 : Int) ≤ (d1 : Int) := by omega
   have h2 : ¬ (d1 : Int) ≤ 122 := by omega
   have h3 : ¬ (d1 : Int) = 45 := by omega
   have h4 : ¬ (d1 : Int) < 48 := by omega
   have h5 : (57 : Int) < (d1 : Int) := by omega
   simp [go_sem, q, he, h1, h2, hw, bf' hp0, nt' h3, h4, h5]
theorem e_pname (s : Bs) : acall mach0 n_printer_name [.str s] [] = some (.ret (.bool (nameOk s)) []) := by
 refine acall_fn rfl (af := a_printer_name) rfl rfl ?_
 cases s with
 | nil => simp [List.replicate, go_sem, nameOk, headIs]
 | cons b r =>
  have ek := e_Keyword (b :: r)
  unfold nameOk
  by_cases h24 : (b :: r).length ≤ 24
  ·have h24' : ¬ (24 : Int) < ((b :: r).length : Int) := by omega
   have h24'' : ¬ (24 : Int) < (r.length : Int) + 1 := by simpa using h24'
   cases hk : isKw (b :: r) with
   | true =>
    rw [hk] at ek
    simp [List.replicate, go_sem, h24'', ek]
   | false =>
    rw [hk] at ek
    have run := name_l r [b] (by simp) (by simp at h24 ⊢; omega)
    have hh : (headIs lowerB (b :: r) && (b :: r).all wordB && decide ((b :: r).length ≤ 24) && !false) = (lowerB b && r.all wordB) := by
     have : decide ((b :: r).length ≤ 24) = true := by simpa using h24
     rw [this]
     simp only [headIs, List.all_cons, Bool.and_true, Bool.not_false]
     cases hlo : lowerB b
     ·rfl
     ·rw [lower_wordB hlo]; simp
    rw [hh]
    simp [List.replicate, go_sem, h24'', ek]
    unfold printer_name_l1b
    by_cases hb : b.toNat < 128
    ·have hd := dec_lo (p := []) (r := r) hb
     simp only [List.nil_append, List.length_nil] at hd
     by_cases h1 : (97 : Int) ≤ (b.toNat : Int)
     ·by_cases h2 : (b.toNat : Int) ≤ 122
      ·have hw : lowerB b = true := by simp [lowerB]; omega
       simp [go_sem, hd, h1, h2, hw]
       simpa using run
      ·have hw : lowerB b = false := by simp [lowerB]; omega
       simp [go_sem, hd, h1, h2, hw]
     ·have hw : lowerB b = false := by simp [lowerB]; omega
      simp [go_sem, hd, h1, hw]
    ·obtain ⟨d1, d2, he, hd⟩ := dec_hi' (p := []) (r := r) hb
     simp only [List.nil_append, List.length_nil] at he
     have hw : lowerB b = false := by simp [lowerB]; omega
     have h1 : (97 : Int) ≤ (d1 : Int) := by omega
     have h2 : ¬ (d1 : Int) ≤ 122 := by omega
     simp [go_sem, he, h1, h2, hw]
  ·have h24' : (24 : Int) < ((b :: r).length : Int) := by omega
   have h24'' : (24 : Int) < (r.length : Int) + 1 := by simpa using h24'
   have hd : decide ((b :: r).length ≤ 24) = false := by simpa using h24
   rw [hd]
   simp [List.replicate, go_sem, h24'']
theorem e_prnum (n : Int) : acall mach0 n_printer_number [.int .i64 n] [] = some (.ret (.bool (decide (0 ≤ n ∧ n ≤ mostN))) []) := by
 refine acall_fn rfl (af := a_printer_number) rfl rfl ?_
 by_cases h1 : 0 ≤ n
 ·by_cases h2 : n ≤ 9999999999999999
  ·simp [List.replicate, go_sem, h1, h2, mostN]
  ·simp [List.replicate, go_sem, h1, h2, mostN]
 ·simp [List.replicate, go_sem, h1]
theorem e_nameOrNone (s : Bs) : acall mach0 n_printer_nameOrNone [.str s] [] = some (.ret (.bool (s.isEmpty || nameOk s)) []) := by
 refine acall_fn rfl (af := a_printer_nameOrNone) rfl rfl ?_
 have e := e_pname s
 cases s with
 | nil => simp [List.replicate, go_sem]
 | cons b r => simp [List.replicate, go_sem, e]
theorem e_anyName (s : Bs) : acall mach0 n_printer_anyName [.str s] [] = some (.ret (.str (anyB s)) []) := by
 refine acall_fn rfl (af := a_printer_anyName) rfl rfl ?_
 cases s with
 | nil => simp [List.replicate, go_sem, anyB, kAny]
 | cons b r => simp [List.replicate, go_sem, anyB]
theorem pref_l2 : ∀ (r p : Bs) (l : List V) (i : Nat) (n : Int) (k : List It) (res : Rt), (p ++ r).length ≤ 1000000 →
  (Run mach0 (.c printer_prefixes_k1b :: k) .norm ⟨(.sl false 1 l :: .undef :: .undef :: .undef :: .undef :: .undef :: .undef :: .sl false 1 l :: .int .i64 n :: .int .i64 i :: .undef :: .undef :: .undef :: .undef :: .undef :: .undef :: .undef :: .undef :: .undef :: .undef :: .undef :: .undef :: .undef :: .undef :: .undef :: .undef :: .undef :: .undef :: .undef :: .undef :: .undef :: .undef :: .undef :: .undef :: .undef :: []), []⟩ (FinQ [.tmp 2] 0 res)) → (hc : r.all digitB = true) →
  Run mach0 (.c printer_prefixes_l1b :: .lp printer_prefixes_l1 :: .endB 2 :: .endB 1 :: .c printer_prefixes_k1 :: k) .norm
   ⟨(.sl false 1 l :: .undef :: .undef :: .undef :: .undef :: .undef :: .undef :: .sl false 1 l :: .int .i64 n :: .int .i64 i :: .undef :: .undef :: .undef :: .undef :: .undef :: .undef :: .undef :: .undef :: .undef :: .undef :: .undef :: .iter (p ++ r) p.length :: .undef :: .undef :: .undef :: .undef :: .undef :: .undef :: .undef :: .undef :: .undef :: .undef :: .undef :: .undef :: .undef :: []), []⟩ (FinQ [.tmp 2] 0 res)
 | [], p, l, i, n, k, res, hl, hk, hc => by
  unfold printer_prefixes_l1b
  simp [go_sem, printer_prefixes_k1]
  exact hk
 | b :: r, p, l, i, n, k, res, hl, hk, hc => by
  simp only [List.all_cons, Bool.and_eq_true] at hc
  have ih := pref_l2 r (p ++ [b]) l i n k res (by simpa using hl) hk hc.2
  simp only [List.append_assoc, List.singleton_append, List.length_append, List.length_cons, List.length_nil, Nat.zero_add] at ih
  have q : p.length < p.length + (r.length + 1) := by omega
  have hb : 48 ≤ b.toNat ∧ b.toNat ≤ 57 := by simpa [digitB] using hc.1
  have hd := dec_lo (p := p) (r := r) (b := b) (by omega)
  have h1 : ¬ (b.toNat : Int) < 48 := by omega
  have h2 : ¬ (57 : Int) < (b.toNat : Int) := by omega
  unfold printer_prefixes_l1b
  simp [go_sem, q, hd, h1, h2]
  simpa using ih
theorem pref_l3 : ∀ (r p : Bs) (l : List V) (i : Nat) (n : Int), (p ++ r).length ≤ 1000000 → r.all digitB = false →
  Run mach0 (.c printer_prefixes_l1b :: .lp printer_prefixes_l1 :: .endB 2 :: .endB 1 :: .c printer_prefixes_k1 :: .lp printer_prefixes_l2 :: .endB 0 :: .c printer_prefixes_k2 :: []) .norm
   ⟨(.sl false 1 l :: .undef :: .undef :: .undef :: .undef :: .undef :: .undef :: .sl false 1 l :: .int .i64 n :: .int .i64 i :: .undef :: .undef :: .undef :: .undef :: .undef :: .undef :: .undef :: .undef :: .undef :: .undef :: .undef :: .iter (p ++ r) p.length :: .undef :: .undef :: .undef :: .undef :: .undef :: .undef :: .undef :: .undef :: .undef :: .undef :: .undef :: .undef :: .undef :: []), []⟩ (FinQ [.tmp 2] 0 (.ret (.bool false) []))
 | [], p, l, i, n, hl, hc => by cases hc
 | b :: r, p, l, i, n, hl, hc => by
  have q : p.length < p.length + (r.length + 1) := by omega
  by_cases hb : digitB b = true
  ·simp only [List.all_cons, hb, Bool.true_and] at hc
   have ih := pref_l3 r (p ++ [b]) l i n (by simpa using hl) hc
   simp only [List.append_assoc, List.singleton_append, List.length_append, List.length_cons, List.length_nil, Nat.zero_add] at ih
   have hb : 48 ≤ b.toNat ∧ b.toNat ≤ 57 := by simpa [digitB] using hb
   have hd := dec_lo (p := p) (r := r) (b := b) (by omega)
   have h1 : ¬ (b.toNat : Int) < 48 := by omega
   have h2 : ¬ (57 : Int) < (b.toNat : Int) := by omega
   unfold printer_prefixes_l1b
   simp [go_sem, q, hd, h1, h2]
   simpa using ih
  ·have hb' : b.toNat < 48 ∨ 57 < b.toNat := by
    simp only [digitB, Bool.and_eq_true, decide_eq_true_eq] at hb
    omega
   unfold printer_prefixes_l1b
   by_cases h128 : b.toNat < 128
   ·have hd := dec_lo (p := p) (r := r) h128
    by_cases h1 : (b.toNat : Int) < 48
    ·simp [go_sem, q, hd, h1]
    ·have h2 : (57 : Int) < (b.toNat : Int) := by omega
     simp [go_sem, q, hd, h1, h2]
   ·obtain ⟨d1, d2, he, hd⟩ := dec_hi' (p := p) (r := r) h128
    have h1 : ¬ (d1 : Int) < 48 := by omega
    have h2 : (57 : Int) < (d1 : Int) := by omega
    simp [go_sem, q, he, h1, h2]
def prefOkB (p : Bs) : Bool := p.all digitB && !p.isEmpty && decide (p.length ≤ 16)
theorem pref_l (l : List Bs) (hn : l.length ≤ 1000000) : ∀ (l2 l1 : List Bs), l1 ++ l2 = l →
  Run mach0 (.c printer_prefixes_l2b :: .lp printer_prefixes_l2 :: .endB 0 :: .c printer_prefixes_k2 :: []) .norm
   ⟨(.sl false 1 (l.map V.str) :: .undef :: .undef :: .undef :: .undef :: .undef :: .undef :: .sl false 1 (l.map V.str) :: .int .i64 l.length :: .int .i64 l1.length :: .undef :: .undef :: .undef :: .undef :: .undef :: .undef :: .undef :: .undef :: .undef :: .undef :: .undef :: .undef :: .undef :: .undef :: .undef :: .undef :: .undef :: .undef :: .undef :: .undef :: .undef :: .undef :: .undef :: .undef :: .undef :: []), []⟩ (FinQ [.tmp 2] 0 (.ret (.bool (l2.all prefOkB && !l.isEmpty)) []))
 | [], l1, he => by
  have q : ¬ ((l1.length : Int) < l.length) := by rw [← he]; simp
  unfold printer_prefixes_l2b
  simp [go_sem, q, printer_prefixes_k2]
  cases l with
  | nil => simp [go_sem, printer_prefixes_k2b]
  | cons a m =>
   have h0 : (0 : Int) < (m.length : Int) + 1 := by omega
   simp [go_sem, printer_prefixes_k2b, h0]
 | a :: l2, l1, he => by
  have ih := pref_l l hn l2 (l1 ++ [a]) (by rw [← he]; simp)
  have len : l.length = l1.length + (l2.length + 1) := by rw [← he]; simp
  have q : (l1.length : Int) < l.length := by omega
  have q' : l1.length < l.length := by omega
  have w : IntKind.wrap .i64 ((l1.length : Int) + 1) = l1.length + 1 := wrap_i64 (by omega)
  have hnth : nth (l.map V.str) l1.length = .str a := by rw [← he]; exact nth_strs _ _ _
  simp only [List.length_append, List.length_cons, List.length_nil, Nat.zero_add] at ih
  unfold printer_prefixes_l2b
  by_cases h0 : a = []
  ·subst h0
   have hp : prefOkB [] = false := rfl
   simp only [List.all_cons, hp, Bool.false_and]
   simp [go_sem, q, q', hnth]
  ·have h0' : (a == []) = false := by simpa using h0
   by_cases h16 : (16 : Int) < (a.length : Int)
   ·have hp : prefOkB a = false := by
     have : ¬ a.length ≤ 16 := by omega
     simp [prefOkB, this]
    simp only [List.all_cons, hp, Bool.false_and]
    simp [go_sem, q, q', hnth, h0', h16]
   ·have h16n : a.length ≤ 16 := by omega
    by_cases hd : a.all digitB = true
    ·have hp : prefOkB a = true := by
      simp only [prefOkB, hd, h16n, decide_true, Bool.true_and, Bool.and_true]
      cases a with
      | nil => exact absurd rfl h0
      | cons b r => rfl
     simp only [List.all_cons, hp, Bool.true_and]
     have run := pref_l2 a [] (l.map V.str) l1.length l.length (.lp printer_prefixes_l2 :: .endB 0 :: .c printer_prefixes_k2 :: []) (.ret (.bool (l2.all prefOkB && !l.isEmpty)) []) (by simp; omega) (by
      unfold printer_prefixes_k1b
      simp [go_sem, w]
      simpa using ih) hd
     simp [go_sem, q, q', hnth, h0', h16]
     simpa using run
    ·have hd : a.all digitB = false := by simpa using hd
     have hp : prefOkB a = false := by simp only [prefOkB, hd, Bool.false_and]
     simp only [List.all_cons, hp, Bool.false_and]
     have run := pref_l3 a [] (l.map V.str) l1.length l.length (by simp; omega) hd
     simp [go_sem, q, q', hnth, h0', h16]
     simpa using run
theorem e_prefixes (l : List Bs) (hn : l.length ≤ 1000000) : acall mach0 n_printer_prefixes [.sl false 1 (l.map V.str)] [] = some (.ret (.bool (l.all prefOkB && !l.isEmpty)) []) := by
 have run := pref_l l hn l [] rfl
 refine acall_fn rfl (af := a_printer_prefixes) rfl rfl ?_
 simp [List.replicate, go_sem]
 simpa using run
end Go.Am
namespace Go.Am
open Go Go.Pu
theorem e_operands (op : Int) : acall mach0 n_printer_operands [.int .i64 op] [] = some (.ret (.int .i64 (arity op)) []) := by
 refine acall_fn rfl (af := a_printer_operands) rfl rfl ?_
 unfold arity
 by_cases h1 : op = 1
 ·simp [List.replicate, go_sem, h1]
 by_cases h2 : op = 2
 ·simp [List.replicate, go_sem, h2]
 by_cases h3 : op = 3
 ·simp [List.replicate, go_sem, h3]
 by_cases h4 : op = 4
 ·simp [List.replicate, go_sem, h4]
 by_cases h5 : 4 < op
 ·by_cases h6 : op < 16
  ·simp [List.replicate, go_sem, h1, h2, h3, h4, bf' h1, bf' h2, bf' h3, bf' h4, h5, h6]
  ·simp [List.replicate, go_sem, h1, h2, h3, h4, bf' h1, bf' h2, bf' h3, bf' h4, h5, h6]
 ·simp [List.replicate, go_sem, h1, h2, h3, h4, bf' h1, bf' h2, bf' h3, bf' h4, h5]
theorem e_pattr (s : List UInt8) : acall mach0 n_printer_attribute [.str s] [] = some (.ret (.bool (isAttr s)) []) := by
 refine acall_fn rfl (af := a_printer_attribute) rfl rfl ?_
 unfold isAttr attrs
 by_cases h0 : s = [107, 105, 110, 100]
 ·subst h0; simp [List.replicate, go_sem]
 by_cases h1 : s = [117, 110, 105, 116, 115]
 ·subst h1; simp [List.replicate, go_sem]
 by_cases h2 : s = [119, 101, 101, 107, 100, 97, 121]
 ·subst h2; simp [List.replicate, go_sem]
 by_cases h3 : s = [109, 105, 110, 117, 116, 101]
 ·subst h3; simp [List.replicate, go_sem]
 by_cases h4 : s = [116, 111, 116, 97, 108]
 ·subst h4; simp [List.replicate, go_sem]
 by_cases h5 : s = [115, 112, 101, 110, 116]
 ·subst h5; simp [List.replicate, go_sem]
 by_cases h6 : s = [122, 111, 110, 101]
 ·subst h6; simp [List.replicate, go_sem]
 by_cases h7 : s = [98, 97, 110, 100]
 ·subst h7; simp [List.replicate, go_sem]
 by_cases h8 : s = [102, 97, 109, 105, 108, 121]
 ·subst h8; simp [List.replicate, go_sem]
 simp [List.replicate, go_sem, h0, h1, h2, h3, h4, h5, h6, h7, h8]
theorem e_pstrength (op : Int) : acall mach0 n_printer_strength [.int .i64 op] [] = some (.ret (.int .i64 (strength op)) []) := by
 refine acall_fn rfl (af := a_printer_strength) rfl rfl ?_
 unfold strength
 by_cases h6 : op = 6
 ·subst h6; simp [List.replicate, go_sem]
 by_cases h5 : op = 5
 ·subst h5; simp [List.replicate, go_sem]
 by_cases h4 : op = 4
 ·subst h4; simp [List.replicate, go_sem]
 by_cases h7 : op = 7
 ·subst h7; simp [List.replicate, go_sem]
 by_cases h8 : op = 8
 ·subst h8; simp [List.replicate, go_sem]
 by_cases h9 : op = 9
 ·subst h9; simp [List.replicate, go_sem]
 by_cases h10 : op = 10
 ·subst h10; simp [List.replicate, go_sem]
 by_cases h11 : op = 11
 ·subst h11; simp [List.replicate, go_sem]
 by_cases h12 : op = 12
 ·subst h12; simp [List.replicate, go_sem]
 by_cases h13 : op = 13
 ·subst h13; simp [List.replicate, go_sem]
 by_cases h14 : op = 14
 ·subst h14; simp [List.replicate, go_sem]
 by_cases h15 : op = 15
 ·subst h15; simp [List.replicate, go_sem]
 simp [List.replicate, go_sem, h4, h5, h6, h7, h8, h9, h10, h11, h12, h13, h14, h15, bf' h4, bf' h5, bf' h6, bf' h7, bf' h8, bf' h9, bf' h10, bf' h11, bf' h12, bf' h13, bf' h14, bf' h15]
theorem e_sign (op : Int) (h1 : 4 < op) (h2 : op < 16) : acall mach0 n_printer_sign [.int .i64 op] [] = some (.ret (.str (signT op).src) []) := by
 have : op = 5 ∨ op = 6 ∨ op = 7 ∨ op = 8 ∨ op = 9 ∨ op = 10 ∨ op = 11 ∨ op = 12 ∨ op = 13 ∨ op = 14 ∨ op = 15 := by omega
 rcases this with rfl | rfl | rfl | rfl | rfl | rfl | rfl | rfl | rfl | rfl | rfl <;> exact (acall_iff _).2 ⟨60, by kernel_rfl⟩
theorem e_pkind (k : Int) (h1 : 1 ≤ k) (h2 : k ≤ 4) : acall mach0 n_printer_kind [.int .i64 k] [] = some (.ret (.str (kindW k)) []) := by
 have : k = 1 ∨ k = 2 ∨ k = 3 ∨ k = 4 := by omega
 rcases this with rfl | rfl | rfl | rfl <;> exact (acall_iff _).2 ⟨60, by kernel_rfl⟩
inductive Tl : PE → Prop
 | mk (op num : Int) (text : Bs) (args : List PE) : text.length ≤ 1000000 → args.length ≤ 1000000 → (∀ a ∈ args, Tl a) → Tl (.mk op num text args)
theorem Tl.args {op num : Int} {text : Bs} {args : List PE} (h : Tl (.mk op num text args)) : ∀ a ∈ args, Tl a := by cases h; assumption
theorem exprVs_lenA : ∀ (l : List PE), (exprVs l).length = l.length
 | [] => rfl
 | a :: l => by simp [exprVs, exprVs_lenA l]
theorem nth_exprVsA {a : PE} {l2 : List PE} : ∀ {l1 : List PE}, nth (exprVs (l1 ++ a :: l2)) l1.length = exprV a
 | [] => rfl
 | b :: l1 => by
  simp only [List.cons_append, exprVs, List.length_cons]
  exact nth_exprVsA (l1 := l1)
theorem prb_l (op num : Int) (text : Bs) (args : List PE) (hn : args.length ≤ 1000000) (H : ∀ a ∈ args, acall mach0 n_printer_printableExpr [exprV a] [] = some (.ret (.bool (prb a)) [])) :
    ∀ (l2 l1 : List PE), l1 ++ l2 = args →
    Run mach0 (.c printer_printableExpr_l1b :: .lp printer_printableExpr_l1 :: .endB 1 :: .c printer_printableExpr_k1 :: []) .norm
      ⟨(.undef :: .undef :: .undef :: .undef :: .undef :: .undef :: .undef :: .undef :: .undef :: .undef :: .undef :: .undef :: .undef :: .undef :: .undef :: .undef :: .undef :: .undef :: .undef :: .undef :: .undef :: .undef :: .undef :: .undef :: .undef :: .undef :: .undef :: .undef :: .undef :: .undef :: .undef :: .undef :: .undef :: .undef :: .undef :: .undef :: .undef :: .undef :: .undef :: .undef :: .undef :: .undef :: .undef :: .undef :: .undef :: .undef :: .undef :: .undef :: .undef :: .undef :: .undef :: .undef :: .undef :: .undef :: .undef :: .undef :: .undef :: .undef :: .undef :: .sl false 4 (exprVs args) :: .int .i64 args.length :: .int .i64 l1.length :: .undef :: .undef :: .undef :: .undef :: .undef :: .undef :: .undef :: []), []⟩ (FinQ [.tmp 2] 0 (.ret (.bool (prbs l2)) []))
  | [], l1, he => by
    have q : ¬ ((l1.length : Int) < args.length) := by rw [← he]; simp
    unfold printer_printableExpr_l1b
    simp [go_sem, q, printer_printableExpr_k1]
    simp [go_sem, printer_printableExpr_k1b, prbs]
  | a :: l2, l1, he => by
    have ih := prb_l op num text args hn H l2 (l1 ++ [a]) (by rw [← he]; simp)
    have hl := exprVs_lenA args
    have len : args.length = l1.length + (l2.length + 1) := by rw [← he]; simp
    have q : (l1.length : Int) < args.length := by omega
    have q' : l1.length < args.length := by omega
    have w : IntKind.wrap .i64 ((l1.length : Int) + 1) = l1.length + 1 := wrap_i64 (by omega)
    have hnth : nth (exprVs args) l1.length = exprV a := by rw [← he]; exact nth_exprVsA
    have e := H a (by rw [← he]; simp)
    simp only [List.length_append, List.length_cons, List.length_nil, Nat.zero_add] at ih
    simp only [prbs]
    obtain ⟨op2, num2, text2, args2⟩ := a
    simp only [exprV] at hnth e
    unfold printer_printableExpr_l1b
    cases hp : prb (.mk op2 num2 text2 args2) with
    | true =>
      rw [hp] at e
      simp [go_sem, hl, q, q', hnth, e, w]
      simpa using ih
    | false =>
      rw [hp] at e
      simp [go_sem, hl, q, q', hnth, e, w]
theorem e_printable : ∀ e : PE, Tl e → acall mach0 n_printer_printableExpr [exprV e] [] = some (.ret (.bool (prb e)) []) := by
 refine PE.ind ?_
 intro op num text args ih hT
 cases hT with
 | mk _ _ _ _ ht hn hN =>
  have run := prb_l op num text args hn (fun a ha => ih a ha (hN a ha)) args [] rfl
  have hl := exprVs_lenA args
  have eo := e_operands op
  have en := e_prnum num
  have eq := e_Quote text ht
  have ea := e_pattr text
  have em := e_pname text
  have hz : (text == []) = text.isEmpty := by cases text <;> rfl
  have hz' : (text != []) = !text.isEmpty := by cases text <;> rfl
  refine acall_fn rfl (af := a_printer_printableExpr) rfl rfl ?_
  simp only [exprV, prb]
  by_cases har : (args.length : Int) = arity op
  ·have hd : decide ((args.length : Int) = arity op) = true := by simpa using har
   rw [hd, Bool.true_and]
   rw [← har] at eo
   by_cases h1 : op = 1
   ·subst h1
    rw [if_pos rfl]
    cases hx : decide (0 ≤ num ∧ num ≤ (mostN : Int)) with
    | true =>
     rw [hx] at en
     simp [List.replicate, go_sem, hl, eo, en]
    | false =>
     rw [hx] at en
     simp [List.replicate, go_sem, hl, eo, en]
   ·rw [if_neg h1]
    by_cases h2 : op = 2
    ·subst h2
     rw [if_pos rfl]
     by_cases h0 : num = 0
     ·subst h0
      simp [List.replicate, go_sem, hl, eo, eq]
      cases quote text <;> rfl
     ·have hd0 : decide (num = 0) = false := by simpa using h0
      rw [hd0, Bool.false_and]
      simp [List.replicate, go_sem, hl, eo, bf' h0]
    ·rw [if_neg h2]
     by_cases h3 : op = 3
     ·subst h3
      rw [if_pos rfl]
      by_cases h0 : num = 0
      ·subst h0
       cases hat : isAttr text with
       | true =>
        rw [hat] at ea
        simp [List.replicate, go_sem, hl, eo, ea]
       | false =>
        rw [hat] at ea
        simp [List.replicate, go_sem, hl, eo, ea, em]
      ·have hd0 : decide (num = 0) = false := by simpa using h0
       rw [hd0, Bool.false_and]
       simp [List.replicate, go_sem, hl, eo, bf' h0]
     ·rw [if_neg h3]
      by_cases h0 : num = 0
      ·subst h0
       cases text with
       | nil =>
        simp only [decide_true, List.isEmpty_nil, Bool.true_and]
        simp [List.replicate, go_sem, hl, eo, bf' h1, bf' h2, bf' h3]
        simpa using run
       | cons b t =>
        simp [List.replicate, go_sem, hl, eo, bf' h1, bf' h2, bf' h3]
      ·have hd0 : decide (num = 0) = false := by simpa using h0
       rw [hd0, Bool.false_and]
       simp [List.replicate, go_sem, hl, eo, bf' h1, bf' h2, bf' h3, nt' h0]
  ·have hd : decide ((args.length : Int) = arity op) = false := by simpa using har
   have har' : ¬ arity op = (args.length : Int) := fun h => har h.symm
   rw [hd, Bool.false_and]
   simp [List.replicate, go_sem, hl, eo, nt' har']
end Go.Am
namespace Go.Am
open Go Go.Pu
theorem strength_le (op : Int) : (strength op : Int) ≤ 7 ∧ 1 ≤ (strength op : Int) := by
 have := strength_range (op := op)
 omega
theorem txtE_neg {a : PE} : txtE (neg a) = kNot ++ 32 :: txtO a 3 := by unfold neg; rw [txtE_mk]; simp [txtA_one]
theorem txtE_two {op : Int} {a b : PE} (h1 : 4 < op) : txtE (two op a b) = txtO a (leftS op) ++ 32 :: ((signT op).src ++ 32 :: txtO b (rightS op)) := by
 unfold two; rw [txtE_mk, if_neg (by omega), if_neg (by omega), if_neg (by omega), if_neg (by omega), txtB_two]
theorem txtO_ge (a : PE) (k : Nat) : (txtE a).length ≤ (txtO a k).length := by
 unfold txtO parB
 split
 ·simp; omega
 ·exact Nat.le_refl _
theorem sign_len (op : Int) : (signT op).src.length ≤ 3 := by
 unfold signT
 repeat' split
 all_goals decide
theorem e_operandO (a : PE) (k : Nat) (hl : (txtE a).length ≤ 100000000000) (h : acall mach0 n_printer_text [exprV a] [] = some (.ret (.str (txtE a)) [])) : acall mach0 n_printer_operand [exprV a, .int .i64 k] [] = some (.ret (.str (txtO a k)) []) := by
 refine acall_fn rfl (af := a_printer_operand) rfl rfl ?_
 have es := e_pstrength a.op
 have ej := e_join false [[40], txtE a, [41]] (by simp) (by simp [sumL]; omega)
 simp only [List.map_cons, List.map_nil, List.flatten_cons, List.flatten_nil, List.append_nil] at ej
 unfold txtO parB PE.str
 obtain ⟨op, num, text, args⟩ := a
 simp only [PE.op] at es ⊢
 simp only [exprV] at h ⊢
 generalize txtE (.mk op num text args) = x at *
 by_cases hk : strength op < k
 ·have hk' : (strength op : Int) < k := by omega
  simp [List.replicate, go_sem, es, hk, hk', h, ej]
 ·have hk' : ¬ (strength op : Int) < k := by omega
  simp [List.replicate, go_sem, es, hk, hk', h]
theorem e_ptxt : ∀ e : PE, prb e = true → (txtE e).length ≤ 100000000000 → acall mach0 n_printer_text [exprV e] [] = some (.ret (.str (txtE e)) []) := by
 refine prb_ind ?_ ?_ ?_ ?_ ?_
 ·intro n hn _
  refine acall_fn rfl (af := a_printer_text) rfl rfl ?_
  have e := e_decimal1 n (by unfold mostN at hn; omega)
  have et : txtE (.mk 1 n [] []) = dec n := by rw [txtE_mk]; simp
  rw [et]
  simp [List.replicate, go_sem, exprV, exprVs, e]
 ·intro s h1 h2 _
  refine acall_fn rfl (af := a_printer_text) rfl rfl ?_
  have e := e_Quote s (by omega)
  have et : txtE (.mk 2 0 s []) = quote s := by rw [txtE_mk]; simp
  rw [et]
  simp [List.replicate, go_sem, exprV, exprVs, e]
 ·intro s h _
  refine acall_fn rfl (af := a_printer_text) rfl rfl ?_
  have et : txtE (.mk 3 0 s []) = s := by rw [txtE_mk]; simp
  rw [et]
  simp [List.replicate, go_sem, exprV, exprVs]
 ·intro a ha ih hl
  rw [txtE_neg] at hl ⊢
  simp only [List.length_append, List.length_cons] at hl
  have hg := txtO_ge a 3
  have eo := e_operandO a 3 (by omega) (ih (by omega))
  have ej := e_join false [[110, 111, 116, 32], txtO a 3] (by simp) (by simp [sumL]; omega)
  simp only [List.map_cons, List.map_nil, List.flatten_cons, List.flatten_nil, List.append_nil] at ej
  refine acall_fn rfl (af := a_printer_text) rfl rfl ?_
  obtain ⟨op, num, text, args⟩ := a
  simp only [exprV] at eo
  simp only [neg, exprV, exprVs, kNot]
  generalize txtO (.mk op num text args) 3 = x at *
  simp at eo ej
  simp [List.replicate, go_sem, eo, ej]
 ·intro op a b h4 h16 ha hb iha ihb hl
  rw [txtE_two h4] at hl ⊢
  simp only [List.length_append, List.length_cons] at hl
  have hg1 := txtO_ge a (leftS op)
  have hg2 := txtO_ge b (rightS op)
  have hs3 := sign_len op
  have eo1 := e_operandO a (leftS op) (by omega) (iha (by omega))
  have eo2 := e_operandO b (rightS op) (by omega) (ihb (by omega))
  have es := e_pstrength op
  have eg := e_sign op h4 h16
  have ej := e_join true [txtO a (leftS op), [32], (signT op).src, [32], txtO b (rightS op)] (by simp) (by simp [sumL]; omega)
  simp only [List.map_cons, List.map_nil, List.flatten_cons, List.flatten_nil, List.append_nil] at ej
  have hr := strength_le op
  refine acall_fn rfl (af := a_printer_text) rfl rfl ?_
  have n1 : ¬ op = 1 := by omega
  have n2 : ¬ op = 2 := by omega
  have n3 : ¬ op = 3 := by omega
  have n4 : ¬ op = 4 := by omega
  have w1 : IntKind.wrap .i64 ((strength op : Int) + 1) = (strength op : Int) + 1 := wrap_i64 (by omega)
  obtain ⟨opa, numa, texta, argsa⟩ := a
  obtain ⟨opb, numb, textb, argsb⟩ := b
  simp only [exprV] at eo1 eo2
  simp only [two, exprV, exprVs]
  by_cases hc : strength op = 4
  ·have l5 : leftS op = 5 := by unfold leftS; rw [if_pos hc]
   have r5 : rightS op = 5 := by unfold rightS; rw [if_pos hc]
   simp only [l5, r5] at eo1 eo2 ej ⊢
   rw [hc] at es
   generalize txtO (.mk opa numa texta argsa) 5 = x at *
   generalize txtO (.mk opb numb textb argsb) 5 = y at *
   simp at eo1 eo2 es ej
   simp [List.replicate, go_sem, bf' n1, bf' n2, bf' n3, bf' n4, es, eo1, eo2, eg, ej]
  ·have l5 : leftS op = strength op := by unfold leftS; rw [if_neg hc]
   have r5 : rightS op = strength op + 1 := by unfold rightS; rw [if_neg hc]
   simp only [l5, r5] at eo1 eo2 ej ⊢
   have hc' : ¬ (strength op : Int) = 4 := by omega
   generalize txtO (.mk opa numa texta argsa) (strength op) = x at *
   generalize txtO (.mk opb numb textb argsb) (strength op + 1) = y at *
   simp at eo1 eo2 es ej
   simp [List.replicate, go_sem, bf' n1, bf' n2, bf' n3, bf' n4, bf' hc', nt' hc', w1, es, eo1, eo2, eg, ej]
def PExprV (e : PE) : V := if prb e then (if 65536 < (txtE e).length then .tup [.str [], .int .i64 5] else .tup [.str (txtE e), .int .i64 0]) else .tup [.str [], .int .i64 8]
theorem e_PExpr (e : PE) (ht : Tl e) (hl : prb e = true → (txtE e).length ≤ 100000000000) : acall mach0 n_printer_Expr [exprV e] [] = some (.ret (PExprV e) []) := by
 have ep := e_printable e ht
 refine acall_fn rfl (af := a_printer_Expr) rfl rfl ?_
 unfold PExprV
 cases hp : prb e with
 | false =>
  rw [hp] at ep
  obtain ⟨op, num, text, args⟩ := e
  simp only [exprV] at ep ⊢
  simp [List.replicate, go_sem, ep]
 | true =>
  rw [hp] at ep
  have et := e_ptxt e hp (hl hp)
  rw [if_pos rfl]
  obtain ⟨op, num, text, args⟩ := e
  simp only [exprV] at ep et ⊢
  generalize txtE (.mk op num text args) = x at *
  by_cases h : 65536 < x.length
  ·have h' : (65536 : Int) < x.length := by omega
   simp [List.replicate, go_sem, ep, et, h, h']
  ·have h' : ¬ (65536 : Int) < x.length := by omega
   simp [List.replicate, go_sem, ep, et, h, h']
end Go.Am
namespace Go.Am
open Go Go.Pu
theorem e_pclock (m : Nat) (h : m ≤ 1440) : acall mach0 n_printer_clock [.int .i64 m] [] = some (.ret (.str (minuteB m)) []) := by
 refine acall_fn rfl (af := a_printer_clock) rfl rfl ?_
 have e1 := e_decimal2 (m / 60) (by omega)
 have e2 := e_decimal2 (m % 60) (by omega)
 have t1 : (m : Int).tdiv 60 = ((m / 60 : Nat) : Int) := rfl
 have t2 : (m : Int).tmod 60 = ((m % 60 : Nat) : Int) := rfl
 have w1 : IntKind.wrap .i64 ((m / 60 : Nat) : Int) = ((m / 60 : Nat) : Int) := wrap_i64 (by omega)
 have hl1 : (k2 ((m / 60 : Nat) : Int)).length = 2 := digs_length 2 _
 have hl2 : (k2 ((m % 60 : Nat) : Int)).length = 2 := digs_length 2 _
 have ej := e_join false [k2 ((m / 60 : Nat) : Int), [58], k2 ((m % 60 : Nat) : Int)] (by simp) (by simp only [sumL, hl1, hl2, List.length_cons, List.length_nil]; omega)
 simp only [List.map_cons, List.map_nil, List.flatten_cons, List.flatten_nil, List.append_nil] at ej
 have hm : minuteB (m : Int) = k2 ((m / 60 : Nat) : Int) ++ ([58] ++ k2 ((m % 60 : Nat) : Int)) := rfl
 rw [hm]
 generalize k2 ((m / 60 : Nat) : Int) = x at *
 generalize k2 ((m % 60 : Nat) : Int) = y at *
 generalize m / 60 = a at *
 generalize m % 60 = b at *
 simp [List.replicate, go_sem, t1, t2, w1, e1, e2, ej]
theorem bit_and : ∀ (d : Fin 256) (i : Fin 8), bits .and .i64 ((d.val : Int).fdiv (2 ^ (min i.val 64))) 1 = ((d.val / 2 ^ i.val % 2 : Nat) : Int) := by decide +kernel
def dayF (d : Nat) : Nat → Nat → Bs → Bs
 | 0, _, acc => acc
 | k + 1, i, acc => dayF d k (i + 1) (if d / 2 ^ i % 2 = 0 then acc else if acc = [] then dayW i else acc ++ 43 :: dayW i)
theorem dayF_all : ∀ d : Fin 256, dayF d.val 8 0 [] = plusB ((bitsOf d.val).map dayW) := by decide +kernel
theorem dayF_len (d : Nat) : ∀ (k i : Nat) (acc : Bs), i + k ≤ 8 → acc.length ≤ 10 * i → (dayF d k i acc).length ≤ 80
 | 0, i, acc, h, h2 => by simp only [dayF]; omega
 | k + 1, i, acc, h, h2 => by
  have hw : (dayW i).length ≤ 7 := by
   have : i < 8 := by omega
   match i, this with
   | 0, _ => decide
   | 1, _ => decide
   | 2, _ => decide
   | 3, _ => decide
   | 4, _ => decide
   | 5, _ => decide
   | 6, _ => decide
   | 7, _ => decide
   | n + 8, h => omega
  simp only [dayF]
  refine dayF_len d k (i + 1) _ (by omega) ?_
  split
  ·omega
  ·split
   ·omega
   ·simp; omega
def dayVs : List V := [.str [109, 111, 110], .str [116, 117, 101], .str [119, 101, 100], .str [116, 104, 117], .str [102, 114, 105], .str [115, 97, 116], .str [115, 117, 110], .str [104, 111, 108, 105, 100, 97, 121]]
theorem dayVs_nth {i : Nat} (h : i < 8) : nth dayVs i = .str (dayW i) := by
 match i, h with
 | 0, _ => rfl
 | 1, _ => rfl
 | 2, _ => rfl
 | 3, _ => rfl
 | 4, _ => rfl
 | 5, _ => rfl
 | 6, _ => rfl
 | 7, _ => rfl
 | n + 8, h => omega
theorem dayVs_len : dayVs.length = 8 := rfl
theorem slots_l1 (d : Nat) (hd : d < 256) (cs cs0 : List V) (n13 n14 : Int) (lo hi : Int) (k : List It) (r : Rt) (R : Bs)
    (hk : Run mach0 (.c printer_slots_k1b :: k) .norm ⟨(.sl false 3 cs0 :: .undef :: .undef :: .sl true 1 cs :: .undef :: .box [.int .i64 d, .int .i64 lo, .int .i64 hi] :: .str R :: .undef :: .undef :: .undef :: .undef :: .undef :: .sl false 3 cs0 :: .int .i64 n13 :: .int .i64 n14 :: .undef :: .undef :: .undef :: .undef :: .undef :: .undef :: .undef :: .undef :: .undef :: .undef :: .undef :: .undef :: .undef :: .undef :: .undef :: .undef :: .undef :: .undef :: .undef :: .undef :: .undef :: .undef :: .undef :: .undef :: .undef :: .undef :: .undef :: .undef :: .undef :: .undef :: .undef :: .undef :: .undef :: .undef :: .undef :: .undef :: .undef :: .undef :: .undef :: []), []⟩ (FinQ [.tmp 2] 0 r)) :
    ∀ (n i : Nat) (acc : Bs), i + n = 8 → acc.length ≤ 10 * i → dayF d n i acc = R →
    Run mach0 (.c printer_slots_l1b :: .lp printer_slots_l1 :: .endB 2 :: .c printer_slots_k1 :: k) .norm
      ⟨(.sl false 3 cs0 :: .undef :: .undef :: .sl true 1 cs :: .undef :: .box [.int .i64 d, .int .i64 lo, .int .i64 hi] :: .str acc :: .undef :: .undef :: .undef :: .undef :: .undef :: .sl false 3 cs0 :: .int .i64 n13 :: .int .i64 n14 :: .undef :: .undef :: .undef :: .agg dayVs :: .int .i64 i :: .undef :: .undef :: .undef :: .undef :: .undef :: .undef :: .undef :: .undef :: .undef :: .undef :: .undef :: .undef :: .undef :: .undef :: .undef :: .undef :: .undef :: .undef :: .undef :: .undef :: .undef :: .undef :: .undef :: .undef :: .undef :: .undef :: .undef :: .undef :: .undef :: .undef :: .undef :: .undef :: .undef :: .undef :: []), []⟩ (FinQ [.tmp 2] 0 r)
  | 0, i, acc, hi8, hl, he => by
    obtain rfl : i = 8 := by omega
    have he : acc = R := he
    subst he
    unfold printer_slots_l1b
    simp [go_sem, printer_slots_k1]
    exact hk
  | n + 1, i, acc, hi8, hl, he => by
    have i8 : i < 8 := by omega
    have hb := bit_and ⟨d, hd⟩ ⟨i, i8⟩
    simp only at hb
    have hw := dayVs_nth i8
    have wl : (dayW i).length ≤ 7 := by
      match i, i8 with
      | 0, _ => decide
      | 1, _ => decide
      | 2, _ => decide
      | 3, _ => decide
      | 4, _ => decide
      | 5, _ => decide
      | 6, _ => decide
      | 7, _ => decide
      | n + 8, h => omega
    have w : IntKind.wrap .i64 ((i : Int) + 1) = i + 1 := wrap_i64 (by omega)
    have he : dayF d n (i + 1) (if d / 2 ^ i % 2 = 0 then acc else if acc = [] then dayW i else acc ++ 43 :: dayW i) = R := he
    have ih := slots_l1 d hd cs cs0 n13 n14 lo hi k r R hk n (i + 1) _ (by omega) (by
      split
      · omega
      · split
        · omega
        · simp; omega) he
    have q : (i : Int) < 8 := by omega
    have i7 : i ≤ 7 := by omega
    generalize hM : d / 2 ^ i % 2 = M at *
    have hM2 : M = 0 ∨ M = 1 := by omega
    unfold printer_slots_l1b
    rcases hM2 with rfl | rfl
    · simp only [if_true] at ih
      simp [go_sem, q, i8, i7, hb, hw, w, dayVs_len]
      simpa using ih
    · rw [if_neg (by decide)] at ih
      by_cases ha : acc = []
      · subst ha
        rw [if_pos rfl] at ih
        have ej := e_join false [[], dayW i] (by simp) (by simp only [sumL, List.length_nil]; omega)
        simp only [List.map_cons, List.map_nil, List.flatten_cons, List.flatten_nil, List.append_nil, List.nil_append] at ej
        simp [go_sem, q, i8, i7, hb, hw, w, dayVs_len, ej]
        simpa using ih
      · rw [if_neg ha] at ih
        have hb' : (acc != []) = true := by simpa using ha
        have ej1 := e_join false [acc, [43]] (by simp) (by simp only [sumL, List.length_nil, List.length_cons]; omega)
        have ej2 := e_join false [acc ++ [43], dayW i] (by simp) (by simp only [sumL, List.length_append, List.length_nil, List.length_cons]; omega)
        simp only [List.map_cons, List.map_nil, List.flatten_cons, List.flatten_nil, List.append_nil] at ej1 ej2
        simp [go_sem, q, i8, i7, hb, hb', hw, w, dayVs_len, ej1, ej2]
        simpa using ih
theorem minute_lenA (n : Int) : (minuteB n).length = 5 := by
 have h : ∀ n, (k2 n).length = 2 := fun n => digs_length 2 _
 simp [minuteB, h]
theorem slots_l2 (z : Nat) (l : List SlotP) (hn : l.length ≤ 100000) (H : ∀ s ∈ l, SlotOk s) : ∀ (l2 l1 : List SlotP), l1 ++ l2 = l →
  Run mach0 (.c printer_slots_l2b :: .lp printer_slots_l2 :: .endB 0 :: .c printer_slots_k3 :: []) .norm
   ⟨(.sl false 3 (l.map slotV) :: .undef :: .undef :: .sl true 1 ((l1.map slotB).map V.str) :: .undef :: .undef :: .undef :: .undef :: .undef :: .undef :: .undef :: .undef :: .sl false 3 (l.map slotV) :: .int .i64 l.length :: .int .i64 l1.length :: .undef :: .undef :: .undef :: .undef :: .undef :: .undef :: .undef :: .undef :: .undef :: .undef :: .undef :: .undef :: .undef :: .undef :: .undef :: .undef :: .undef :: .undef :: .undef :: .undef :: .undef :: .undef :: .undef :: .undef :: .undef :: .undef :: .undef :: .undef :: .undef :: .undef :: .undef :: .undef :: .undef :: .undef :: .undef :: .undef :: .undef :: .undef :: .undef :: []), []⟩ (FinQ [.tmp 2] 0 (.ret (.str (joinB (l.map slotB))) []))
 | [], l1, he => by
  have q : ¬ ((l1.length : Int) < l.length) := by rw [← he]; simp
  rw [List.append_nil] at he
  subst he
  have hs : sumL (l1.map slotB) ≤ 100 * l1.length := by
   have key : ∀ m : List SlotP, (∀ s ∈ m, SlotOk s) → sumL (m.map slotB) ≤ 100 * m.length := by
    intro m
    induction m with
    | nil => intro _; simp [sumL]
    | cons s m ih =>
     intro hm
     have h1 := ih (fun x hx => hm x (by simp [hx]))
     obtain ⟨d1, d2, _⟩ := hm s (by simp)
     have h2 := dayF_len s.days.toNat 8 0 [] (by omega) (by simp)
     have h3 := dayF_all ⟨s.days.toNat, by omega⟩
     simp only at h3
     rw [h3] at h2
     have h4 : (slotB s).length ≤ 100 := by
      simp only [slotB, daysB, List.length_append, List.length_cons, minute_lenA]; omega
     simp only [List.map_cons, sumL, List.length_cons]
     omega
   exact key l1 H
  have el := e_list (l1.map slotB) (by simp; omega) (by omega)
  unfold printer_slots_l2b
  simp [go_sem, q, printer_slots_k3]
  simp only [List.map_map] at el
  simp [go_sem, printer_slots_k3b, el]
 | s :: l2, l1, he => by
  have ih := slots_l2 z l hn H l2 (l1 ++ [s]) (by rw [← he]; simp)
  have len : l.length = l1.length + (l2.length + 1) := by rw [← he]; simp
  have q : (l1.length : Int) < l.length := by omega
  have q' : l1.length < l.length := by omega
  have w : IntKind.wrap .i64 ((l1.length : Int) + 1) = l1.length + 1 := wrap_i64 (by omega)
  have hnth : nth (l.map slotV) l1.length = slotV s := by
   rw [← he]
   clear ih len q q' w hn H he
   induction l1 with
   | nil => rfl
   | cons b l1 ih => exact ih
  obtain ⟨d1, d2, a1, a2, b1, b2⟩ := H s (by rw [← he]; simp)
  obtain ⟨days, lo, hi⟩ := s
  simp only at d1 d2 a1 a2 b1 b2
  obtain ⟨d, rfl⟩ := Int.eq_ofNat_of_zero_le (show 0 ≤ days by omega)
  obtain ⟨a, rfl⟩ := Int.eq_ofNat_of_zero_le a1
  obtain ⟨b, rfl⟩ := Int.eq_ofNat_of_zero_le b1
  have ea := e_pclock a (by omega)
  have eb := e_pclock b (by omega)
  have hD := dayF_all ⟨d, by omega⟩
  simp only at hD
  have hDl := dayF_len d 8 0 [] (by omega) (by simp)
  have ej := e_join true [dayF d 8 0 [], [32], minuteB a, [45], minuteB b] (by simp) (by simp only [sumL, minute_lenA, List.length_nil, List.length_cons]; omega)
  simp only [List.map_cons, List.map_nil, List.flatten_cons, List.flatten_nil, List.append_nil] at ej
  have hsb : slotB ⟨d, a, b⟩ = dayF d 8 0 [] ++ ([32] ++ (minuteB a ++ ([45] ++ minuteB b))) := by
   simp only [slotB, daysB, Int.toNat_natCast, hD]
   simp
  simp only [List.length_append, List.length_cons, List.length_nil, Nat.zero_add, List.map_append, List.map_cons, List.map_nil, hsb] at ih
  have run := slots_l1 d (by omega) ((l1.map slotB).map V.str) (l.map slotV) l.length l1.length a b (.endB 1 :: .c printer_slots_k2 :: .lp printer_slots_l2 :: .endB 0 :: .c printer_slots_k3 :: []) (.ret (.str (joinB (l.map slotB))) []) _ (by
   have o1 : (l1.length + 1) * 16 ≤ 140737488355328 := by omega
   generalize dayF d 8 0 [] = D at *
   generalize minuteB a = ma at *
   generalize minuteB b = mb at *
   unfold printer_slots_k1b
   simp [go_sem, ea, eb, ej, o1, printer_slots_k2]
   simp [go_sem, printer_slots_k2b, w]
   simpa using ih) 8 0 [] rfl (by simp) rfl
  simp only [slotV] at hnth
  unfold printer_slots_l2b
  simp [go_sem, q, q', hnth]
  simpa [dayVs] using run
theorem e_pslots (z : Nat) (l : List SlotP) (hn : l.length ≤ 100000) (H : ∀ s ∈ l, SlotOk s) : acall mach0 n_printer_slots [.sl false (if l = [] then z else 3) (l.map slotV)] [] = some (.ret (.str (slotsB l)) []) := by
 refine acall_fn rfl (af := a_printer_slots) rfl rfl ?_
 by_cases h0 : l = []
 ·subst h0
  simp [List.replicate, go_sem, slotsB, kOther]
 ·have run := slots_l2 z l hn H l [] rfl
  have h1 : ¬ (l.length : Int) = 0 := by
   intro h; apply h0; exact List.length_eq_zero_iff.1 (by omega)
  unfold slotsB
  rw [if_neg h0, if_neg h0]
  simp [List.replicate, go_sem, bf' h1]
  simpa using run
end Go.Am
namespace Go.Am
open Go Go.Pu
theorem decZ_nat (n : Nat) : decZ (n : Int) = dec n := by simp [decZ]
theorem e_dec {n : Int} (h : numOk n) : acall mach0 n_printer_decimal [.int .i64 n, .int .i64 1] [] = some (.ret (.str (decZ n)) []) := by
 obtain ⟨h1, h2⟩ := h
 obtain ⟨m, rfl⟩ := Int.eq_ofNat_of_zero_le h1
 rw [decZ_nat]
 exact e_decimal1 m (by unfold mostN at h2; omega)
theorem decZ_len {n : Int} (h : numOk n) : (decZ n).length ≤ 16 := by
 obtain ⟨h1, h2⟩ := h
 exact (dec_len (n := n.toNat) (by omega)).1
theorem uptoB_pos {n : Int} (h : n ≠ 0) : uptoB n = [117, 112, 116, 111, 32] ++ (decZ n ++ [32]) := by
 unfold uptoB; rw [if_neg h]; rfl
theorem uptoB_len {n : Int} (h : numOk n) : (uptoB n).length ≤ 22 := by
 have := decZ_len h
 unfold uptoB
 split
 ·simp
 ·simp [kUpto]; omega
theorem tierB_eq (s : StepP) : tierB s = uptoB s.upto ++ ([112, 101, 114, 32] ++ (decZ s.quant ++ ([32, 97, 116, 32] ++ decZ s.price))) := by
 simp [tierB, kPer, kAt]
theorem tierB_len {s : StepP} (h : StepOk s) : (tierB s).length ≤ 62 := by
 have h1 := uptoB_len h.u
 have h2 := decZ_len h.q
 have h3 := decZ_len h.p
 rw [tierB_eq]
 simp only [List.length_append, List.length_cons, List.length_nil]
 omega
theorem any_len {s : Bs} (h : s = [] ∨ nameOk s = true) : (anyB s).length ≤ 24 := by
 unfold anyB
 split
 ·decide
 ·rename_i hn
  rcases h with h | h
  ·exact absurd h hn
  ·simp only [nameOk, Bool.and_eq_true, decide_eq_true_eq] at h; exact h.1.2
theorem kind_lenA {k : Int} (h1 : 1 ≤ k) (h2 : k ≤ 4) : (kindW k).length ≤ 7 := by
 have : k = 1 ∨ k = 2 ∨ k = 3 ∨ k = 4 := by omega
 rcases this with rfl | rfl | rfl | rfl <;> decide
theorem sum_tiers : ∀ m : List StepP, (∀ s ∈ m, StepOk s) → sumL (m.map tierB) ≤ 62 * m.length
 | [], _ => by simp [sumL]
 | s :: m, hm => by
  have h1 := sum_tiers m (fun x hx => hm x (by simp [hx]))
  have h4 := tierB_len (hm s (by simp))
  simp only [List.map_cons, sumL, List.length_cons]
  omega
theorem join_len (l : List Bs) : (joinB l).length ≤ sumL l + 2 * l.length := by
 cases l with
 | nil => simp [joinB]
 | cons b m =>
  have key : ∀ m : List Bs, (m.flatMap (fun b => (44 :: 32 :: b : Bs))).length = sumL m + 2 * m.length := by
   intro m
   induction m with
   | nil => rfl
   | cons c m ih => simp only [List.flatMap_cons, List.length_append, List.length_cons, sumL, ih]; omega
  have e : (joinB (b :: m)).length = b.length + (m.flatMap (fun b => (44 :: 32 :: b : Bs))).length := List.length_append
  rw [e, key, List.length_cons]
  simp only [sumL]
  omega
theorem setupB_eq {n : Int} (h : n ≠ 0) : setupB n = [32, 115, 101, 116, 117, 112, 32] ++ decZ n := by
 unfold setupB; rw [if_neg h]; rfl
theorem rateB_eq (x : RateP) : rateB x = [114, 97, 116, 101, 32] ++ (kindW x.kind ++ ([32, 116, 111, 32] ++ (anyB x.zone ++ ([32, 105, 110, 32] ++ (anyB x.band ++ (setupB x.setup ++ ([32] ++ (joinB (x.steps.map tierB) ++ [32, 59, 10])))))))) := by
 simp [rateB, kRate, kTo, kIn, lineE]
theorem nth_stepV (l1 : List StepP) (s : StepP) (l2 : List StepP) : nth ((l1 ++ s :: l2).map stepV) l1.length = stepV s := by
 induction l1 with
 | nil => rfl
 | cons b l1 ih => exact ih
theorem prrate_l (x : RateP) (hx : RateOk x) (hn : x.steps.length ≤ 100000) : ∀ (l2 l1 : List StepP), l1 ++ l2 = x.steps →
  Run mach0 (.c printer_rate_l1b :: .lp printer_rate_l1 :: .endB 0 :: .c printer_rate_k1 :: []) .norm
   ⟨(.undef :: .rptr (rateV x).cells :: .undef :: .str (setupB x.setup) :: .sl true 1 ((l1.map tierB).map V.str) :: .undef :: .undef :: .undef :: .undef :: .undef :: .undef :: .undef :: .undef :: .undef :: .undef :: .undef :: .undef :: .sl false 3 (x.steps.map stepV) :: .int .i64 x.steps.length :: .int .i64 l1.length :: .undef :: .undef :: .undef :: .undef :: .undef :: .undef :: .undef :: .undef :: .undef :: .undef :: .undef :: .undef :: .undef :: .undef :: .undef :: .undef :: .undef :: .undef :: .undef :: .undef :: .undef :: .undef :: .undef :: .undef :: .undef :: .undef :: .undef :: .undef :: .undef :: .undef :: .undef :: .undef :: .undef :: .undef :: .undef :: .undef :: .undef :: .undef :: []), []⟩ (FinQ [.tmp 2] 0 (.ret (.str (rateB x)) []))
 | [], l1, he => by
  have q : ¬ ((l1.length : Int) < x.steps.length) := by rw [← he]; simp
  rw [List.append_nil] at he
  have hs := sum_tiers x.steps hx.steps
  have hj := join_len (x.steps.map tierB)
  rw [List.length_map] at hj
  have el := e_list (x.steps.map tierB) (by simp; omega) (by omega)
  have ek := e_pkind x.kind hx.k1 hx.k2
  have ez := e_anyName x.zone
  have eb := e_anyName x.band
  have l1' := any_len hx.zone
  have l2' := any_len hx.band
  have l3' := kind_lenA hx.k1 hx.k2
  have l4' : (setupB x.setup).length ≤ 30 := by
   have := decZ_len hx.setup
   unfold setupB
   split
   ·simp
   ·simp [kSetup]; omega
  have ej := e_join true [[114, 97, 116, 101, 32], kindW x.kind, [32, 116, 111, 32], anyB x.zone, [32, 105, 110, 32], anyB x.band, setupB x.setup, [32], joinB (x.steps.map tierB), [32, 59, 10]] (by simp) (by simp only [sumL, List.length_cons, List.length_nil]; omega)
  simp only [List.map_cons, List.map_nil, List.flatten_cons, List.flatten_nil, List.append_nil] at ej
  rw [rateB_eq]
  subst he
  simp only [rateV, V.cells]
  generalize joinB (x.steps.map tierB) = jj at *
  generalize kindW x.kind = kk at *
  generalize anyB x.zone = zz at *
  generalize anyB x.band = bb at *
  generalize setupB x.setup = ss at *
  unfold printer_rate_l1b
  simp [go_sem, q, printer_rate_k1]
  simp only [List.map_map] at el
  simp [go_sem, printer_rate_k1b, ek, ez, eb, el, ej]
 | s :: l2, l1, he => by
  have ih := prrate_l x hx hn l2 (l1 ++ [s]) (by rw [← he]; simp)
  have len : x.steps.length = l1.length + (l2.length + 1) := by rw [← he]; simp
  have q : (l1.length : Int) < x.steps.length := by omega
  have q' : l1.length < x.steps.length := by omega
  have w : IntKind.wrap .i64 ((l1.length : Int) + 1) = l1.length + 1 := wrap_i64 (by omega)
  have hnth : nth (x.steps.map stepV) l1.length = stepV s := by rw [← he]; exact nth_stepV _ _ _
  have hok := hx.steps s (by rw [← he]; simp)
  have eq := e_dec hok.q
  have ep := e_dec hok.p
  have o1 : (l1.length + 1) * 16 ≤ 140737488355328 := by omega
  have lq := decZ_len hok.q
  have lp := decZ_len hok.p
  have lu := uptoB_len hok.u
  have ej := e_join true [uptoB s.upto, [112, 101, 114, 32], decZ s.quant, [32, 97, 116, 32], decZ s.price] (by simp) (by simp only [sumL, List.length_cons, List.length_nil]; omega)
  simp only [List.map_cons, List.map_nil, List.flatten_cons, List.flatten_nil, List.append_nil] at ej
  have ht := tierB_eq s
  simp only [List.length_append, List.length_cons, List.length_nil, Nat.zero_add, List.map_append, List.map_cons, List.map_nil, ht] at ih
  simp only [stepV] at hnth
  simp only [rateV, V.cells] at ih ⊢
  generalize setupB x.setup = ss at *
  unfold printer_rate_l1b
  by_cases h0 : s.upto = 0
  ·have hu : uptoB s.upto = [] := by rw [h0]; rfl
   rw [hu] at ej ih
   simp only [List.nil_append] at ej ih
   have h0' : ¬ 0 < s.upto := by omega
   generalize decZ s.quant = dq at *
   generalize decZ s.price = dp at *
   simp [go_sem, q, q', hnth, h0', eq, ep, ej, o1, w]
   simpa using ih
  ·have hu := uptoB_pos h0
   rw [hu] at ej ih
   have h0' : 0 < s.upto := by have := hok.u.1; omega
   have eu := e_dec hok.u
   have lu2 := decZ_len hok.u
   have ej2 := e_join false [[117, 112, 116, 111, 32], decZ s.upto, [32]] (by simp) (by simp only [sumL, List.length_cons, List.length_nil]; omega)
   simp only [List.map_cons, List.map_nil, List.flatten_cons, List.flatten_nil, List.append_nil] at ej2
   generalize decZ s.upto = du at *
   generalize decZ s.quant = dq at *
   generalize decZ s.price = dp at *
   simp at ej ej2 ih
   simp [go_sem, q, q', hnth, h0', eq, ep, eu, ej, ej2, o1, w]
   simpa using ih
theorem e_prate (x : RateP) (hx : RateOk x) (hn : x.steps.length ≤ 100000) : acall mach0 n_printer_rate [rateV x] [] = some (.ret (.str (rateB x)) []) := by
 have run := prrate_l x hx hn x.steps [] rfl
 refine acall_fn rfl (af := a_printer_rate) rfl rfl ?_
 simp only [rateV, V.cells] at run ⊢
 by_cases h0 : x.setup = 0
 ·have hu : setupB x.setup = [] := by rw [h0]; rfl
  rw [hu] at run
  have h0' : ¬ 0 < x.setup := by omega
  simp [List.replicate, go_sem, h0']
  simpa using run
 ·have hu := setupB_eq h0
  rw [hu] at run
  have h0' : 0 < x.setup := by have := hx.setup.1; omega
  have eu := e_dec hx.setup
  have lu2 := decZ_len hx.setup
  have ej2 := e_join false [[32, 115, 101, 116, 117, 112, 32], decZ x.setup] (by simp) (by simp only [sumL, List.length_cons, List.length_nil]; omega)
  simp only [List.map_cons, List.map_nil, List.flatten_cons, List.flatten_nil, List.append_nil] at ej2
  generalize decZ x.setup = du at *
  simp at ej2
  simp [List.replicate, go_sem, h0', eu, ej2]
  simpa using run
end Go.Am
namespace Go.Am
open Go Go.Pu
def numOkB (n : Int) : Bool := decide (0 ≤ n ∧ n ≤ mostN)
def slotOkB (s : SlotP) : Bool := decide (1 ≤ s.days ∧ s.days ≤ 255 ∧ 0 ≤ s.lo ∧ s.lo ≤ 1439 ∧ 0 ≤ s.hi ∧ s.hi ≤ 1440)
def stepOkB (s : StepP) : Bool := numOkB s.upto && numOkB s.quant && numOkB s.price
def zoneOkB (z : ZoneP) : Bool := nameOk z.name && (z.pref.all prefOkB && !z.pref.isEmpty)
def bandOkB (b : BandP) : Bool := nameOk b.name && b.slots.all slotOkB
def rateOkB (x : RateP) : Bool := decide (1 ≤ x.kind ∧ x.kind ≤ 4) && (x.zone.isEmpty || nameOk x.zone) && (x.band.isEmpty || nameOk x.band) && numOkB x.setup && !x.steps.isEmpty && x.steps.all stepOkB
def discOkB (d : DiscP) : Bool := nameOk d.name && numOkB d.points && prb d.cond
def wholeB (t : TariffP) : Bool := nameOk t.name && decide (0 ≤ t.start ∧ t.start < 12622780800) && (t.zones.all zoneOkB && (t.bands.all bandOkB && (t.rates.all rateOkB && (t.discs.all discOkB && true))))
theorem isEmpty_ne {α : Type} {l : List α} : (!l.isEmpty) = true ↔ l ≠ [] := by cases l <;> simp
theorem isEmpty_eq {l : Bs} : l.isEmpty = true ↔ l = [] := by cases l <;> simp
theorem numOkB_iff {n : Int} : numOkB n = true ↔ numOk n := by simp [numOkB, numOk]
theorem prefOkB_iff {p : Bs} : prefOkB p = true ↔ prefOk p := by
 unfold prefOkB prefOk
 cases p with
 | nil => simp
 | cons b r =>
  simp only [Bool.and_eq_true, decide_eq_true_eq]
  constructor
  ·intro h; exact ⟨h.1.1, by simp, h.2⟩
  ·intro h; exact ⟨⟨h.1, rfl⟩, h.2.2⟩
theorem slotOkB_iff {s : SlotP} : slotOkB s = true ↔ SlotOk s := by
 simp only [slotOkB, decide_eq_true_eq]
 exact ⟨fun ⟨a, b, c, d, e, f⟩ => ⟨a, b, c, d, e, f⟩, fun ⟨a, b, c, d, e, f⟩ => ⟨a, b, c, d, e, f⟩⟩
theorem stepOkB_iff {s : StepP} : stepOkB s = true ↔ StepOk s := by
 simp only [stepOkB, Bool.and_eq_true, numOkB_iff]
 exact ⟨fun ⟨⟨a, b⟩, c⟩ => ⟨a, b, c⟩, fun ⟨a, b, c⟩ => ⟨⟨a, b⟩, c⟩⟩
theorem all_iff {α : Type} {f : α → Bool} {P : α → Prop} (h : ∀ a, f a = true ↔ P a) {l : List α} : l.all f = true ↔ ∀ a ∈ l, P a := by
 rw [List.all_eq_true]
 exact ⟨fun g a ha => (h a).1 (g a ha), fun g a ha => (h a).2 (g a ha)⟩
theorem zoneOkB_iff {z : ZoneP} : zoneOkB z = true ↔ ZoneOk z := by
 simp only [zoneOkB, Bool.and_eq_true, all_iff (fun _ => prefOkB_iff), isEmpty_ne]
 exact ⟨fun ⟨a, b, c⟩ => ⟨a, c, b⟩, fun ⟨a, b, c⟩ => ⟨a, c, b⟩⟩
theorem bandOkB_iff {b : BandP} : bandOkB b = true ↔ BandOk b := by
 simp only [bandOkB, Bool.and_eq_true, all_iff (fun _ => slotOkB_iff)]
 exact ⟨fun ⟨a, b⟩ => ⟨a, b⟩, fun ⟨a, b⟩ => ⟨a, b⟩⟩
theorem rateOkB_iff {x : RateP} : rateOkB x = true ↔ RateOk x := by
 simp only [rateOkB, Bool.and_eq_true, Bool.or_eq_true, all_iff (fun _ => stepOkB_iff), isEmpty_ne, isEmpty_eq, numOkB_iff, decide_eq_true_eq]
 exact ⟨fun ⟨⟨⟨⟨⟨⟨a, b⟩, c⟩, d⟩, e⟩, f⟩, g⟩ => ⟨a, b, c, d, e, f, g⟩, fun ⟨a, b, c, d, e, f, g⟩ => ⟨⟨⟨⟨⟨⟨a, b⟩, c⟩, d⟩, e⟩, f⟩, g⟩⟩
theorem discOkB_iff {d : DiscP} : discOkB d = true ↔ DiscOk d := by
 simp only [discOkB, Bool.and_eq_true, numOkB_iff]
 exact ⟨fun ⟨⟨a, b⟩, c⟩ => ⟨a, b, c⟩, fun ⟨a, b, c⟩ => ⟨⟨a, b⟩, c⟩⟩
theorem wholeB_iff {t : TariffP} : wholeB t = true ↔ WholeOk t := by
 simp only [wholeB, Bool.and_eq_true, decide_eq_true_eq, all_iff (fun _ => zoneOkB_iff), all_iff (fun _ => bandOkB_iff), all_iff (fun _ => rateOkB_iff), all_iff (fun _ => discOkB_iff), and_true]
 exact ⟨fun ⟨⟨a, b, c⟩, d, e, f, g⟩ => ⟨a, b, c, d, e, f, g⟩, fun ⟨a, b, c, d, e, f, g⟩ => ⟨⟨a, b, c⟩, d, e, f, g⟩⟩
theorem nth_mapA {α : Type} (g : α → V) (l1 : List α) (a : α) (l2 : List α) : nth ((l1 ++ a :: l2).map g) l1.length = g a := by
 induction l1 with
 | nil => rfl
 | cons b l1 ih => exact ih
theorem pslots_l (l : List SlotP) (hn : l.length ≤ 100000) : ∀ (l2 l1 : List SlotP), l1 ++ l2 = l →
  Run mach0 (.c printer_printableSlots_l1b :: .lp printer_printableSlots_l1 :: .endB 0 :: .c printer_printableSlots_k1 :: []) .norm
   ⟨(.sl false 3 (l.map slotV) :: .undef :: .undef :: .undef :: .undef :: .sl false 3 (l.map slotV) :: .int .i64 l.length :: .int .i64 l1.length :: .undef :: .undef :: .undef :: .undef :: .undef :: .undef :: .undef :: .undef :: .undef :: .undef :: .undef :: .undef :: .undef :: .undef :: .undef :: .undef :: .undef :: .undef :: .undef :: .undef :: .undef :: .undef :: .undef :: .undef :: .undef :: .undef :: .undef :: .undef :: .undef :: .undef :: .undef :: .undef :: []), []⟩ (FinQ [.tmp 2] 0 (.ret (.bool (l2.all slotOkB)) []))
 | [], l1, he => by
  have q : ¬ ((l1.length : Int) < l.length) := by rw [← he]; simp
  unfold printer_printableSlots_l1b
  simp [go_sem, q, printer_printableSlots_k1]
  simp [go_sem, printer_printableSlots_k1b]
 | s :: l2, l1, he => by
  have ih := pslots_l l hn l2 (l1 ++ [s]) (by rw [← he]; simp)
  have len : l.length = l1.length + (l2.length + 1) := by rw [← he]; simp
  have q : (l1.length : Int) < l.length := by omega
  have q' : l1.length < l.length := by omega
  have w : IntKind.wrap .i64 ((l1.length : Int) + 1) = l1.length + 1 := wrap_i64 (by omega)
  have hnth : nth (l.map slotV) l1.length = slotV s := by rw [← he]; exact nth_mapA _ _ _ _
  simp only [List.length_append, List.length_cons, List.length_nil, Nat.zero_add] at ih
  obtain ⟨d, lo, hi⟩ := s
  simp only [slotV] at hnth
  simp only [List.all_cons]
  unfold printer_printableSlots_l1b
  by_cases h1 : d < 1
  ·have hf : slotOkB ⟨d, lo, hi⟩ = false := by simp only [slotOkB, decide_eq_false_iff_not]; omega
   simp [go_sem, q, q', hnth, h1, hf]
  by_cases h2 : 255 < d
  ·have hf : slotOkB ⟨d, lo, hi⟩ = false := by simp only [slotOkB, decide_eq_false_iff_not]; omega
   simp [go_sem, q, q', hnth, h1, h2, hf]
  by_cases h3 : lo < 0
  ·have hf : slotOkB ⟨d, lo, hi⟩ = false := by simp only [slotOkB, decide_eq_false_iff_not]; omega
   simp [go_sem, q, q', hnth, h1, h2, h3, hf]
  by_cases h4 : 1439 < lo
  ·have hf : slotOkB ⟨d, lo, hi⟩ = false := by simp only [slotOkB, decide_eq_false_iff_not]; omega
   simp [go_sem, q, q', hnth, h1, h2, h3, h4, hf]
  by_cases h5 : hi < 0
  ·have hf : slotOkB ⟨d, lo, hi⟩ = false := by simp only [slotOkB, decide_eq_false_iff_not]; omega
   simp [go_sem, q, q', hnth, h1, h2, h3, h4, h5, hf]
  by_cases h6 : 1440 < hi
  ·have hf : slotOkB ⟨d, lo, hi⟩ = false := by simp only [slotOkB, decide_eq_false_iff_not]; omega
   simp [go_sem, q, q', hnth, h1, h2, h3, h4, h5, h6, hf]
  have hf : slotOkB ⟨d, lo, hi⟩ = true := by simp only [slotOkB, decide_eq_true_eq]; omega
  rw [hf, Bool.true_and]
  simp [go_sem, q, q', hnth, h1, h2, h3, h4, h5, h6, w]
  simpa using ih
theorem e_printableSlots (z : Nat) (l : List SlotP) (hn : l.length ≤ 100000) : acall mach0 n_printer_printableSlots [.sl false (if l = [] then z else 3) (l.map slotV)] [] = some (.ret (.bool (l.all slotOkB)) []) := by
 refine acall_fn rfl (af := a_printer_printableSlots) rfl rfl ?_
 by_cases h0 : l = []
 ·subst h0
  simp [List.replicate, go_sem]
  unfold printer_printableSlots_l1b
  simp [go_sem, printer_printableSlots_k1]
  simp [go_sem, printer_printableSlots_k1b]
 ·have run := pslots_l l hn l [] rfl
  rw [if_neg h0]
  simp [List.replicate, go_sem]
  simpa using run
theorem prate_l (x : RateP) (hn : x.steps.length ≤ 100000) : ∀ (l2 l1 : List StepP), l1 ++ l2 = x.steps →
  Run mach0 (.c printer_printableRate_l1b :: .lp printer_printableRate_l1 :: .endB 0 :: .c printer_printableRate_k1 :: []) .norm
   ⟨(.undef :: .undef :: .undef :: .undef :: .undef :: .undef :: .undef :: .undef :: .undef :: .undef :: .undef :: .undef :: .undef :: .undef :: .undef :: .undef :: .undef :: .undef :: .undef :: .undef :: .undef :: .undef :: .undef :: .undef :: .undef :: .undef :: .undef :: .undef :: .undef :: .undef :: .undef :: .undef :: .undef :: .undef :: .undef :: .undef :: .undef :: .undef :: .sl false 3 (x.steps.map stepV) :: .int .i64 x.steps.length :: .int .i64 l1.length :: .undef :: .undef :: .undef :: .undef :: .undef :: .undef :: .undef :: .undef :: .undef :: .undef :: .undef :: .undef :: .undef :: .undef :: .undef :: .undef :: .undef :: .undef :: .undef :: .undef :: []), []⟩ (FinQ [.tmp 2] 0 (.ret (.bool (l2.all stepOkB)) []))
 | [], l1, he => by
  have q : ¬ ((l1.length : Int) < x.steps.length) := by rw [← he]; simp
  unfold printer_printableRate_l1b
  simp [go_sem, q, printer_printableRate_k1]
  simp [go_sem, printer_printableRate_k1b]
 | s :: l2, l1, he => by
  have ih := prate_l x hn l2 (l1 ++ [s]) (by rw [← he]; simp)
  have len : x.steps.length = l1.length + (l2.length + 1) := by rw [← he]; simp
  have q : (l1.length : Int) < x.steps.length := by omega
  have q' : l1.length < x.steps.length := by omega
  have w : IntKind.wrap .i64 ((l1.length : Int) + 1) = l1.length + 1 := wrap_i64 (by omega)
  have hnth : nth (x.steps.map stepV) l1.length = stepV s := by rw [← he]; exact nth_mapA _ _ _ _
  simp only [List.length_append, List.length_cons, List.length_nil, Nat.zero_add] at ih
  have e1 : ∀ n, acall mach0 n_printer_number [.int .i64 n] [] = some (.ret (.bool (numOkB n)) []) := e_prnum
  obtain ⟨u, qq, p⟩ := s
  simp only [stepV] at hnth
  simp only [List.all_cons, stepOkB]
  unfold printer_printableRate_l1b
  cases h1 : numOkB u with
  | false => simp [go_sem, q, q', hnth, e1, h1]
  | true =>
   cases h2 : numOkB qq with
   | false => simp [go_sem, q, q', hnth, e1, h1, h2]
   | true =>
    cases h3 : numOkB p with
    | false => simp [go_sem, q, q', hnth, e1, h1, h2, h3]
    | true =>
     simp [go_sem, q, q', hnth, e1, h1, h2, h3, w]
     simpa using ih
theorem e_printableRate (x : RateP) (hn : x.steps.length ≤ 100000) : acall mach0 n_printer_printableRate [rateV x] [] = some (.ret (.bool (rateOkB x)) []) := by
 have run := prate_l x hn x.steps [] rfl
 have e1 : ∀ n, acall mach0 n_printer_number [.int .i64 n] [] = some (.ret (.bool (numOkB n)) []) := e_prnum
 have ez := e_nameOrNone x.zone
 have eb := e_nameOrNone x.band
 refine acall_fn rfl (af := a_printer_printableRate) rfl rfl ?_
 simp only [rateV]
 unfold rateOkB
 by_cases k1 : x.kind < 1
 ·have hf : ¬ (1 ≤ x.kind ∧ x.kind ≤ 4) := by omega
  simp [List.replicate, go_sem, k1, hf]
 by_cases k2 : 4 < x.kind
 ·have hf : ¬ (1 ≤ x.kind ∧ x.kind ≤ 4) := by omega
  simp [List.replicate, go_sem, k1, k2, hf]
 have hf : decide (1 ≤ x.kind ∧ x.kind ≤ 4) = true := decide_eq_true (by omega)
 rw [hf, Bool.true_and]
 cases hz : (x.zone.isEmpty || nameOk x.zone) with
 | false => rw [hz] at ez; simp [List.replicate, go_sem, k1, k2, ez]
 | true =>
  rw [hz] at ez
  cases hb : (x.band.isEmpty || nameOk x.band) with
  | false => rw [hb] at eb; simp [List.replicate, go_sem, k1, k2, ez, eb]
  | true =>
   rw [hb] at eb
   cases hs : numOkB x.setup with
   | false => simp [List.replicate, go_sem, k1, k2, ez, eb, e1, hs]
   | true =>
    by_cases h0 : x.steps = []
    ·simp [List.replicate, go_sem, k1, k2, ez, eb, e1, hs, h0]
    ·have hne : (!x.steps.isEmpty) = true := isEmpty_ne.2 h0
     have hl0 : ¬ (x.steps.length : Int) = 0 := by
      intro h; apply h0; exact List.length_eq_zero_iff.1 (by omega)
     rw [hne]
     simp only [Bool.true_and]
     simp [List.replicate, go_sem, k1, k2, ez, eb, e1, hs, bf' hl0]
     simpa using run
end Go.Am
namespace Go.Am
open Go Go.Pu
structure TB (t : TariffP) : Prop where
 zones : t.zones.length ≤ 100000
 pref : ∀ z ∈ t.zones, z.pref.length ≤ 100000
 bands : t.bands.length ≤ 100000
 slots : ∀ b ∈ t.bands, b.slots.length ≤ 100000
 rates : t.rates.length ≤ 100000
 steps : ∀ x ∈ t.rates, x.steps.length ≤ 100000
 discs : t.discs.length ≤ 100000
 cond : ∀ d ∈ t.discs, Tl d.cond
theorem pr_zones (z : Nat) (t : TariffP) (hB : TB t) (R : Bool)
    (hk : Run mach0 (.c printer_printable_k4b :: []) .norm ⟨(.undef :: .rptr (tariffW z t).cells :: .undef :: .undef :: .undef :: .undef :: .undef :: .undef :: .undef :: .undef :: .undef :: .undef :: .undef :: .undef :: .undef :: .undef :: .undef :: .undef :: .undef :: .undef :: .undef :: .undef :: .undef :: .undef :: .undef :: .undef :: .undef :: .undef :: .undef :: .undef :: .undef :: .undef :: .undef :: .undef :: .undef :: .undef :: .undef :: .undef :: .undef :: .undef :: .undef :: .undef :: .undef :: .undef :: .undef :: .undef :: .undef :: .undef :: .undef :: .undef :: .undef :: .undef :: .undef :: .undef :: .undef :: .undef :: .undef :: .undef :: .undef :: .undef :: .undef :: .undef :: .undef :: .undef :: .undef :: .undef :: .undef :: .undef :: .undef :: .undef :: .undef :: .undef :: .undef :: .undef :: .undef :: .undef :: .undef :: .undef :: .undef :: .undef :: .undef :: .undef :: .undef :: .undef :: .undef :: .undef :: .undef :: .undef :: .undef :: .undef :: .undef :: .undef :: .undef :: .undef :: .undef :: .undef :: []), []⟩ (FinQ [.tmp 2] 0 (.ret (.bool R) []))) : ∀ (l2 l1 : List ZoneP), l1 ++ l2 = t.zones →
    Run mach0 (.c printer_printable_l1b :: .lp printer_printable_l1 :: .endB 0 :: .c printer_printable_k4 :: []) .norm
      ⟨(.undef :: .rptr (tariffW z t).cells :: .undef :: .undef :: .undef :: .undef :: .undef :: .undef :: .undef :: .undef :: .undef :: .undef :: .undef :: .undef :: .undef :: .undef :: .undef :: .undef :: .undef :: .undef :: .undef :: .undef :: .undef :: .undef :: .undef :: .undef :: .sl false 2 (t.zones.map zoneV) :: .int .i64 t.zones.length :: .int .i64 l1.length :: .undef :: .undef :: .undef :: .undef :: .undef :: .undef :: .undef :: .undef :: .undef :: .undef :: .undef :: .undef :: .undef :: .undef :: .undef :: .undef :: .undef :: .undef :: .undef :: .undef :: .undef :: .undef :: .undef :: .undef :: .undef :: .undef :: .undef :: .undef :: .undef :: .undef :: .undef :: .undef :: .undef :: .undef :: .undef :: .undef :: .undef :: .undef :: .undef :: .undef :: .undef :: .undef :: .undef :: .undef :: .undef :: .undef :: .undef :: .undef :: .undef :: .undef :: .undef :: .undef :: .undef :: .undef :: .undef :: .undef :: .undef :: .undef :: .undef :: .undef :: .undef :: .undef :: .undef :: .undef :: .undef :: .undef :: .undef :: []), []⟩ (FinQ [.tmp 2] 0 (.ret (.bool (l2.all zoneOkB && R)) []))
  | [], l1, he => by
    have q : ¬ ((l1.length : Int) < t.zones.length) := by rw [← he]; simp
    simp only [tariffW, V.cells] at hk ⊢
    unfold printer_printable_l1b
    simp [go_sem, q, printer_printable_k4]
    exact hk
  | a :: l2, l1, he => by
    have ih := pr_zones z t hB R hk l2 (l1 ++ [a]) (by rw [← he]; simp)
    have hn := hB.zones
    have len : t.zones.length = l1.length + (l2.length + 1) := by rw [← he]; simp
    have q : (l1.length : Int) < t.zones.length := by omega
    have q' : l1.length < t.zones.length := by omega
    have w : IntKind.wrap .i64 ((l1.length : Int) + 1) = l1.length + 1 := wrap_i64 (by omega)
    have hnth : nth (t.zones.map zoneV) l1.length = zoneV a := by rw [← he]; exact nth_mapA _ _ _ _
    simp only [List.length_append, List.length_cons, List.length_nil, Nat.zero_add, tariffW, V.cells] at ih ⊢
    rw [List.all_cons, Bool.and_assoc]
    unfold printer_printable_l1b
    have e1 := e_pname a.name
    have e2 := e_prefixes a.pref (by have := hB.pref a (by rw [← he]; simp); omega)
    simp only [zoneV] at hnth
    cases h1 : nameOk a.name with
    | false =>
      rw [h1] at e1
      have hf : zoneOkB a = false := by simp only [zoneOkB, h1, Bool.false_and]
      rw [hf, Bool.false_and]
      simp [go_sem, q, q', hnth, e1]
    | true =>
      rw [h1] at e1
      have hz : zoneOkB a = (a.pref.all prefOkB && !a.pref.isEmpty) := by simp only [zoneOkB, h1, Bool.true_and]
      cases h2 : (a.pref.all prefOkB && !a.pref.isEmpty) with
      | false =>
        rw [h2] at e2 hz
        rw [hz, Bool.false_and]
        simp [go_sem, q, q', hnth, e1, e2]
      | true =>
        rw [h2] at e2 hz
        rw [hz, Bool.true_and]
        simp [go_sem, q, q', hnth, e1, e2, w]
        simpa using ih
theorem pr_bands (z : Nat) (t : TariffP) (hB : TB t) (R : Bool)
    (hk : Run mach0 (.c printer_printable_k3b :: []) .norm ⟨(.undef :: .rptr (tariffW z t).cells :: .undef :: .undef :: .undef :: .undef :: .undef :: .undef :: .undef :: .undef :: .undef :: .undef :: .undef :: .undef :: .undef :: .undef :: .undef :: .undef :: .undef :: .undef :: .undef :: .undef :: .undef :: .undef :: .undef :: .undef :: .undef :: .undef :: .undef :: .undef :: .undef :: .undef :: .undef :: .undef :: .undef :: .undef :: .undef :: .undef :: .undef :: .undef :: .undef :: .undef :: .undef :: .undef :: .undef :: .undef :: .undef :: .undef :: .undef :: .undef :: .undef :: .undef :: .undef :: .undef :: .undef :: .undef :: .undef :: .undef :: .undef :: .undef :: .undef :: .undef :: .undef :: .undef :: .undef :: .undef :: .undef :: .undef :: .undef :: .undef :: .undef :: .undef :: .undef :: .undef :: .undef :: .undef :: .undef :: .undef :: .undef :: .undef :: .undef :: .undef :: .undef :: .undef :: .undef :: .undef :: .undef :: .undef :: .undef :: .undef :: .undef :: .undef :: .undef :: .undef :: .undef :: .undef :: []), []⟩ (FinQ [.tmp 2] 0 (.ret (.bool R) []))) : ∀ (l2 l1 : List BandP), l1 ++ l2 = t.bands →
    Run mach0 (.c printer_printable_l2b :: .lp printer_printable_l2 :: .endB 2 :: .c printer_printable_k3 :: []) .norm
      ⟨(.undef :: .rptr (tariffW z t).cells :: .undef :: .undef :: .undef :: .undef :: .undef :: .undef :: .undef :: .undef :: .undef :: .undef :: .undef :: .undef :: .undef :: .undef :: .undef :: .undef :: .undef :: .undef :: .undef :: .undef :: .undef :: .undef :: .undef :: .undef :: .undef :: .undef :: .undef :: .undef :: .undef :: .undef :: .undef :: .undef :: .undef :: .undef :: .undef :: .undef :: .undef :: .undef :: .undef :: .undef :: .undef :: .undef :: .sl false 2 (t.bands.map (bandW z)) :: .int .i64 t.bands.length :: .int .i64 l1.length :: .undef :: .undef :: .undef :: .undef :: .undef :: .undef :: .undef :: .undef :: .undef :: .undef :: .undef :: .undef :: .undef :: .undef :: .undef :: .undef :: .undef :: .undef :: .undef :: .undef :: .undef :: .undef :: .undef :: .undef :: .undef :: .undef :: .undef :: .undef :: .undef :: .undef :: .undef :: .undef :: .undef :: .undef :: .undef :: .undef :: .undef :: .undef :: .undef :: .undef :: .undef :: .undef :: .undef :: .undef :: .undef :: .undef :: .undef :: .undef :: .undef :: []), []⟩ (FinQ [.tmp 2] 0 (.ret (.bool (l2.all bandOkB && R)) []))
  | [], l1, he => by
    have q : ¬ ((l1.length : Int) < t.bands.length) := by rw [← he]; simp
    simp only [tariffW, V.cells] at hk ⊢
    unfold printer_printable_l2b
    simp [go_sem, q, printer_printable_k3]
    exact hk
  | a :: l2, l1, he => by
    have ih := pr_bands z t hB R hk l2 (l1 ++ [a]) (by rw [← he]; simp)
    have hn := hB.bands
    have len : t.bands.length = l1.length + (l2.length + 1) := by rw [← he]; simp
    have q : (l1.length : Int) < t.bands.length := by omega
    have q' : l1.length < t.bands.length := by omega
    have w : IntKind.wrap .i64 ((l1.length : Int) + 1) = l1.length + 1 := wrap_i64 (by omega)
    have hnth : nth (t.bands.map (bandW z)) l1.length = (bandW z) a := by rw [← he]; exact nth_mapA _ _ _ _
    simp only [List.length_append, List.length_cons, List.length_nil, Nat.zero_add, tariffW, V.cells] at ih ⊢
    rw [List.all_cons, Bool.and_assoc]
    unfold printer_printable_l2b
    have e1 := e_pname a.name
    have e2 := e_printableSlots z a.slots (hB.slots a (by rw [← he]; simp))
    simp only [bandW, slW] at hnth
    cases h1 : nameOk a.name with
    | false =>
      rw [h1] at e1
      have hf : bandOkB a = false := by simp only [bandOkB, h1, Bool.false_and]
      rw [hf, Bool.false_and]
      simp [go_sem, q, q', hnth, e1]
    | true =>
      rw [h1] at e1
      have hz : bandOkB a = a.slots.all slotOkB := by simp only [bandOkB, h1, Bool.true_and]
      rw [hz]
      generalize (if a.slots = [] then z else 3) = zz at *
      cases h2 : a.slots.all slotOkB with
      | false =>
        rw [h2] at e2
        rw [Bool.false_and]
        simp [go_sem, q, q', hnth, e1, e2]
      | true =>
        rw [h2] at e2
        rw [Bool.true_and]
        simp [go_sem, q, q', hnth, e1, e2, w]
        simpa using ih
theorem pr_rates (z : Nat) (t : TariffP) (hB : TB t) (R : Bool)
    (hk : Run mach0 (.c printer_printable_k2b :: []) .norm ⟨(.undef :: .rptr (tariffW z t).cells :: .undef :: .undef :: .undef :: .undef :: .undef :: .undef :: .undef :: .undef :: .undef :: .undef :: .undef :: .undef :: .undef :: .undef :: .undef :: .undef :: .undef :: .undef :: .undef :: .undef :: .undef :: .undef :: .undef :: .undef :: .undef :: .undef :: .undef :: .undef :: .undef :: .undef :: .undef :: .undef :: .undef :: .undef :: .undef :: .undef :: .undef :: .undef :: .undef :: .undef :: .undef :: .undef :: .undef :: .undef :: .undef :: .undef :: .undef :: .undef :: .undef :: .undef :: .undef :: .undef :: .undef :: .undef :: .undef :: .undef :: .undef :: .undef :: .undef :: .undef :: .undef :: .undef :: .undef :: .undef :: .undef :: .undef :: .undef :: .undef :: .undef :: .undef :: .undef :: .undef :: .undef :: .undef :: .undef :: .undef :: .undef :: .undef :: .undef :: .undef :: .undef :: .undef :: .undef :: .undef :: .undef :: .undef :: .undef :: .undef :: .undef :: .undef :: .undef :: .undef :: .undef :: .undef :: []), []⟩ (FinQ [.tmp 2] 0 (.ret (.bool R) []))) : ∀ (l2 l1 : List RateP), l1 ++ l2 = t.rates →
    Run mach0 (.c printer_printable_l3b :: .lp printer_printable_l3 :: .endB 4 :: .c printer_printable_k2 :: []) .norm
      ⟨(.undef :: .rptr (tariffW z t).cells :: .undef :: .undef :: .undef :: .undef :: .undef :: .undef :: .undef :: .undef :: .undef :: .undef :: .undef :: .undef :: .undef :: .undef :: .undef :: .undef :: .undef :: .undef :: .undef :: .undef :: .undef :: .undef :: .undef :: .undef :: .undef :: .undef :: .undef :: .undef :: .undef :: .undef :: .undef :: .undef :: .undef :: .undef :: .undef :: .undef :: .undef :: .undef :: .undef :: .undef :: .undef :: .undef :: .undef :: .undef :: .undef :: .undef :: .undef :: .undef :: .undef :: .undef :: .undef :: .undef :: .undef :: .undef :: .undef :: .undef :: .undef :: .undef :: .undef :: .undef :: .sl false 5 (t.rates.map rateV) :: .int .i64 t.rates.length :: .int .i64 l1.length :: .undef :: .undef :: .undef :: .undef :: .undef :: .undef :: .undef :: .undef :: .undef :: .undef :: .undef :: .undef :: .undef :: .undef :: .undef :: .undef :: .undef :: .undef :: .undef :: .undef :: .undef :: .undef :: .undef :: .undef :: .undef :: .undef :: .undef :: .undef :: .undef :: .undef :: .undef :: []), []⟩ (FinQ [.tmp 2] 0 (.ret (.bool (l2.all rateOkB && R)) []))
  | [], l1, he => by
    have q : ¬ ((l1.length : Int) < t.rates.length) := by rw [← he]; simp
    simp only [tariffW, V.cells] at hk ⊢
    unfold printer_printable_l3b
    simp [go_sem, q, printer_printable_k2]
    exact hk
  | a :: l2, l1, he => by
    have ih := pr_rates z t hB R hk l2 (l1 ++ [a]) (by rw [← he]; simp)
    have hn := hB.rates
    have len : t.rates.length = l1.length + (l2.length + 1) := by rw [← he]; simp
    have q : (l1.length : Int) < t.rates.length := by omega
    have q' : l1.length < t.rates.length := by omega
    have w : IntKind.wrap .i64 ((l1.length : Int) + 1) = l1.length + 1 := wrap_i64 (by omega)
    have hnth : nth (t.rates.map rateV) l1.length = rateV a := by rw [← he]; exact nth_mapA _ _ _ _
    simp only [List.length_append, List.length_cons, List.length_nil, Nat.zero_add, tariffW, V.cells] at ih ⊢
    rw [List.all_cons, Bool.and_assoc]
    unfold printer_printable_l3b
    have e1 := e_printableRate a (hB.steps a (by rw [← he]; simp))
    simp only [rateV] at hnth e1
    cases h1 : rateOkB a with
    | false =>
      rw [h1] at e1
      rw [Bool.false_and]
      simp [go_sem, q, q', hnth, e1]
    | true =>
      rw [h1] at e1
      rw [Bool.true_and]
      simp [go_sem, q, q', hnth, e1, w]
      simpa using ih
theorem pr_discs (z : Nat) (t : TariffP) (hB : TB t) (R : Bool)
    (hk : Run mach0 (.c printer_printable_k1b :: []) .norm ⟨(.undef :: .undef :: .undef :: .undef :: .undef :: .undef :: .undef :: .undef :: .undef :: .undef :: .undef :: .undef :: .undef :: .undef :: .undef :: .undef :: .undef :: .undef :: .undef :: .undef :: .undef :: .undef :: .undef :: .undef :: .undef :: .undef :: .undef :: .undef :: .undef :: .undef :: .undef :: .undef :: .undef :: .undef :: .undef :: .undef :: .undef :: .undef :: .undef :: .undef :: .undef :: .undef :: .undef :: .undef :: .undef :: .undef :: .undef :: .undef :: .undef :: .undef :: .undef :: .undef :: .undef :: .undef :: .undef :: .undef :: .undef :: .undef :: .undef :: .undef :: .undef :: .undef :: .undef :: .undef :: .undef :: .undef :: .undef :: .undef :: .undef :: .undef :: .undef :: .undef :: .undef :: .undef :: .undef :: .undef :: .undef :: .undef :: .undef :: .undef :: .undef :: .undef :: .undef :: .undef :: .undef :: .undef :: .undef :: .undef :: .undef :: .undef :: .undef :: .undef :: .undef :: .undef :: .undef :: .undef :: []), []⟩ (FinQ [.tmp 2] 0 (.ret (.bool R) []))) : ∀ (l2 l1 : List DiscP), l1 ++ l2 = t.discs →
    Run mach0 (.c printer_printable_l4b :: .lp printer_printable_l4 :: .endB 6 :: .c printer_printable_k1 :: []) .norm
      ⟨(.undef :: .undef :: .undef :: .undef :: .undef :: .undef :: .undef :: .undef :: .undef :: .undef :: .undef :: .undef :: .undef :: .undef :: .undef :: .undef :: .undef :: .undef :: .undef :: .undef :: .undef :: .undef :: .undef :: .undef :: .undef :: .undef :: .undef :: .undef :: .undef :: .undef :: .undef :: .undef :: .undef :: .undef :: .undef :: .undef :: .undef :: .undef :: .undef :: .undef :: .undef :: .undef :: .undef :: .undef :: .undef :: .undef :: .undef :: .undef :: .undef :: .undef :: .undef :: .undef :: .undef :: .undef :: .undef :: .undef :: .undef :: .undef :: .undef :: .undef :: .undef :: .undef :: .undef :: .undef :: .undef :: .undef :: .undef :: .undef :: .undef :: .undef :: .undef :: .undef :: .undef :: .sl false 6 (t.discs.map discV) :: .int .i64 t.discs.length :: .int .i64 l1.length :: .undef :: .undef :: .undef :: .undef :: .undef :: .undef :: .undef :: .undef :: .undef :: .undef :: .undef :: .undef :: .undef :: .undef :: .undef :: .undef :: .undef :: .undef :: .undef :: .undef :: []), []⟩ (FinQ [.tmp 2] 0 (.ret (.bool (l2.all discOkB && R)) []))
  | [], l1, he => by
    have q : ¬ ((l1.length : Int) < t.discs.length) := by rw [← he]; simp
    skip
    unfold printer_printable_l4b
    simp [go_sem, q, printer_printable_k1]
    exact hk
  | a :: l2, l1, he => by
    have ih := pr_discs z t hB R hk l2 (l1 ++ [a]) (by rw [← he]; simp)
    have hn := hB.discs
    have len : t.discs.length = l1.length + (l2.length + 1) := by rw [← he]; simp
    have q : (l1.length : Int) < t.discs.length := by omega
    have q' : l1.length < t.discs.length := by omega
    have w : IntKind.wrap .i64 ((l1.length : Int) + 1) = l1.length + 1 := wrap_i64 (by omega)
    have hnth : nth (t.discs.map discV) l1.length = discV a := by rw [← he]; exact nth_mapA _ _ _ _
    simp only [List.length_append, List.length_cons, List.length_nil, Nat.zero_add] at ih
    rw [List.all_cons, Bool.and_assoc]
    unfold printer_printable_l4b
    have e1 := e_pname a.name
    have e2 : acall mach0 n_printer_number [.int .i64 a.points] [] = some (.ret (.bool (numOkB a.points)) []) := e_prnum a.points
    have e3 := e_printable a.cond (hB.cond a (by rw [← he]; simp))
    have hz : discOkB a = (nameOk a.name && numOkB a.points && prb a.cond) := rfl
    rw [hz]
    obtain ⟨name, points, cond⟩ := a
    obtain ⟨op2, num2, text2, args2⟩ := cond
    simp only [discV, exprC, List.cons_append, List.nil_append] at hnth
    simp only [exprV] at e1 e2 e3 ⊢
    generalize prb (.mk op2 num2 text2 args2) = pb at *
    generalize nameOk name = nb at *
    generalize numOkB points = qb at *
    cases nb with
    | false => simp [go_sem, q, q', hnth, e1]
    | true =>
      cases qb with
      | false => simp [go_sem, q, q', hnth, e1, e2]
      | true =>
        cases pb with
        | false => simp [go_sem, q, q', hnth, e1, e2, e3]
        | true =>
          simp [go_sem, q, q', hnth, e1, e2, e3, w]
          simpa using ih
theorem e_whole (z : Nat) (t : TariffP) (hB : TB t) : acall mach0 n_printer_printable [tariffW z t] [] = some (.ret (.bool (wholeB t)) []) := by
 have last : Run mach0 (.c printer_printable_k1b :: []) .norm ⟨(.undef :: .undef :: .undef :: .undef :: .undef :: .undef :: .undef :: .undef :: .undef :: .undef :: .undef :: .undef :: .undef :: .undef :: .undef :: .undef :: .undef :: .undef :: .undef :: .undef :: .undef :: .undef :: .undef :: .undef :: .undef :: .undef :: .undef :: .undef :: .undef :: .undef :: .undef :: .undef :: .undef :: .undef :: .undef :: .undef :: .undef :: .undef :: .undef :: .undef :: .undef :: .undef :: .undef :: .undef :: .undef :: .undef :: .undef :: .undef :: .undef :: .undef :: .undef :: .undef :: .undef :: .undef :: .undef :: .undef :: .undef :: .undef :: .undef :: .undef :: .undef :: .undef :: .undef :: .undef :: .undef :: .undef :: .undef :: .undef :: .undef :: .undef :: .undef :: .undef :: .undef :: .undef :: .undef :: .undef :: .undef :: .undef :: .undef :: .undef :: .undef :: .undef :: .undef :: .undef :: .undef :: .undef :: .undef :: .undef :: .undef :: .undef :: .undef :: .undef :: .undef :: .undef :: .undef :: .undef :: []), []⟩ (FinQ [.tmp 2] 0 (.ret (.bool true) [])) := by
  unfold printer_printable_k1b
  simp [go_sem]
 have d := pr_discs z t hB true last t.discs [] rfl
 have r := pr_rates z t hB (t.discs.all discOkB && true) (by
  simp only [tariffW, V.cells]
  unfold printer_printable_k2b
  simp [go_sem]
  simpa using d) t.rates [] rfl
 have b := pr_bands z t hB (t.rates.all rateOkB && (t.discs.all discOkB && true)) (by
  simp only [tariffW, V.cells] at r ⊢
  unfold printer_printable_k3b
  simp [go_sem]
  simpa using r) t.bands [] rfl
 have zz := pr_zones z t hB (t.bands.all bandOkB && (t.rates.all rateOkB && (t.discs.all discOkB && true))) (by
  simp only [tariffW, V.cells] at b ⊢
  unfold printer_printable_k4b
  simp [go_sem]
  simpa using b) t.zones [] rfl
 have e1 := e_pname t.name
 refine acall_fn rfl (af := a_printer_printable) rfl rfl ?_
 simp only [tariffW, V.cells] at zz ⊢
 unfold wholeB
 generalize (t.zones.all zoneOkB && (t.bands.all bandOkB && (t.rates.all rateOkB && (t.discs.all discOkB && true)))) = rest at *
 generalize nameOk t.name = nb at *
 cases nb with
 | false => simp [List.replicate, go_sem, e1]
 | true =>
  by_cases h1 : t.start < 0
  ·have hf : decide (0 ≤ t.start ∧ t.start < 12622780800) = false := decide_eq_false (by omega)
   rw [hf]
   simp [List.replicate, go_sem, e1, h1]
  ·by_cases h2 : 12622780800 ≤ t.start
   ·have hf : decide (0 ≤ t.start ∧ t.start < 12622780800) = false := decide_eq_false (by omega)
    rw [hf]
    simp [List.replicate, go_sem, e1, h1, h2]
   ·have hf : decide (0 ≤ t.start ∧ t.start < 12622780800) = true := decide_eq_true (by omega)
    rw [hf]
    simp [List.replicate, go_sem, e1, h1, h2]
    simpa using zz
end Go.Am
namespace Go.Am
open Go Go.Pu
theorem l_date1 (day Y : Int) (h h' : Heap) (n0 : Nat) (k : List It) (r : V) (hY : 2000 ≤ Y) (hY' : Y ≤ 2399) (h1 : bef Y ≤ day) (h2 : day < bef (Y + 1))
    (hk : ∀ x : V, x.owner = false → Run mach0 k (.exit 0) ⟨(.int .i64 day :: .undef :: .box [.int .i64 0, .int .i64 0, .int .i64 0] :: .box [.int .i64 Y, .int .i64 1, .int .i64 0] :: .undef :: .undef :: .undef :: .undef :: .undef :: .undef :: .undef :: .undef :: .undef :: .undef :: .undef :: .bref 3 0 :: .int .i64 Y :: .int .i64 (Y + 1) :: .int .i64 (bef (Y + 1)) :: .int .i64 day :: .bool false :: .undef :: .undef :: .undef :: .undef :: .undef :: .undef :: .undef :: .undef :: .undef :: .undef :: .undef :: .undef :: .undef :: .undef :: .undef :: .undef :: .undef :: .undef :: .undef :: .undef :: .undef :: .undef :: .undef :: .undef :: .undef :: .undef :: .undef :: .undef :: .undef :: .undef :: .undef :: []), h⟩ (FinQ [.cell 2 (some 3)] n0 (.ret r h'))) :
    ∀ (n : Nat) (y : Int), y + n = Y → 2000 ≤ y →
    Run mach0 (.c calendar_Date_l1b :: .lp calendar_Date_l1 :: k) .norm ⟨(.int .i64 day :: .undef :: .box [.int .i64 0, .int .i64 0, .int .i64 0] :: .box [.int .i64 y, .int .i64 1, .int .i64 0] :: .undef :: .undef :: .undef :: .undef :: .undef :: .undef :: .undef :: .undef :: .undef :: .undef :: .undef :: .undef :: .undef :: .undef :: .undef :: .undef :: .undef :: .undef :: .undef :: .undef :: .undef :: .undef :: .undef :: .undef :: .undef :: .undef :: .undef :: .undef :: .undef :: .undef :: .undef :: .undef :: .undef :: .undef :: .undef :: .undef :: .undef :: .undef :: .undef :: .undef :: .undef :: .undef :: .undef :: .undef :: .undef :: .undef :: .undef :: .undef :: []), h⟩ (FinQ [.cell 2 (some 3)] n0 (.ret r h'))
  | 0, y, hy, hy0 => by
    obtain rfl : y = Y := by omega
    have w : IntKind.wrap .i64 (y + 1) = y + 1 := wrap_i64 (by omega)
    have e := e_before (y + 1) [] (by omega) (by omega)
    have q : ¬ bef (y + 1) ≤ day := by omega
    unfold calendar_Date_l1b
    simp [go_sem, w, e, q]
    exact hk .undef rfl
  | n + 1, y, hy, hy0 => by
    have w : IntKind.wrap .i64 (y + 1) = y + 1 := wrap_i64 (by omega)
    have e := e_before (y + 1) [] (by omega) (by omega)
    have q : bef (y + 1) ≤ day := by have := bef_le (a := y + 1) (b := Y) (by omega) (by omega); omega
    have ih := l_date1 day Y h h' n0 k r hY hY' h1 h2 hk n (y + 1) (by omega) (by omega)
    unfold calendar_Date_l1b
    simp [go_sem, w, e, q]
    exact ih
theorem l_date2 (Y : Int) (M D : Nat) (h h' : Heap) (n0 : Nat) (k : List It) (r : V) (hY : 2000 ≤ Y) (hM : M ≤ 11) (hD : (D : Int) < dlen Y ((M : Int) + 1))
    (hk : Run mach0 k (.exit 2) ⟨(.int .i64 D :: .undef :: .box [.int .i64 0, .int .i64 0, .int .i64 0] :: .box [.int .i64 Y, .int .i64 ((M : Int) + 1), .int .i64 0] :: .undef :: .undef :: .undef :: .undef :: .undef :: .undef :: .undef :: .undef :: .undef :: .undef :: .undef :: .undef :: .undef :: .undef :: .undef :: .undef :: .undef :: .undef :: .undef :: .undef :: .undef :: .undef :: .undef :: .undef :: .undef :: .undef :: .int .i64 D :: .bref 3 0 :: .int .i64 Y :: .bref 3 1 :: .int .i64 ((M : Int) + 1) :: .int .i64 (dlen Y ((M : Int) + 1)) :: .bool false :: .undef :: .undef :: .undef :: .undef :: .undef :: .undef :: .undef :: .undef :: .undef :: .undef :: .undef :: .undef :: .undef :: .undef :: .undef :: []), h⟩ (FinQ [.cell 2 (some 3)] n0 (.ret r h'))) :
    ∀ (n i : Nat) (v c : Int), i + n = M → v = D + mcum Y M - mcum Y i → c = (i : Int) + 1 →
    Run mach0 (.c calendar_Date_l2b :: .lp calendar_Date_l2 :: k) .norm ⟨(.int .i64 v :: .undef :: .box [.int .i64 0, .int .i64 0, .int .i64 0] :: .box [.int .i64 Y, .int .i64 c, .int .i64 0] :: .undef :: .undef :: .undef :: .undef :: .undef :: .undef :: .undef :: .undef :: .undef :: .undef :: .undef :: .undef :: .undef :: .undef :: .undef :: .undef :: .undef :: .undef :: .undef :: .undef :: .undef :: .undef :: .undef :: .undef :: .undef :: .undef :: .undef :: .undef :: .undef :: .undef :: .undef :: .undef :: .undef :: .undef :: .undef :: .undef :: .undef :: .undef :: .undef :: .undef :: .undef :: .undef :: .undef :: .undef :: .undef :: .undef :: .undef :: .undef :: []), h⟩ (FinQ [.cell 2 (some 3)] n0 (.ret r h'))
  | 0, i, v, c, hi, hv, hc => by
    obtain rfl : i = M := by omega
    have hv : v = D := by omega
    subst hv; subst hc
    have e := e_days Y ((i : Int) + 1) [] (by omega) (by omega) (by omega)
    have q : ¬ dlen Y ((i : Int) + 1) ≤ D := by omega
    unfold calendar_Date_l2b
    simp [go_sem, e, q]
    exact hk
  | n + 1, i, v, c, hi, hv, hc => by
    have e := e_days Y ((i : Int) + 1) [] (by omega) (by omega) (by omega)
    have hm : mcum Y (i + 1) = mcum Y i + dlen Y ((i : Int) + 1) := rfl
    have hmono := mcum_mono Y (a := i + 1) (b := M) (by omega)
    have hlo := mcum_nonneg Y i
    have hhi := mcum_hi (y := Y) (m := M) (by omega)
    have hd := dlen_hi Y ((M : Int) + 1)
    have q : dlen Y ((i : Int) + 1) ≤ v := by omega
    have ih := l_date2 Y M D h h' n0 k r hY hM hD hk n (i + 1) (v - dlen Y ((i : Int) + 1)) (c + 1) (by omega) (by omega) (by omega)
    have hdl := dlen_lo Y ((i : Int) + 1)
    have w1 : IntKind.wrap .i64 (v - dlen Y ((i : Int) + 1)) = v - dlen Y ((i : Int) + 1) := wrap_i64 (by omega)
    have w2 : IntKind.wrap .i64 (c + 1) = c + 1 := wrap_i64 (by omega)
    subst hc
    unfold calendar_Date_l2b
    simp [go_sem, e, q, w1, w2]
    exact ih
set_option maxHeartbeats 2000000 in
theorem e_Date {day y m d : Int} (hd : IsDate day y m d) (h : Heap) : acall mach0 n_calendar_Date [.int .i64 day] h = some (.ret (.agg [.int .i64 y, .int .i64 m, .int .i64 d]) h) := by
 refine acall_fn rfl (af := a_calendar_Date) rfl rfl ?_
 have hlo := hd.lo
 have hhi := hd.hi
 have h1 : ¬ day < 0 := by omega
 have h2 : ¬ 146097 ≤ day := by omega
 have hy1 := hd.y1
 have hy2 := hd.y2
 have hm1 := hd.m1
 have hm2 := hd.m2
 have hd1 := hd.d1
 have hd2 := hd.d2
 have hdl := dlen_hi y m
 have hf := hd.first
 have t : day.tdiv 366 = day / 366 := Int.tdiv_eq_ediv_of_nonneg hlo
 have w : IntKind.wrap .i64 (2000 + IntKind.wrap .i64 (day / 366)) = 2000 + day / 366 := by rw [wrap_i64 (n := day / 366) (by omega), wrap_i64 (by omega)]
 simp [List.replicate, go_sem, h1, h2, t, w]
 refine l_date1 day y h h h.length _ _ hy1 hy2 hd.year.1 hd.year.2 (fun _ _ => ?_) (y - (2000 + day / 366)).toNat _ (by omega) (by omega)
 obtain ⟨M, hM⟩ : ∃ M : Nat, m = (M : Int) + 1 := ⟨(m - 1).toNat, by omega⟩
 obtain ⟨D, hD⟩ : ∃ D : Nat, d = (D : Int) + 1 := ⟨(d - 1).toNat, by omega⟩
 subst hM
 subst hD
 have heq := hd.eq
 have e1 : ((M : Int) + 1 - 1).toNat = M := by omega
 rw [e1] at heq
 have b1 := bef_lo0 hy1
 have b2 := bef_hi' hy1 (by omega)
 have hmlo := mcum_nonneg y M
 have hmhi := mcum_hi (y := y) (m := M) (by omega)
 have w2 : IntKind.wrap .i64 (day - bef y) = day - bef y := wrap_i64 (by omega)
 have w3 : IntKind.wrap .i64 ((D : Int) + 1) = (D : Int) + 1 := wrap_i64 (by omega)
 simp [go_sem, calendar_Date_k2]
 unfold calendar_Date_k2b
 simp [go_sem, e_before y [] hy1 (by omega), w2]
 refine l_date2 y M D h h h.length _ _ hy1 (by omega) (by omega) ?_ M 0 _ _ (Nat.zero_add _) (by simp [mcum]; omega) (by simp)
 simp [go_sem, calendar_Date_k1]
 simp [go_sem, calendar_Date_k1b, w3]
theorem enc_digit {n : Nat} (h : n < 10) : (Utf8.encode (48 + (n : Int))).data.toList = [UInt8.ofNat (48 + n)] := by
 match n, h with
 | 0, _ => decide +kernel
 | 1, _ => decide +kernel
 | 2, _ => decide +kernel
 | 3, _ => decide +kernel
 | 4, _ => decide +kernel
 | 5, _ => decide +kernel
 | 6, _ => decide +kernel
 | 7, _ => decide +kernel
 | 8, _ => decide +kernel
 | 9, _ => decide +kernel
 | n + 10, h => omega
theorem e_digits : ∀ (k n : Nat) (h : Heap), k ≤ 10 → n ≤ 1000000 → acall mach0 n_calendar_digits [.int .i64 n, .int .i64 k] h = some (.ret (.str (digs n k)) h)
 | 0, n, h, _, _ => by
  refine acall_fn rfl (af := a_calendar_digits) rfl rfl ?_
  simp [List.replicate, go_sem, digs]
 | k + 1, n, h, hk, hn => by
  have ih := fun h => e_digits k (n / 10) h (by omega) (by omega)
  refine acall_fn rfl (af := a_calendar_digits) rfl rfl ?_
  have w1 : (IntKind.i64).wrap (((k + 1 : Nat) : Int) - 1) = (k : Int) := by rw [wrap_i64 ⟨by omega, by omega⟩]; omega
  have w2 : (n : Int).tdiv 10 = ((n / 10 : Nat) : Int) := rfl
  have w3 : (n : Int).tmod 10 = ((n % 10 : Nat) : Int) := rfl
  have w4 : (IntKind.i64).wrap ((n / 10 : Nat) : Int) = ((n / 10 : Nat) : Int) := wrap_i64 ⟨by omega, by omega⟩
  have hm : n % 10 < 10 := Nat.mod_lt _ (by omega)
  have q : ((k + 1 : Nat) : Int) ≠ 0 := by omega
  generalize hK : ((k + 1 : Nat) : Int) = K at *
  generalize hD : n / 10 = D at *
  generalize hM : n % 10 = M at *
  have w5 : (IntKind.i64).wrap (48 + (M : Int)) = 48 + M := wrap_i64 ⟨by omega, by omega⟩
  have w6 : (IntKind.i32).wrap (48 + (M : Int)) = 48 + M := by simp [IntKind.wrap, IntKind.signed, IntKind.bits]; omega
  simp [List.replicate, go_sem, digs, q, w1, w2, w3, w4, w5, w6, ih, enc_digit hm, hD, hM, digs_length, show k ≤ 9223372036854775806 by omega]
def prD (y m d : Nat) : List UInt8 := digs y 4 ++ ([45] ++ (digs m 2 ++ ([45] ++ digs d 2)))
theorem e_Print {day : Int} {y m d : Nat} (hd : IsDate day y m d) (h0 : 0 ≤ day) (h1 : day < 146097) (hy : y ≤ 1000000) (hm : m ≤ 1000000) (hdd : d ≤ 1000000) (h : Heap) : acall mach0 n_calendar_Print [.int .i64 day] h = some (.ret (.str (prD y m d)) h) := by
 refine acall_fn rfl (af := a_calendar_Print) rfl rfl ?_
 have e := fun h => e_Date hd h
 have e1 : ∀ h, acall mach0 n_calendar_digits [.int .i64 y, .int .i64 4] h = some (.ret (.str (digs y 4)) h) := fun h => e_digits 4 y h (by omega) hy
 have e2 : ∀ h, acall mach0 n_calendar_digits [.int .i64 m, .int .i64 2] h = some (.ret (.str (digs m 2)) h) := fun h => e_digits 2 m h (by omega) hm
 have e3 : ∀ h, acall mach0 n_calendar_digits [.int .i64 d, .int .i64 2] h = some (.ret (.str (digs d 2)) h) := fun h => e_digits 2 d h (by omega) hdd
 have n1 : ¬ day < 0 := by omega
 have n2 : ¬ (146097 : Int) ≤ day := by omega
 simp [List.replicate, go_sem, prD, e, e1, e2, e3, n1, n2, digs_length]
end Go.Am
namespace Go.Am
open Go Go.Pu
theorem zoneB_eq (z : ZoneP) : zoneB z = [122, 111, 110, 101, 32] ++ (z.name ++ ([32] ++ (joinB z.pref ++ [32, 59, 10]))) := by simp [zoneB, kZone, lineE]
theorem bandB_eq (b : BandP) : bandB b = [98, 97, 110, 100, 32] ++ (b.name ++ ([32] ++ (slotsB b.slots ++ [32, 59, 10]))) := by simp [bandB, kBand, lineE]
theorem discB_eq (d : DiscP) : discB d = [100, 105, 115, 99, 111, 117, 110, 116, 32] ++ (d.name ++ ([32] ++ (decZ d.points ++ ([32, 112, 111, 105, 110, 116, 115, 32, 119, 104, 101, 110, 32] ++ (txtE d.cond ++ [32, 59, 10]))))) := by simp [discB, kDisc, kPoints, kWhen, lineE]
theorem sum_pref : ∀ m : List Bs, (∀ p ∈ m, prefOk p) → sumL m ≤ 16 * m.length
 | [], _ => by simp [sumL]
 | s :: m, hm => by
  have h1 := sum_pref m (fun x hx => hm x (by simp [hx]))
  obtain ⟨_, _, h4⟩ := hm s (by simp)
  simp only [sumL, List.length_cons]
  omega
theorem one_le {α : Type} (f : α → Bs) {l1 : List α} {a : α} {l2 : List α} {acc X : Bs} (h : acc ++ (a :: l2).flatMap f = X) : acc.length + (f a).length ≤ X.length := by
 have e := congrArg List.length h
 have e2 : (acc ++ (a :: l2).flatMap f).length = acc.length + ((f a).length + (l2.flatMap f).length) := by
  rw [List.flatMap_cons, List.length_append, List.length_append]
 rw [e2] at e
 omega
theorem pt_zones (z : Nat) (t : TariffP) (h : WholeOk t) (hB : TB t) (X : Bs) (hX : X.length ≤ 100000000000) (r : Rt)
    (hk : Run mach0 (.c printer_Tariff_k4b :: []) .norm ⟨(.undef :: .rptr (tariffW z t).cells :: .undef :: .undef :: .undef :: .undef :: .sl true 1 (B X) :: .undef :: .undef :: .undef :: .undef :: .undef :: .undef :: .undef :: .undef :: .undef :: .undef :: .undef :: .undef :: .undef :: .undef :: .undef :: .undef :: .undef :: .undef :: .undef :: .undef :: .undef :: .undef :: .undef :: .undef :: .undef :: .undef :: .undef :: .undef :: .undef :: .undef :: .undef :: .undef :: .undef :: .undef :: .undef :: .undef :: .undef :: .undef :: .undef :: .undef :: .undef :: .undef :: .undef :: .undef :: .undef :: .undef :: .undef :: .undef :: .undef :: .undef :: .undef :: .undef :: .undef :: .undef :: .undef :: .undef :: .undef :: .undef :: .undef :: .undef :: .undef :: .undef :: .undef :: .undef :: .undef :: .undef :: .undef :: .undef :: .undef :: .undef :: .undef :: .undef :: .undef :: .undef :: .undef :: .undef :: .undef :: .undef :: .undef :: .undef :: .undef :: .undef :: .undef :: .undef :: .undef :: .undef :: .undef :: .undef :: .undef :: .undef :: .undef :: .undef :: .undef :: .undef :: .undef :: .undef :: .undef :: .undef :: .undef :: .undef :: .undef :: .undef :: .undef :: .undef :: .undef :: .undef :: .undef :: .undef :: .undef :: .undef :: .undef :: .undef :: .undef :: .undef :: .undef :: []), []⟩ (FinQ [.tmp 2, .tmp 3] 0 r)) : ∀ (l2 l1 : List ZoneP) (acc : Bs), l1 ++ l2 = t.zones → acc ++ l2.flatMap zoneB = X →
    Run mach0 (.c printer_Tariff_l1b :: .lp printer_Tariff_l1 :: .endB 0 :: .c printer_Tariff_k4 :: []) .norm
      ⟨(.undef :: .rptr (tariffW z t).cells :: .undef :: .undef :: .undef :: .undef :: .sl true 1 (B acc) :: .undef :: .undef :: .undef :: .undef :: .undef :: .undef :: .undef :: .undef :: .undef :: .undef :: .undef :: .undef :: .undef :: .undef :: .undef :: .undef :: .undef :: .undef :: .undef :: .undef :: .undef :: .undef :: .undef :: .undef :: .undef :: .undef :: .undef :: .undef :: .undef :: .undef :: .undef :: .undef :: .undef :: .undef :: .undef :: .undef :: .undef :: .undef :: .undef :: .undef :: .undef :: .undef :: .undef :: .undef :: .undef :: .sl false 2 (t.zones.map zoneV) :: .int .i64 t.zones.length :: .int .i64 l1.length :: .undef :: .undef :: .undef :: .undef :: .undef :: .undef :: .undef :: .undef :: .undef :: .undef :: .undef :: .undef :: .undef :: .undef :: .undef :: .undef :: .undef :: .undef :: .undef :: .undef :: .undef :: .undef :: .undef :: .undef :: .undef :: .undef :: .undef :: .undef :: .undef :: .undef :: .undef :: .undef :: .undef :: .undef :: .undef :: .undef :: .undef :: .undef :: .undef :: .undef :: .undef :: .undef :: .undef :: .undef :: .undef :: .undef :: .undef :: .undef :: .undef :: .undef :: .undef :: .undef :: .undef :: .undef :: .undef :: .undef :: .undef :: .undef :: .undef :: .undef :: .undef :: .undef :: .undef :: .undef :: .undef :: .undef :: .undef :: []), []⟩ (FinQ [.tmp 2, .tmp 3] 0 r)
  | [], l1, acc, he, hx => by
    have q : ¬ ((l1.length : Int) < t.zones.length) := by rw [← he]; simp
    have hx : acc = X := by simpa using hx
    subst hx
    simp only [tariffW, V.cells] at hk ⊢
    unfold printer_Tariff_l1b
    simp [go_sem, q, printer_Tariff_k4]
    exact hk
  | a :: l2, l1, acc, he, hx => by
    have ih := pt_zones z t h hB X hX r hk l2 (l1 ++ [a]) (acc ++ zoneB a) (by rw [← he]; simp) (by rw [← hx]; simp)
    have hle := one_le zoneB (l1 := l1) hx
    have hn := hB.zones
    have len : t.zones.length = l1.length + (l2.length + 1) := by rw [← he]; simp
    have q : (l1.length : Int) < t.zones.length := by omega
    have q' : l1.length < t.zones.length := by omega
    have w : IntKind.wrap .i64 ((l1.length : Int) + 1) = l1.length + 1 := wrap_i64 (by omega)
    have o1 : acc.length + (zoneB a).length ≤ 140737488355328 := by omega
    have hnth : nth (t.zones.map zoneV) l1.length = zoneV a := by rw [← he]; exact nth_mapA _ _ _ _
    have hok := h.zones a (by rw [← he]; simp)
    clear hx hk
    simp only [List.length_append, List.length_cons, List.length_nil, Nat.zero_add, tariffW, V.cells] at ih ⊢
    unfold printer_Tariff_l1b
    have hs := sum_pref a.pref hok.pref
    have hpl := hB.pref a (by rw [← he]; simp)
    have el := e_list a.pref (by omega) (by omega)
    have ej := e_join true [[122, 111, 110, 101, 32], a.name, [32], joinB a.pref, [32, 59, 10]] (by simp) (by rw [zoneB_eq] at hle; simp only [List.length_append, List.length_cons, List.length_nil] at hle; simp only [sumL, List.length_cons, List.length_nil]; omega)
    simp only [List.map_cons, List.map_nil, List.flatten_cons, List.flatten_nil, List.append_nil] at ej
    rw [← zoneB_eq] at ej
    simp only [zoneV] at hnth
    generalize joinB a.pref = jj at *
    generalize zoneB a = el2 at *
    simp [go_sem, q, q', hnth, el, ej, o1, w]
    simpa using ih
theorem pt_bands (z : Nat) (t : TariffP) (h : WholeOk t) (hB : TB t) (X : Bs) (hX : X.length ≤ 100000000000) (r : Rt)
    (hk : Run mach0 (.c printer_Tariff_k3b :: []) .norm ⟨(.undef :: .rptr (tariffW z t).cells :: .undef :: .undef :: .undef :: .undef :: .sl true 1 (B X) :: .undef :: .undef :: .undef :: .undef :: .undef :: .undef :: .undef :: .undef :: .undef :: .undef :: .undef :: .undef :: .undef :: .undef :: .undef :: .undef :: .undef :: .undef :: .undef :: .undef :: .undef :: .undef :: .undef :: .undef :: .undef :: .undef :: .undef :: .undef :: .undef :: .undef :: .undef :: .undef :: .undef :: .undef :: .undef :: .undef :: .undef :: .undef :: .undef :: .undef :: .undef :: .undef :: .undef :: .undef :: .undef :: .undef :: .undef :: .undef :: .undef :: .undef :: .undef :: .undef :: .undef :: .undef :: .undef :: .undef :: .undef :: .undef :: .undef :: .undef :: .undef :: .undef :: .undef :: .undef :: .undef :: .undef :: .undef :: .undef :: .undef :: .undef :: .undef :: .undef :: .undef :: .undef :: .undef :: .undef :: .undef :: .undef :: .undef :: .undef :: .undef :: .undef :: .undef :: .undef :: .undef :: .undef :: .undef :: .undef :: .undef :: .undef :: .undef :: .undef :: .undef :: .undef :: .undef :: .undef :: .undef :: .undef :: .undef :: .undef :: .undef :: .undef :: .undef :: .undef :: .undef :: .undef :: .undef :: .undef :: .undef :: .undef :: .undef :: .undef :: .undef :: .undef :: .undef :: []), []⟩ (FinQ [.tmp 2, .tmp 3] 0 r)) : ∀ (l2 l1 : List BandP) (acc : Bs), l1 ++ l2 = t.bands → acc ++ l2.flatMap bandB = X →
    Run mach0 (.c printer_Tariff_l2b :: .lp printer_Tariff_l2 :: .endB 2 :: .c printer_Tariff_k3 :: []) .norm
      ⟨(.undef :: .rptr (tariffW z t).cells :: .undef :: .undef :: .undef :: .undef :: .sl true 1 (B acc) :: .undef :: .undef :: .undef :: .undef :: .undef :: .undef :: .undef :: .undef :: .undef :: .undef :: .undef :: .undef :: .undef :: .undef :: .undef :: .undef :: .undef :: .undef :: .undef :: .undef :: .undef :: .undef :: .undef :: .undef :: .undef :: .undef :: .undef :: .undef :: .undef :: .undef :: .undef :: .undef :: .undef :: .undef :: .undef :: .undef :: .undef :: .undef :: .undef :: .undef :: .undef :: .undef :: .undef :: .undef :: .undef :: .undef :: .undef :: .undef :: .undef :: .undef :: .undef :: .undef :: .undef :: .undef :: .undef :: .undef :: .undef :: .undef :: .undef :: .undef :: .undef :: .undef :: .sl false 2 (t.bands.map (bandW z)) :: .int .i64 t.bands.length :: .int .i64 l1.length :: .undef :: .undef :: .undef :: .undef :: .undef :: .undef :: .undef :: .undef :: .undef :: .undef :: .undef :: .undef :: .undef :: .undef :: .undef :: .undef :: .undef :: .undef :: .undef :: .undef :: .undef :: .undef :: .undef :: .undef :: .undef :: .undef :: .undef :: .undef :: .undef :: .undef :: .undef :: .undef :: .undef :: .undef :: .undef :: .undef :: .undef :: .undef :: .undef :: .undef :: .undef :: .undef :: .undef :: .undef :: .undef :: .undef :: .undef :: .undef :: .undef :: .undef :: []), []⟩ (FinQ [.tmp 2, .tmp 3] 0 r)
  | [], l1, acc, he, hx => by
    have q : ¬ ((l1.length : Int) < t.bands.length) := by rw [← he]; simp
    have hx : acc = X := by simpa using hx
    subst hx
    simp only [tariffW, V.cells] at hk ⊢
    unfold printer_Tariff_l2b
    simp [go_sem, q, printer_Tariff_k3]
    exact hk
  | a :: l2, l1, acc, he, hx => by
    have ih := pt_bands z t h hB X hX r hk l2 (l1 ++ [a]) (acc ++ bandB a) (by rw [← he]; simp) (by rw [← hx]; simp)
    have hle := one_le bandB (l1 := l1) hx
    have hn := hB.bands
    have len : t.bands.length = l1.length + (l2.length + 1) := by rw [← he]; simp
    have q : (l1.length : Int) < t.bands.length := by omega
    have q' : l1.length < t.bands.length := by omega
    have w : IntKind.wrap .i64 ((l1.length : Int) + 1) = l1.length + 1 := wrap_i64 (by omega)
    have o1 : acc.length + (bandB a).length ≤ 140737488355328 := by omega
    have hnth : nth (t.bands.map (bandW z)) l1.length = (bandW z) a := by rw [← he]; exact nth_mapA _ _ _ _
    have hok := h.bands a (by rw [← he]; simp)
    clear hx hk
    simp only [List.length_append, List.length_cons, List.length_nil, Nat.zero_add, tariffW, V.cells] at ih ⊢
    unfold printer_Tariff_l2b
    have el := e_pslots z a.slots (hB.slots a (by rw [← he]; simp)) hok.slots
    have ej := e_join true [[98, 97, 110, 100, 32], a.name, [32], slotsB a.slots, [32, 59, 10]] (by simp) (by rw [bandB_eq] at hle; simp only [List.length_append, List.length_cons, List.length_nil] at hle; simp only [sumL, List.length_cons, List.length_nil]; omega)
    simp only [List.map_cons, List.map_nil, List.flatten_cons, List.flatten_nil, List.append_nil] at ej
    rw [← bandB_eq] at ej
    simp only [bandW, slW] at hnth
    generalize slotsB a.slots = jj at *
    generalize bandB a = el2 at *
    generalize (if a.slots = [] then z else 3) = zz at *
    simp [go_sem, q, q', hnth, el, ej, o1, w]
    simpa using ih
theorem pt_rates (z : Nat) (t : TariffP) (h : WholeOk t) (hB : TB t) (X : Bs) (hX : X.length ≤ 100000000000) (r : Rt)
    (hk : Run mach0 (.c printer_Tariff_k2b :: []) .norm ⟨(.undef :: .rptr (tariffW z t).cells :: .undef :: .undef :: .undef :: .undef :: .sl true 1 (B X) :: .undef :: .undef :: .undef :: .undef :: .undef :: .undef :: .undef :: .undef :: .undef :: .undef :: .undef :: .undef :: .undef :: .undef :: .undef :: .undef :: .undef :: .undef :: .undef :: .undef :: .undef :: .undef :: .undef :: .undef :: .undef :: .undef :: .undef :: .undef :: .undef :: .undef :: .undef :: .undef :: .undef :: .undef :: .undef :: .undef :: .undef :: .undef :: .undef :: .undef :: .undef :: .undef :: .undef :: .undef :: .undef :: .undef :: .undef :: .undef :: .undef :: .undef :: .undef :: .undef :: .undef :: .undef :: .undef :: .undef :: .undef :: .undef :: .undef :: .undef :: .undef :: .undef :: .undef :: .undef :: .undef :: .undef :: .undef :: .undef :: .undef :: .undef :: .undef :: .undef :: .undef :: .undef :: .undef :: .undef :: .undef :: .undef :: .undef :: .undef :: .undef :: .undef :: .undef :: .undef :: .undef :: .undef :: .undef :: .undef :: .undef :: .undef :: .undef :: .undef :: .undef :: .undef :: .undef :: .undef :: .undef :: .undef :: .undef :: .undef :: .undef :: .undef :: .undef :: .undef :: .undef :: .undef :: .undef :: .undef :: .undef :: .undef :: .undef :: .undef :: .undef :: .undef :: .undef :: []), []⟩ (FinQ [.tmp 2, .tmp 3] 0 r)) : ∀ (l2 l1 : List RateP) (acc : Bs), l1 ++ l2 = t.rates → acc ++ l2.flatMap rateB = X →
    Run mach0 (.c printer_Tariff_l3b :: .lp printer_Tariff_l3 :: .endB 4 :: .c printer_Tariff_k2 :: []) .norm
      ⟨(.undef :: .rptr (tariffW z t).cells :: .undef :: .undef :: .undef :: .undef :: .sl true 1 (B acc) :: .undef :: .undef :: .undef :: .undef :: .undef :: .undef :: .undef :: .undef :: .undef :: .undef :: .undef :: .undef :: .undef :: .undef :: .undef :: .undef :: .undef :: .undef :: .undef :: .undef :: .undef :: .undef :: .undef :: .undef :: .undef :: .undef :: .undef :: .undef :: .undef :: .undef :: .undef :: .undef :: .undef :: .undef :: .undef :: .undef :: .undef :: .undef :: .undef :: .undef :: .undef :: .undef :: .undef :: .undef :: .undef :: .undef :: .undef :: .undef :: .undef :: .undef :: .undef :: .undef :: .undef :: .undef :: .undef :: .undef :: .undef :: .undef :: .undef :: .undef :: .undef :: .undef :: .undef :: .undef :: .undef :: .undef :: .undef :: .undef :: .undef :: .undef :: .undef :: .undef :: .undef :: .undef :: .undef :: .undef :: .undef :: .undef :: .undef :: .sl false 5 (t.rates.map rateV) :: .int .i64 t.rates.length :: .int .i64 l1.length :: .undef :: .undef :: .undef :: .undef :: .undef :: .undef :: .undef :: .undef :: .undef :: .undef :: .undef :: .undef :: .undef :: .undef :: .undef :: .undef :: .undef :: .undef :: .undef :: .undef :: .undef :: .undef :: .undef :: .undef :: .undef :: .undef :: .undef :: .undef :: .undef :: .undef :: .undef :: .undef :: .undef :: []), []⟩ (FinQ [.tmp 2, .tmp 3] 0 r)
  | [], l1, acc, he, hx => by
    have q : ¬ ((l1.length : Int) < t.rates.length) := by rw [← he]; simp
    have hx : acc = X := by simpa using hx
    subst hx
    simp only [tariffW, V.cells] at hk ⊢
    unfold printer_Tariff_l3b
    simp [go_sem, q, printer_Tariff_k2]
    exact hk
  | a :: l2, l1, acc, he, hx => by
    have ih := pt_rates z t h hB X hX r hk l2 (l1 ++ [a]) (acc ++ rateB a) (by rw [← he]; simp) (by rw [← hx]; simp)
    have hle := one_le rateB (l1 := l1) hx
    have hn := hB.rates
    have len : t.rates.length = l1.length + (l2.length + 1) := by rw [← he]; simp
    have q : (l1.length : Int) < t.rates.length := by omega
    have q' : l1.length < t.rates.length := by omega
    have w : IntKind.wrap .i64 ((l1.length : Int) + 1) = l1.length + 1 := wrap_i64 (by omega)
    have o1 : acc.length + (rateB a).length ≤ 140737488355328 := by omega
    have hnth : nth (t.rates.map rateV) l1.length = rateV a := by rw [← he]; exact nth_mapA _ _ _ _
    have hok := h.rates a (by rw [← he]; simp)
    clear hx hk
    simp only [List.length_append, List.length_cons, List.length_nil, Nat.zero_add, tariffW, V.cells] at ih ⊢
    unfold printer_Tariff_l3b
    have el := e_prate a hok (hB.steps a (by rw [← he]; simp))
    simp only [rateV] at hnth el
    generalize rateB a = el2 at *
    simp [go_sem, q, q', hnth, el, o1, w]
    simpa using ih
theorem pt_discs (z : Nat) (t : TariffP) (h : WholeOk t) (hB : TB t) (X : Bs) (hX : X.length ≤ 100000000000) (r : Rt)
    (hk : Run mach0 (.c printer_Tariff_k1b :: []) .norm ⟨(.undef :: .undef :: .undef :: .undef :: .undef :: .undef :: .sl true 1 (B X) :: .undef :: .undef :: .undef :: .undef :: .undef :: .undef :: .undef :: .undef :: .undef :: .undef :: .undef :: .undef :: .undef :: .undef :: .undef :: .undef :: .undef :: .undef :: .undef :: .undef :: .undef :: .undef :: .undef :: .undef :: .undef :: .undef :: .undef :: .undef :: .undef :: .undef :: .undef :: .undef :: .undef :: .undef :: .undef :: .undef :: .undef :: .undef :: .undef :: .undef :: .undef :: .undef :: .undef :: .undef :: .undef :: .undef :: .undef :: .undef :: .undef :: .undef :: .undef :: .undef :: .undef :: .undef :: .undef :: .undef :: .undef :: .undef :: .undef :: .undef :: .undef :: .undef :: .undef :: .undef :: .undef :: .undef :: .undef :: .undef :: .undef :: .undef :: .undef :: .undef :: .undef :: .undef :: .undef :: .undef :: .undef :: .undef :: .undef :: .undef :: .undef :: .undef :: .undef :: .undef :: .undef :: .undef :: .undef :: .undef :: .undef :: .undef :: .undef :: .undef :: .undef :: .undef :: .undef :: .undef :: .undef :: .undef :: .undef :: .undef :: .undef :: .undef :: .undef :: .undef :: .undef :: .undef :: .undef :: .undef :: .undef :: .undef :: .undef :: .undef :: .undef :: .undef :: .undef :: []), []⟩ (FinQ [.tmp 2, .tmp 3] 0 r)) : ∀ (l2 l1 : List DiscP) (acc : Bs), l1 ++ l2 = t.discs → acc ++ l2.flatMap discB = X →
    Run mach0 (.c printer_Tariff_l4b :: .lp printer_Tariff_l4 :: .endB 6 :: .c printer_Tariff_k1 :: []) .norm
      ⟨(.undef :: .undef :: .undef :: .undef :: .undef :: .undef :: .sl true 1 (B acc) :: .undef :: .undef :: .undef :: .undef :: .undef :: .undef :: .undef :: .undef :: .undef :: .undef :: .undef :: .undef :: .undef :: .undef :: .undef :: .undef :: .undef :: .undef :: .undef :: .undef :: .undef :: .undef :: .undef :: .undef :: .undef :: .undef :: .undef :: .undef :: .undef :: .undef :: .undef :: .undef :: .undef :: .undef :: .undef :: .undef :: .undef :: .undef :: .undef :: .undef :: .undef :: .undef :: .undef :: .undef :: .undef :: .undef :: .undef :: .undef :: .undef :: .undef :: .undef :: .undef :: .undef :: .undef :: .undef :: .undef :: .undef :: .undef :: .undef :: .undef :: .undef :: .undef :: .undef :: .undef :: .undef :: .undef :: .undef :: .undef :: .undef :: .undef :: .undef :: .undef :: .undef :: .undef :: .undef :: .undef :: .undef :: .undef :: .undef :: .undef :: .undef :: .undef :: .undef :: .undef :: .undef :: .undef :: .undef :: .undef :: .undef :: .undef :: .undef :: .sl false 6 (t.discs.map discV) :: .int .i64 t.discs.length :: .int .i64 l1.length :: .undef :: .undef :: .undef :: .undef :: .undef :: .undef :: .undef :: .undef :: .undef :: .undef :: .undef :: .undef :: .undef :: .undef :: .undef :: .undef :: .undef :: .undef :: .undef :: .undef :: .undef :: []), []⟩ (FinQ [.tmp 2, .tmp 3] 0 r)
  | [], l1, acc, he, hx => by
    have q : ¬ ((l1.length : Int) < t.discs.length) := by rw [← he]; simp
    have hx : acc = X := by simpa using hx
    subst hx
    skip
    unfold printer_Tariff_l4b
    simp [go_sem, q, printer_Tariff_k1]
    exact hk
  | a :: l2, l1, acc, he, hx => by
    have ih := pt_discs z t h hB X hX r hk l2 (l1 ++ [a]) (acc ++ discB a) (by rw [← he]; simp) (by rw [← hx]; simp)
    have hle := one_le discB (l1 := l1) hx
    have hn := hB.discs
    have len : t.discs.length = l1.length + (l2.length + 1) := by rw [← he]; simp
    have q : (l1.length : Int) < t.discs.length := by omega
    have q' : l1.length < t.discs.length := by omega
    have w : IntKind.wrap .i64 ((l1.length : Int) + 1) = l1.length + 1 := wrap_i64 (by omega)
    have o1 : acc.length + (discB a).length ≤ 140737488355328 := by omega
    have hnth : nth (t.discs.map discV) l1.length = discV a := by rw [← he]; exact nth_mapA _ _ _ _
    have hok := h.discs a (by rw [← he]; simp)
    clear hx hk
    simp only [List.length_append, List.length_cons, List.length_nil, Nat.zero_add] at ih
    unfold printer_Tariff_l4b
    have el := e_ptxt a.cond hok.cond (by rw [discB_eq] at hle; simp only [List.length_append, List.length_cons, List.length_nil] at hle; omega)
    have ed := e_dec hok.points
    have ej := e_join true [[100, 105, 115, 99, 111, 117, 110, 116, 32], a.name, [32], decZ a.points, [32, 112, 111, 105, 110, 116, 115, 32, 119, 104, 101, 110, 32], txtE a.cond, [32, 59, 10]] (by simp) (by rw [discB_eq] at hle; simp only [List.length_append, List.length_cons, List.length_nil] at hle; simp only [sumL, List.length_cons, List.length_nil]; omega)
    simp only [List.map_cons, List.map_nil, List.flatten_cons, List.flatten_nil, List.append_nil] at ej
    rw [← discB_eq] at ej
    generalize discB a = el2 at *
    obtain ⟨name, points, cond⟩ := a
    obtain ⟨op2, num2, text2, args2⟩ := cond
    simp only [discV, exprC, List.cons_append, List.nil_append] at hnth
    simp only [exprV] at el ed ej
    generalize txtE (.mk op2 num2 text2 args2) = jj at *
    generalize decZ points = dd at *
    simp [go_sem, q, q', hnth, el, ed, ej, o1, w]
    simpa using ih
def PTV (X : Bs) : V := if 65536 < X.length then .tup [.str [], .int .i64 5] else .tup [.str X, .int .i64 0]
theorem pt_rest (z : Nat) (t : TariffP) (h : WholeOk t) (hB : TB t) (hX : (tariffB t).length ≤ 100000000000) :
    Run mach0 (.c printer_Tariff_l1b :: .lp printer_Tariff_l1 :: .endB 0 :: .c printer_Tariff_k4 :: []) .norm
      ⟨(.undef :: .rptr (tariffW z t).cells :: .undef :: .undef :: .undef :: .undef :: .sl true 1 (B (headB t)) :: .undef :: .undef :: .undef :: .undef :: .undef :: .undef :: .undef :: .undef :: .undef :: .undef :: .undef :: .undef :: .undef :: .undef :: .undef :: .undef :: .undef :: .undef :: .undef :: .undef :: .undef :: .undef :: .undef :: .undef :: .undef :: .undef :: .undef :: .undef :: .undef :: .undef :: .undef :: .undef :: .undef :: .undef :: .undef :: .undef :: .undef :: .undef :: .undef :: .undef :: .undef :: .undef :: .undef :: .undef :: .undef :: .sl false 2 (t.zones.map zoneV) :: .int .i64 t.zones.length :: .int .i64 0 :: .undef :: .undef :: .undef :: .undef :: .undef :: .undef :: .undef :: .undef :: .undef :: .undef :: .undef :: .undef :: .undef :: .undef :: .undef :: .undef :: .undef :: .undef :: .undef :: .undef :: .undef :: .undef :: .undef :: .undef :: .undef :: .undef :: .undef :: .undef :: .undef :: .undef :: .undef :: .undef :: .undef :: .undef :: .undef :: .undef :: .undef :: .undef :: .undef :: .undef :: .undef :: .undef :: .undef :: .undef :: .undef :: .undef :: .undef :: .undef :: .undef :: .undef :: .undef :: .undef :: .undef :: .undef :: .undef :: .undef :: .undef :: .undef :: .undef :: .undef :: .undef :: .undef :: .undef :: .undef :: .undef :: .undef :: .undef :: []), []⟩ (FinQ [.tmp 2, .tmp 3] 0 (.ret (PTV (tariffB t)) [])) := by
  have hX2 := hX
  simp only [tariffB, List.length_append] at hX2
  have e0 : tariffB t = ((headB t ++ t.zones.flatMap zoneB) ++ t.bands.flatMap bandB ++ t.rates.flatMap rateB) ++ t.discs.flatMap discB := by simp only [tariffB, List.append_assoc]
  have last : Run mach0 (.c printer_Tariff_k1b :: []) .norm ⟨(.undef :: .undef :: .undef :: .undef :: .undef :: .undef :: .sl true 1 (B (tariffB t)) :: .undef :: .undef :: .undef :: .undef :: .undef :: .undef :: .undef :: .undef :: .undef :: .undef :: .undef :: .undef :: .undef :: .undef :: .undef :: .undef :: .undef :: .undef :: .undef :: .undef :: .undef :: .undef :: .undef :: .undef :: .undef :: .undef :: .undef :: .undef :: .undef :: .undef :: .undef :: .undef :: .undef :: .undef :: .undef :: .undef :: .undef :: .undef :: .undef :: .undef :: .undef :: .undef :: .undef :: .undef :: .undef :: .undef :: .undef :: .undef :: .undef :: .undef :: .undef :: .undef :: .undef :: .undef :: .undef :: .undef :: .undef :: .undef :: .undef :: .undef :: .undef :: .undef :: .undef :: .undef :: .undef :: .undef :: .undef :: .undef :: .undef :: .undef :: .undef :: .undef :: .undef :: .undef :: .undef :: .undef :: .undef :: .undef :: .undef :: .undef :: .undef :: .undef :: .undef :: .undef :: .undef :: .undef :: .undef :: .undef :: .undef :: .undef :: .undef :: .undef :: .undef :: .undef :: .undef :: .undef :: .undef :: .undef :: .undef :: .undef :: .undef :: .undef :: .undef :: .undef :: .undef :: .undef :: .undef :: .undef :: .undef :: .undef :: .undef :: .undef :: .undef :: .undef :: .undef :: []), []⟩ (FinQ [.tmp 2, .tmp 3] 0 (.ret (PTV (tariffB t)) [])) := by
    unfold PTV printer_Tariff_k1b
    generalize tariffB t = x at *
    by_cases hl : 65536 < x.length
    · have hl' : (65536 : Int) < x.length := by omega
      simp [go_sem, hl, hl']
    · have hl' : ¬ (65536 : Int) < x.length := by omega
      simp [go_sem, hl, hl']
  have d := pt_discs z t h hB (tariffB t) hX _ last t.discs [] ((headB t ++ t.zones.flatMap zoneB) ++ t.bands.flatMap bandB ++ t.rates.flatMap rateB) rfl e0.symm
  have r := pt_rates z t h hB ((headB t ++ t.zones.flatMap zoneB) ++ t.bands.flatMap bandB ++ t.rates.flatMap rateB) (by simp only [List.length_append]; omega) (.ret (PTV (tariffB t)) []) (by
    simp only [tariffW, V.cells]
    generalize ((headB t ++ t.zones.flatMap zoneB) ++ t.bands.flatMap bandB ++ t.rates.flatMap rateB) = y at *
    unfold printer_Tariff_k2b
    simp [go_sem]
    simpa using d) t.rates [] ((headB t ++ t.zones.flatMap zoneB) ++ t.bands.flatMap bandB) rfl rfl
  have b := pt_bands z t h hB ((headB t ++ t.zones.flatMap zoneB) ++ t.bands.flatMap bandB) (by simp only [List.length_append]; omega) (.ret (PTV (tariffB t)) []) (by
    simp only [tariffW, V.cells] at r ⊢
    generalize ((headB t ++ t.zones.flatMap zoneB) ++ t.bands.flatMap bandB) = y at *
    unfold printer_Tariff_k3b
    simp [go_sem]
    simpa using r) t.bands [] (headB t ++ t.zones.flatMap zoneB) rfl rfl
  have zz := pt_zones z t h hB (headB t ++ t.zones.flatMap zoneB) (by simp only [List.length_append]; omega) (.ret (PTV (tariffB t)) []) (by
    simp only [tariffW, V.cells] at b ⊢
    generalize (headB t ++ t.zones.flatMap zoneB) = y at *
    unfold printer_Tariff_k4b
    simp [go_sem]
    simpa using b) t.zones [] (headB t) rfl rfl
  exact zz
end Go.Am
namespace Go.Am
open Go Go.Pu
theorem k2_lenA (n : Int) : (k2 n).length = 2 := digs_length 2 _
theorem dayB_lenA (day : Int) : (dayB day).length = 10 := by simp [dayB, dateB, digs_length]
theorem clockB_eq (s : Nat) : clockB (s : Int) = k2 ((s / 3600 : Nat) : Int) ++ ([58] ++ (k2 ((s / 60 % 60 : Nat) : Int) ++ ([58] ++ k2 ((s % 60 : Nat) : Int)))) := by
 have e1 : ((s : Int) / 60) / 60 = ((s / 3600 : Nat) : Int) := by omega
 have e2 : ((s : Int) / 60) % 60 = ((s / 60 % 60 : Nat) : Int) := by omega
 have e3 : (s : Int) % 60 = ((s % 60 : Nat) : Int) := by omega
 simp only [clockB, minuteB, e1, e2, e3]
 simp
theorem headB_eq (t : TariffP) : headB t = [116, 97, 114, 105, 102, 102, 32] ++ (t.name ++ ([32, 102, 114, 111, 109, 32] ++ ((dayB (t.start / 86400) ++ (clockO (t.start % 86400) ++ splitO t.split)) ++ [32, 59, 10]))) := by
 simp [headB, kTariff, kFrom, lineE]
theorem e_dayB {day : Int} (h0 : 0 ≤ day) (h1 : day < 146097) : acall mach0 n_calendar_Print [.int .i64 day] [] = some (.ret (.str (dayB day)) []) := by
 have hd := ymd_ok h0 h1
 have a1 := hd.y1; have a2 := hd.y2; have a3 := hd.m1; have a4 := hd.m2; have a5 := hd.d1; have a6 := hd.d2
 have a7 := dlen_hi (ymd day).1 (ymd day).2.1
 have e1 : (((ymd day).1.toNat : Nat) : Int) = (ymd day).1 := by omega
 have e2 : (((ymd day).2.1.toNat : Nat) : Int) = (ymd day).2.1 := by omega
 have e3 : (((ymd day).2.2.toNat : Nat) : Int) = (ymd day).2.2 := by omega
 have := e_Print (day := day) (y := (ymd day).1.toNat) (m := (ymd day).2.1.toNat) (d := (ymd day).2.2.toNat) (by rw [e1, e2, e3]; exact hd) h0 h1 (by omega) (by omega) (by omega) []
 rw [this]
 simp [dayB, dateB, prD]
noncomputable def PTariffV (t : TariffP) : V := if wholeB t then PTV (tariffB t) else .tup [.str [], .int .i64 8]
theorem e_PTariff (z : Nat) (t : TariffP) (hB : TB t) (hX : WholeOk t → (tariffB t).length ≤ 100000000000) : acall mach0 n_printer_Tariff [tariffW z t] [] = some (.ret (PTariffV t) []) := by
 have ew := e_whole z t hB
 unfold PTariffV
 cases hw : wholeB t with
 | false =>
  rw [hw] at ew
  refine acall_fn rfl (af := a_printer_Tariff) rfl rfl ?_
  simp only [tariffW] at ew ⊢
  simp [List.replicate, go_sem, ew]
 | true =>
  rw [hw] at ew
  have h := wholeB_iff.1 hw
  have run := pt_rest z t h hB (hX h)
  have hh := headB_eq t
  have hle : (headB t).length ≤ 100000000000 := by
   have := hX h
   simp only [tariffB, List.length_append] at this
   omega
  obtain ⟨n, hn⟩ := Int.eq_ofNat_of_zero_le h.s1
  have hn2 := h.s2
  have t1 : t.start.tdiv 86400 = t.start / 86400 := Int.tdiv_eq_ediv_of_nonneg h.s1
  have t2 : t.start.tmod 86400 = t.start % 86400 := Int.tmod_eq_emod_of_nonneg h.s1
  have w1 : IntKind.wrap .i64 (t.start / 86400) = t.start / 86400 := wrap_i64 (by omega)
  have ed := e_dayB (day := t.start / 86400) (by omega) (by omega)
  have l1 := dayB_lenA (t.start / 86400)
  obtain ⟨s, hs⟩ : ∃ s : Nat, t.start % 86400 = (s : Int) := ⟨(t.start % 86400).toNat, by omega⟩
  have hs2 : s < 86400 := by omega
  refine acall_fn rfl (af := a_printer_Tariff) rfl rfl ?_
  -- the date, the clock, the word split
  have lc : (clockO (s : Int)).length ≤ 9 := by
   unfold clockO
   split
   ·simp
   ·simp [clockB_eq, k2_lenA]
  have ls : (splitO t.split).length ≤ 6 := by unfold splitO; split <;> decide
  have ej := e_join false [[116, 97, 114, 105, 102, 102, 32], t.name, [32, 102, 114, 111, 109, 32], dayB (t.start / 86400) ++ (clockO (t.start % 86400) ++ splitO t.split), [32, 59, 10]] (by simp) (by
   rw [hh] at hle
   simp only [List.length_append, List.length_cons, List.length_nil] at hle
   simp only [sumL, List.length_append, List.length_cons, List.length_nil]; omega)
  simp only [List.map_cons, List.map_nil, List.flatten_cons, List.flatten_nil, List.append_nil] at ej
  rw [← hh, hs] at ej
  have sp := e_join false [dayB (t.start / 86400) ++ clockO (s : Int), [32, 115, 112, 108, 105, 116]] (by simp) (by simp only [sumL, List.length_append, List.length_cons, List.length_nil]; omega)
  simp only [List.map_cons, List.map_nil, List.flatten_cons, List.flatten_nil, List.append_nil] at sp
  rw [hs] at t2
  have o1 : (headB t).length ≤ 140737488355328 := by omega
  clear hX hh hle
  simp only [tariffW, V.cells] at ew run ⊢
  generalize tariffB t = X at *
  generalize headB t = hB0 at *
  generalize dayB (t.start / 86400) = D at *
  by_cases h0 : s = 0
  ·subst h0
   have hc0 : clockO ((0 : Nat) : Int) = [] := rfl
   rw [hc0] at ej sp
   cases hsp : t.split with
   | false =>
    rw [hsp] at ej ew run
    have hs0 : splitO false = [] := rfl
    rw [hs0] at ej
    simp at t2 ej
    simp [List.replicate, go_sem, ew, t1, t2, w1, ed, ej, o1]
    simpa using run
   | true =>
    rw [hsp] at ej ew run
    have hs0 : splitO true = [32, 115, 112, 108, 105, 116] := rfl
    rw [hs0] at ej
    simp at t2 ej sp
    simp [List.replicate, go_sem, ew, t1, t2, w1, ed, ej, sp, o1]
    simpa using run
  ·have hs1 : (0 : Int) < (s : Int) := by omega
   have hs1n : 0 < s := by omega
   have hc1 : clockO (s : Int) = 32 :: clockB (s : Int) := by unfold clockO; rw [if_neg (by omega)]
   have d1 := e_decimal2 (s / 3600) (by omega)
   have d2 := e_decimal2 (s / 60 % 60) (by omega)
   have d3 := e_decimal2 (s % 60) (by omega)
   have u1 : (s : Int).tdiv 3600 = ((s / 3600 : Nat) : Int) := rfl
   have u2 : (s : Int).tdiv 60 = ((s / 60 : Nat) : Int) := rfl
   have u3 : ((s / 60 : Nat) : Int).tmod 60 = ((s / 60 % 60 : Nat) : Int) := rfl
   have u4 : (s : Int).tmod 60 = ((s % 60 : Nat) : Int) := rfl
   have v1 : IntKind.wrap .i64 ((s / 3600 : Nat) : Int) = ((s / 3600 : Nat) : Int) := wrap_i64 (by omega)
   have v2 : IntKind.wrap .i64 ((s / 60 : Nat) : Int) = ((s / 60 : Nat) : Int) := wrap_i64 (by omega)
   have k1 := k2_lenA ((s / 3600 : Nat) : Int)
   have k2' := k2_lenA ((s / 60 % 60 : Nat) : Int)
   have k3 := k2_lenA ((s % 60 : Nat) : Int)
   have ec := e_join false [D, [32], k2 ((s / 3600 : Nat) : Int), [58], k2 ((s / 60 % 60 : Nat) : Int), [58], k2 ((s % 60 : Nat) : Int)] (by simp) (by simp only [sumL, List.length_cons, List.length_nil]; omega)
   simp only [List.map_cons, List.map_nil, List.flatten_cons, List.flatten_nil, List.append_nil] at ec
   rw [hc1, clockB_eq] at ej sp
   generalize k2 ((s / 3600 : Nat) : Int) = K1 at *
   generalize k2 ((s / 60 % 60 : Nat) : Int) = K2 at *
   generalize k2 ((s % 60 : Nat) : Int) = K3 at *
   generalize s / 3600 = A1 at *
   generalize s / 60 % 60 = A2 at *
   generalize s / 60 = A4 at *
   generalize s % 60 = A3 at *
   cases hsp : t.split with
   | false =>
    rw [hsp] at ej ew run
    have hs0 : splitO false = [] := rfl
    rw [hs0] at ej
    simp at ej ec
    simp [List.replicate, go_sem, ew, t1, t2, w1, ed, ej, ec, o1, hs1, hs1n, d1, d2, d3, u1, u2, u3, u4, v1, v2]
    simpa using run
   | true =>
    rw [hsp] at ej ew run
    have hs0 : splitO true = [32, 115, 112, 108, 105, 116] := rfl
    rw [hs0] at ej
    simp at ej ec sp
    simp [List.replicate, go_sem, ew, t1, t2, w1, ed, ej, ec, sp, o1, hs1, hs1n, d1, d2, d3, u1, u2, u3, u4, v1, v2]
    simpa using run
end Go.Am
set_option maxRecDepth 100000
namespace Go.Am
open Go Go.Pu
theorem e_awake25 : acall mach0 n_billinglaw25_awake [] [] = some (.ret (.bool true) []) := (acall_iff _).2 ⟨120, by kernel_rfl⟩
mutual
def countE : PE → Nat
 | .mk _ _ _ args => 1 + countL args
def countL : List PE → Nat
 | [] => 0
 | a :: l => countE a + countL l
end
mutual
def smallE : PE → Bool
 | .mk _ _ text args => smallL args && decide (text.length ≤ 300) && decide (args.length ≤ 8) && decide (1 + countL args ≤ 120)
def smallL : List PE → Bool
 | [] => true
 | a :: l => smallE a && smallL l
end
theorem countE_mk (op num : Int) (text : Bs) (args : List PE) : countE (.mk op num text args) = 1 + countL args := by conv => lhs; unfold countE
theorem smallE_mk (op num : Int) (text : Bs) (args : List PE) : smallE (.mk op num text args) = (smallL args && decide (text.length ≤ 300) && decide (args.length ≤ 8) && decide (1 + countL args ≤ 120)) := by conv => lhs; unfold smallE
theorem countE_pos (e : PE) : 1 ≤ countE e := by obtain ⟨op, num, text, args⟩ := e; rw [countE_mk]; omega
theorem countL_len : ∀ l : List PE, l.length ≤ countL l
 | [] => by simp
 | a :: l => by
  have := countL_len l
  have := countE_pos a
  simp only [List.length_cons, countL]; omega
theorem countL_app : ∀ a b : List PE, countL (a ++ b) = countL a + countL b
 | [], b => by simp [countL]
 | x :: a, b => by simp only [List.cons_append, countL, countL_app a b]; omega
theorem smallL_mem : ∀ {l : List PE}, smallL l = true ↔ ∀ a ∈ l, smallE a = true
 | [] => by simp [smallL]
 | a :: l => by simp [smallL, smallL_mem (l := l)]
theorem count_l (op num : Int) (text : Bs) (args : List PE) (hc : countL args ≤ 1000000) (H : ∀ a ∈ args, acall mach0 n_billingref25_Count [exprV a] [] = some (.ret (.int .i64 (countE a)) [])) : ∀ (l2 l1 : List PE), l1 ++ l2 = args →
  Run mach0 (.c billingref25_Count_l1b :: .lp billingref25_Count_l1 :: .endB 0 :: .c billingref25_Count_k1 :: []) .norm
   ⟨(.undef :: .rptr [.int .i64 op, .int .i64 num, .str text, .sl false 4 (exprVs args)] :: .undef :: .int .i64 ((1 + countL l1 : Nat) : Int) :: .int .i64 l1.length :: .undef :: .undef :: .undef :: .undef :: .undef :: .undef :: .undef :: .undef :: .undef :: .undef :: .undef :: .undef :: .undef :: .undef :: .undef :: .undef :: []), []⟩ (FinQ [.tmp 2] 0 (.ret (.int .i64 ((1 + countL args : Nat) : Int)) []))
 | [], l1, he => by
  have hl := exprVs_lenA args
  have q : ¬ ((l1.length : Int) < args.length) := by rw [← he]; simp
  rw [List.append_nil] at he
  subst he
  unfold billingref25_Count_l1b
  simp [go_sem, hl, q, billingref25_Count_k1]
  simp [go_sem, billingref25_Count_k1b]
 | a :: l2, l1, he => by
  have ih := count_l op num text args hc H l2 (l1 ++ [a]) (by rw [← he]; simp)
  have hl := exprVs_lenA args
  have hcl := countL_len args
  have len : args.length = l1.length + (l2.length + 1) := by rw [← he]; simp
  have hsum : countL args = countL l1 + (countE a + countL l2) := by rw [← he, countL_app]; simp [countL]
  have q : (l1.length : Int) < args.length := by omega
  have q' : l1.length < args.length := by omega
  have w : IntKind.wrap .i64 ((l1.length : Int) + 1) = l1.length + 1 := wrap_i64 (by omega)
  have w2 : IntKind.wrap .i64 (((1 + countL l1 : Nat) : Int) + countE a) = ((1 + countL (l1 ++ [a]) : Nat) : Int) := by
   rw [wrap_i64 (by omega), countL_app]; simp [countL]; omega
  have hnth : nth (exprVs args) l1.length = exprV a := by rw [← he]; exact nth_exprVsA
  have e := H a (by rw [← he]; simp)
  simp only [List.length_append, List.length_cons, List.length_nil, Nat.zero_add] at ih
  generalize ((1 + countL (l1 ++ [a]) : Nat) : Int) = C2 at *
  generalize ((1 + countL l1 : Nat) : Int) = C1 at *
  generalize (countE a : Int) = C3 at *
  obtain ⟨op2, num2, text2, args2⟩ := a
  simp only [exprV] at hnth e
  unfold billingref25_Count_l1b
  simp [go_sem, hl, q, q', hnth, e, w, w2]
  simpa using ih
theorem e_Count : ∀ e : PE, countE e ≤ 1000000 → acall mach0 n_billingref25_Count [exprV e] [] = some (.ret (.int .i64 (countE e)) []) := by
 refine PE.ind ?_
 intro op num text args ih hc
 rw [countE_mk] at hc ⊢
 have hmem : ∀ a ∈ args, countE a ≤ countL args := by
  intro a ha
  obtain ⟨l1, l2, rfl⟩ := List.append_of_mem ha
  rw [countL_app]; simp only [countL]; omega
 have run := count_l op num text args (by omega) (fun a ha => ih a ha (by have := hmem a ha; omega)) args [] rfl
 refine acall_fn rfl (af := a_billingref25_Count) rfl rfl ?_
 simp only [exprV]
 simp [List.replicate, go_sem]
 simpa [countL] using run
inductive Sz : PE → Prop
 | mk (op num : Int) (text : Bs) (args : List PE) : args.length ≤ 1000000000000000 → (∀ a ∈ args, Sz a) → Sz (.mk op num text args)
theorem small_l (op num : Int) (text : Bs) (args : List PE) (hn : args.length ≤ 1000000000000000) (H : ∀ a ∈ args, acall mach0 n_billingref25_SmallExpr [exprV a] [] = some (.ret (.bool (smallE a)) [])) (R : Bool)
    (hk : smallL args = true → Run mach0 (.c billingref25_SmallExpr_k1b :: []) .norm ⟨(.undef :: .rptr [.int .i64 op, .int .i64 num, .str text, .sl false 4 (exprVs args)] :: .undef :: .undef :: .undef :: .undef :: .undef :: .undef :: .undef :: .undef :: .undef :: .undef :: .undef :: .undef :: .undef :: .undef :: .undef :: .undef :: .undef :: .undef :: .undef :: .undef :: .undef :: .undef :: .undef :: .undef :: .undef :: .undef :: .undef :: .undef :: .undef :: .undef :: .undef :: []), []⟩ (FinQ [.tmp 2] 0 (.ret (.bool R) []))) :
    ∀ (l2 l1 : List PE), l1 ++ l2 = args → smallL l1 = true →
    Run mach0 (.c billingref25_SmallExpr_l1b :: .lp billingref25_SmallExpr_l1 :: .endB 0 :: .c billingref25_SmallExpr_k1 :: []) .norm
      ⟨(.undef :: .rptr [.int .i64 op, .int .i64 num, .str text, .sl false 4 (exprVs args)] :: .undef :: .int .i64 l1.length :: .undef :: .undef :: .undef :: .undef :: .undef :: .undef :: .undef :: .undef :: .undef :: .undef :: .undef :: .undef :: .undef :: .undef :: .undef :: .undef :: .undef :: .undef :: .undef :: .undef :: .undef :: .undef :: .undef :: .undef :: .undef :: .undef :: .undef :: .undef :: .undef :: []), []⟩ (FinQ [.tmp 2] 0 (.ret (.bool (smallL l2 && R)) []))
  | [], l1, he, h1 => by
    have hl := exprVs_lenA args
    have q : ¬ ((l1.length : Int) < args.length) := by rw [← he]; simp
    rw [List.append_nil] at he
    subst he
    have hk := hk h1
    unfold billingref25_SmallExpr_l1b
    simp [go_sem, hl, q, billingref25_SmallExpr_k1]
    simpa [smallL] using hk
  | a :: l2, l1, he, h1 => by
    have hl := exprVs_lenA args
    have len : args.length = l1.length + (l2.length + 1) := by rw [← he]; simp
    have q : (l1.length : Int) < args.length := by omega
    have q' : l1.length < args.length := by omega
    have w : IntKind.wrap .i64 ((l1.length : Int) + 1) = l1.length + 1 := wrap_i64 (by omega)
    have hnth : nth (exprVs args) l1.length = exprV a := by rw [← he]; exact nth_exprVsA
    have e := H a (by rw [← he]; simp)
    have ih := small_l op num text args hn H R hk l2 (l1 ++ [a]) (by rw [← he]; simp)
    simp only [List.length_append, List.length_cons, List.length_nil, Nat.zero_add] at ih
    simp only [smallL]
    cases hs : smallE a with
    | false =>
      rw [hs] at e
      obtain ⟨op2, num2, text2, args2⟩ := a
      simp only [exprV] at hnth e
      unfold billingref25_SmallExpr_l1b
      simp [go_sem, hl, q, q', hnth, e]
    | true =>
      have ih2 := ih (by rw [smallL_mem] at h1 ⊢; intro b hb; simp at hb; rcases hb with hb | rfl; exact h1 b hb; exact hs)
      rw [hs] at e
      obtain ⟨op2, num2, text2, args2⟩ := a
      simp only [exprV] at hnth e
      unfold billingref25_SmallExpr_l1b
      simp [go_sem, hl, q, q', hnth, e, w]
      simpa using ih2
theorem smallE_count {e : PE} (h : smallE e = true) : countE e ≤ 120 := by
 obtain ⟨op, num, text, args⟩ := e
 rw [smallE_mk] at h
 simp only [Bool.and_eq_true, decide_eq_true_eq] at h
 rw [countE_mk]; exact h.2
theorem countL_small : ∀ (l : List PE), (∀ a ∈ l, countE a ≤ 120) → countL l ≤ 120 * l.length
 | [], _ => by simp [countL]
 | a :: l, h => by
  have := h a (by simp)
  have := countL_small l (fun b hb => h b (by simp [hb]))
  simp only [countL, List.length_cons]; omega
theorem e_SmallExpr : ∀ e : PE, Sz e → acall mach0 n_billingref25_SmallExpr [exprV e] [] = some (.ret (.bool (smallE e)) []) := by
 refine PE.ind ?_
 intro op num text args ih hS
 cases hS with
 | mk _ _ _ _ hn hN =>
  have hl := exprVs_lenA args
  rw [smallE_mk]
  have run := small_l op num text args hn (fun a ha => ih a ha (hN a ha)) (decide (text.length ≤ 300) && decide (args.length ≤ 8) && decide (1 + countL args ≤ 120)) (fun hsm => by
   unfold billingref25_SmallExpr_k1b
   by_cases h3 : text.length ≤ 300
   ·have h3' : (text.length : Int) ≤ 300 := by omega
    by_cases h8 : args.length ≤ 8
    ·have h8' : (args.length : Int) ≤ 8 := by omega
     have hcl := countL_small args (fun a ha => smallE_count (smallL_mem.1 hsm a ha))
     have ec := e_Count (.mk op num text args) (by rw [countE_mk]; omega)
     rw [countE_mk] at ec
     simp only [exprV] at ec
     by_cases hc : 1 + countL args ≤ 120
     ·have hc' : ((1 + countL args : Nat) : Int) ≤ 120 := by omega
      generalize ((1 + countL args : Nat) : Int) = C at *
      simp [go_sem, hl, h3, h3', h8, h8', ec, hc, hc']
     ·have hc' : ¬ ((1 + countL args : Nat) : Int) ≤ 120 := by omega
      generalize ((1 + countL args : Nat) : Int) = C at *
      simp [go_sem, hl, h3, h3', h8, h8', ec, hc, hc']
    ·have h8' : ¬ (args.length : Int) ≤ 8 := by omega
     simp [go_sem, hl, h3, h3', h8, h8']
   ·have h3' : ¬ (text.length : Int) ≤ 300 := by omega
    simp [go_sem, hl, h3, h3']) args [] rfl rfl
  refine acall_fn rfl (af := a_billingref25_SmallExpr) rfl rfl ?_
  simp only [exprV]
  simp [List.replicate, go_sem]
  simpa [Bool.and_assoc] using run
theorem smallE_tl : ∀ e : PE, smallE e = true → Tl e := by
 refine PE.ind ?_
 intro op num text args ih h
 rw [smallE_mk] at h
 simp only [Bool.and_eq_true, decide_eq_true_eq] at h
 exact .mk _ _ _ _ (by omega) (by omega) (fun a ha => ih a ha (smallL_mem.1 h.1.1.1 a ha))
theorem txt_count : ∀ e : PE, prb e = true → (txtE e).length ≤ 320 * countE e := by
 have par : ∀ (a : PE) (k : Nat), (txtO a k).length ≤ (txtE a).length + 2 := by
  intro a k
  unfold txtO parB
  split
  ·simp
  ·omega
 refine prb_ind ?_ ?_ ?_ ?_ ?_
 ·intro n hn
  have e2 : txtE (.mk 1 n [] []) = dec n := by rw [txtE_mk]; simp
  have := (dec_len hn).1
  rw [e2, countE_mk]; omega
 ·intro s h1 h2
  have e2 : txtE (.mk 2 0 s []) = quote s := by rw [txtE_mk]; simp
  rw [e2, quote_src h1 h2, countE_mk]
  simp [Tk.src]; omega
 ·intro s h
  have e2 : txtE (.mk 3 0 s []) = s := by rw [txtE_mk]; simp
  have hs := (leaf_ok h).1
  simp only [Tk.ok, Bool.and_eq_true, decide_eq_true_eq] at hs
  rw [e2, countE_mk]; omega
 ·intro a ha ih
  have := par a 3
  rw [txtE_neg, neg, countE_mk]
  simp only [countL, List.length_append, List.length_cons, kNot, List.length_nil]
  omega
 ·intro op a b h1 h2 ha hb iha ihb
  have p1 := par a (leftS op)
  have p2 := par b (rightS op)
  have p3 := sign_len op
  rw [txtE_two h1, two, countE_mk]
  simp only [countL, List.length_append, List.length_cons]
  omega
end Go.Am
namespace Go.Am
open Go Go.Pu Go.RowKit
theorem m_awake25 : acall mach n_billinglaw25_awake [] [] = some (.ret (.bool true) []) := up _ _ _ _ e_awake25
theorem exprVs_map : ∀ l : List PE, exprVs l = l.map exprV
 | [] => rfl
 | a :: l => by simp [exprVs, exprVs_map l]
theorem tyc_expr : ∀ (f : Nat) (cs : List V), TyC Go.Proofs.Try.prog f 38 cs → ∃ e : PE, cs = (exprV e).cells ∧ Sz e := by
 intro f
 induction f using Nat.strongRecOn with
 | _ f ih =>
  intro cs h
  obtain ⟨g, hg, h⟩ := tyc_fields (ts := [3, 3, 9, 36]) (by kernel_rfl) h
  obtain ⟨x1, y1, rfl, h1, h⟩ := h.cons
  obtain ⟨x2, y2, rfl, h2, h⟩ := h.cons
  obtain ⟨x3, y3, rfl, h3, h⟩ := h.cons
  obtain ⟨x4, y4, rfl, h4, h⟩ := h.cons
  obtain rfl := h.nil
  obtain ⟨op, rfl, _⟩ := tyc_int (k := .i64) (by kernel_rfl) h1
  obtain ⟨num, rfl, _⟩ := tyc_int (k := .i64) (by kernel_rfl) h2
  obtain ⟨text, rfl, _⟩ := tyc_string (by kernel_rfl) h3
  obtain ⟨g2, xs, rfl, hl, hg2, hel⟩ := tyc_slice (e := 38) (by kernel_rfl) h4
  obtain ⟨l, rfl, hS⟩ := choose_map (g := exprV) (p := Sz) (xs := xs) (fun x hx => by
   obtain ⟨q1, q2⟩ := hel x hx
   obtain ⟨e, he, hs⟩ := ih g2 (by omega) _ q2
   refine ⟨e, ?_, hs⟩
   rw [q1, he, mkEl_agg (by kernel_rfl)]
   obtain ⟨o, n, t, a⟩ := e
   rfl)
  refine ⟨.mk op num text l, ?_, .mk _ _ _ _ ?_ hS⟩
  ·have hc : Go.Proofs.Try.prog.cellsOf 38 = 4 := by kernel_rfl
   rw [hc]
   simp [exprV, V.cells, exprVs_map]
  ·have := hl (by decide +kernel)
   simp only [List.length_map] at this
   have hr : reachBytes ≤ 1000000000000000 := by decide
   omega
theorem arg_expr {u : V} (h : u = mkEl Go.Proofs.Try.prog 38 u.cells ∧ ∃ f, TyC Go.Proofs.Try.prog f 38 u.cells) : ∃ e : PE, u = exprV e ∧ Sz e := by
 obtain ⟨h1, f, h2⟩ := h
 obtain ⟨e, he, hs⟩ := tyc_expr f _ h2
 refine ⟨e, ?_, hs⟩
 rw [h1, he, mkEl_agg (by kernel_rfl)]
 obtain ⟨o, n, t, a⟩ := e
 rfl
theorem m_PExpr (e : PE) (ht : Tl e) (hl : prb e = true → (txtE e).length ≤ 100000000000) : acall mach n_printer_Expr [exprV e] [] = some (.ret (PExprV e) []) := up _ _ _ _ (e_PExpr e ht hl)
theorem m_PTariff (z : Nat) (t : TariffP) (hB : TB t) (hX : WholeOk t → (tariffB t).length ≤ 100000000000) : acall mach n_printer_Tariff [tariffW z t] [] = some (.ret (PTariffV t) []) := up _ _ _ _ (e_PTariff z t hB hX)
end Go.Am
namespace Go.Am
open Go Go.Pu
theorem get_midB {p r : List UInt8} {b : UInt8} : (p ++ b :: r)[p.length]?.getD 0 = b := by simp
theorem rname_l : ∀ (r p : Bs), (p ++ r).length ≤ 1000000 →
  Run mach0 (.c billingref25_Name_l1b :: .lp billingref25_Name_l1 :: .endB 0 :: .c billingref25_Name_k1 :: []) .norm
   ⟨(.str (p ++ r) :: .undef :: .undef :: .int .i64 p.length :: .undef :: .undef :: .undef :: .undef :: .undef :: .undef :: .undef :: .undef :: .undef :: .undef :: .undef :: .undef :: .undef :: .undef :: .undef :: .undef :: .undef :: .undef :: .undef :: .undef :: .undef :: .undef :: .undef :: .undef :: .undef :: .undef :: .undef :: .undef :: .undef :: .undef :: .undef :: .undef :: .undef :: .undef :: .undef :: .undef :: .undef :: .undef :: .undef :: .undef :: .undef :: .undef :: []), []⟩ (FinQ [.tmp 2] 0 (.ret (.bool (r.all wordB)) []))
 | [], p, hl => by
  have q : ¬ ((p.length : Int) < p.length) := by omega
  unfold billingref25_Name_l1b
  simp [go_sem, q, billingref25_Name_k1]
  simp [go_sem, billingref25_Name_k1b]
 | b :: r, p, hl => by
  have ih := rname_l r (p ++ [b]) (by simpa using hl)
  simp only [List.append_assoc, List.singleton_append, List.length_append, List.length_cons, List.length_nil, Nat.zero_add] at ih
  have q : (p.length : Int) < p.length + (r.length + 1) := by omega
  have hl2 : p.length ≤ 1000000 := by simp at hl; omega
  have w : IntKind.wrap .i64 ((p.length : Int) + 1) = p.length + 1 := wrap_i64 (by omega)
  have g := get_midB (p := p) (r := r) (b := b)
  have e1 := e_rLower b
  have e2 := e_rDigit b
  simp only [List.all_cons]
  unfold billingref25_Name_l1b
  cases h1 : lowerB b with
  | true =>
   rw [h1] at e1
   have hw : wordB b = true := by simp [wordB, h1]
   rw [hw, Bool.true_and]
   simp [go_sem, q, g, e1, w]
   simpa using ih
  | false =>
   rw [h1] at e1
   cases h2 : digitB b with
   | true =>
    rw [h2] at e2
    have hw : wordB b = true := by simp [wordB, h2]
    rw [hw, Bool.true_and]
    simp [go_sem, q, g, e1, e2, w]
    simpa using ih
   | false =>
    rw [h2] at e2
    by_cases h3 : (b.toNat : Int) = 45
    ·have hw : wordB b = true := by simp [wordB]; omega
     rw [hw, Bool.true_and]
     simp [go_sem, q, g, e1, e2, nf' h3, w]
     simpa using ih
    ·have hw : wordB b = false := by simp [wordB, h1, h2]; omega
     rw [hw, Bool.false_and]
     simp [go_sem, q, g, e1, e2, nt' h3]
theorem e_rName (s : Bs) : acall mach0 n_billingref25_Name [.str s] [] = some (.ret (.bool (nameOk s)) []) := by
 refine acall_fn rfl (af := a_billingref25_Name) rfl rfl ?_
 cases s with
 | nil => simp [List.replicate, go_sem, nameOk, headIs]
 | cons b r =>
  have ek := e_rKeyword (b :: r)
  have e1 := e_rLower b
  have hp1 : ¬ ((r.length : Int) + 1 < 1) := by omega
  unfold nameOk
  by_cases h24 : (b :: r).length ≤ 24
  ·have h24'' : ¬ (24 : Int) < (r.length : Int) + 1 := by simp at h24; omega
   have hd : decide ((b :: r).length ≤ 24) = true := by simpa using h24
   have g0 : ((b :: r)[0]?.getD 0) = b := rfl
   rw [hd]
   have hh : headIs lowerB (b :: r) = lowerB b := rfl
   rw [hh]
   cases h1 : lowerB b with
   | false =>
    rw [h1] at e1
    simp [List.replicate, go_sem, hp1, h24'', e1]
   | true =>
    rw [h1] at e1
    cases hk : isKw (b :: r) with
    | true =>
     rw [hk] at ek
     simp [List.replicate, go_sem, hp1, h24'', e1, ek]
    | false =>
     rw [hk] at ek
     have run := rname_l (b :: r) [] (by simp at h24 ⊢; omega)
     simp only [Bool.true_and, Bool.and_true, Bool.not_false]
     simp [List.replicate, go_sem, hp1, h24'', e1, ek]
     simpa using run
  ·have h24'' : (24 : Int) < (r.length : Int) + 1 := by simp at h24; omega
   have hd : decide ((b :: r).length ≤ 24) = false := by simpa using h24
   rw [hd]
   simp [List.replicate, go_sem, hp1, h24'']
theorem e_rnumber (n : Int) : acall mach0 n_billingref25_number [.int .i64 n] [] = some (.ret (.bool (decide (0 ≤ n ∧ n ≤ mostN))) []) := by
 refine acall_fn rfl (af := a_billingref25_number) rfl rfl ?_
 by_cases h1 : 0 ≤ n
 ·by_cases h2 : n ≤ 9999999999999999
  ·simp [List.replicate, go_sem, h1, h2, mostN]
  ·simp [List.replicate, go_sem, h1, h2, mostN]
 ·simp [List.replicate, go_sem, h1]
theorem e_Arity (op : Int) : acall mach0 n_billingref25_Arity [.int .i64 op] [] = some (.ret (.int .i64 (arity op)) []) := by
 refine acall_fn rfl (af := a_billingref25_Arity) rfl rfl ?_
 unfold arity
 by_cases h1 : 1 ≤ op
 ·by_cases h3 : op ≤ 3
  ·have hc : op = 1 ∨ op = 2 ∨ op = 3 := by omega
   rw [if_pos hc]
   simp [List.replicate, go_sem, h1, h3]
  ·have hc : ¬ (op = 1 ∨ op = 2 ∨ op = 3) := by omega
   rw [if_neg hc]
   by_cases h4 : op = 4
   ·simp [List.replicate, go_sem, h4]
   ·have h5 : 4 < op := by omega
    by_cases h6 : op < 16
    ·simp [List.replicate, go_sem, h1, h3, h4, bf' h4, h5, h6]
    ·simp [List.replicate, go_sem, h1, h3, h4, bf' h4, h5, h6]
 ·have hc : ¬ (op = 1 ∨ op = 2 ∨ op = 3) := by omega
  have h4 : ¬ op = 4 := by omega
  have h5 : ¬ 4 < op := by omega
  rw [if_neg hc]
  simp [List.replicate, go_sem, h1, h4, bf' h4, h5]
theorem b_Attributes : acall mach0 n_billingref24_Attributes [] [] = some (.ret (.sl true 1 (ssV attrs)) []) := (acall_iff _).2 ⟨60, by kernel_rfl⟩
theorem bPlace_l (s : List UInt8) : ∀ (l2 l1 : List (List UInt8)), l1.length + l2.length ≤ 1000 →
  Run mach0 (.c billingref24_Place_l1b :: .lp billingref24_Place_l1 :: .endB 0 :: .c billingref24_Place_k1 :: []) .norm ⟨(.sl false 1 (ssV (l1 ++ l2)) :: .str s :: .undef :: .undef :: .undef :: .int .i64 l1.length :: .undef :: .undef :: .undef :: .undef :: .undef :: .undef :: .undef :: .undef :: .undef :: .undef :: .undef :: .undef :: .undef :: []), []⟩
   (FinQ [.tmp 4] 0 (.ret (.int .i64 (wplaceF s l2 l1.length)) []))
 | [], l1, hl => by
  have q : ¬ ((l1.length : Int) < l1.length) := by omega
  unfold billingref24_Place_l1b
  simp [go_sem, ssV, q, billingref24_Place_k1]
  simp [go_sem, billingref24_Place_k1b, wplaceF]
 | x :: l2, l1, hl => by
  simp only [List.length_cons] at hl
  have ih := bPlace_l s l2 (l1 ++ [x]) (by simp; omega)
  have q : (l1.length : Int) < l1.length + (l2.length + 1) := by omega
  have w : IntKind.wrap .i64 ((l1.length : Int) + 1) = l1.length + 1 := wrap_i64 (by omega)
  have hn := nth_ss (l1 := l1) (l2 := l2) (x := x)
  have hlen : (ssV (l1 ++ x :: l2)).length = l1.length + (l2.length + 1) := by simp [ssV]
  unfold billingref24_Place_l1b
  by_cases h : x = s
  ·subst h
   simp [go_sem, hlen, q, hn, wplaceF]
  ·have h' : (x == s) = false := by simpa using h
   simp only [List.append_assoc, List.singleton_append, List.length_append, List.length_cons, List.length_nil, Nat.zero_add] at ih
   simp [go_sem, hlen, q, hn, h', w, wplaceF, h]
   simpa using ih
theorem b_Place (o : Bool) (l : List (List UInt8)) (s : List UInt8) (hl : l.length ≤ 1000) : acall mach0 n_billingref24_Place [.sl o 1 (ssV l), .str s] [] = some (.ret (.int .i64 (wplace l s)) []) := by
 refine acall_fn rfl (af := a_billingref24_Place) rfl rfl ?_
 have := bPlace_l s l [] (by simpa using hl)
 cases o <;> simp [List.replicate, go_sem] <;> simpa [wplace] using this
theorem bplace_iff (s : Bs) : ∀ (l : List Bs) (i : Nat), (0 ≤ wplaceF s l i) ↔ s ∈ l
 | [], i => by simp [wplaceF]
 | w :: l, i => by
  simp only [wplaceF, List.mem_cons]
  split
  ·rename_i h; subst h; simp
  ·rename_i h
   rw [bplace_iff s l (i + 1)]
   constructor
   ·intro hh; exact .inr hh
   ·rintro (rfl | hh)
    ·exact absurd rfl h
    ·exact hh
theorem battr (s : Bs) : decide (0 ≤ wplace attrs s) = isAttr s := by
 unfold isAttr wplace
 by_cases h : s ∈ attrs
 ·simp [(bplace_iff s attrs 0).2 h, h]
 ·have : ¬ 0 ≤ wplaceF s attrs 0 := fun hh => h ((bplace_iff s attrs 0).1 hh)
  simp [this, h]
def ownB (op num : Int) (text : Bs) : Bool := if op = 1 then decide (0 ≤ num ∧ num ≤ mostN) && text.isEmpty else decide (num = 0) && (if op = 2 then !(quote text).isEmpty else if op = 3 then isAttr text || nameOk text else text.isEmpty)
theorem e_rown (op num : Int) (text : Bs) (args : List PE) (ht : text.length ≤ 1000000) : acall mach0 n_billingref25_own [exprV (.mk op num text args)] [] = some (.ret (.bool (ownB op num text)) []) := by
 have en := e_rnumber num
 have eq := e_rQuote text ht
 have em := e_rName text
 have ep := b_Place true attrs text (by decide)
 have ea := b_Attributes
 have hz : (text == []) = text.isEmpty := by cases text <;> rfl
 refine acall_fn rfl (af := a_billingref25_own) rfl rfl ?_
 simp only [exprV]
 unfold ownB
 by_cases h1 : op = 1
 ·subst h1
  rw [if_pos rfl]
  cases hx : decide (0 ≤ num ∧ num ≤ (mostN : Int)) with
  | true =>
   rw [hx] at en
   simp [List.replicate, go_sem, en]
  | false =>
   rw [hx] at en
   simp [List.replicate, go_sem, en]
 ·rw [if_neg h1]
  by_cases h0 : num = 0
  ·subst h0
   by_cases h2 : op = 2
   ·subst h2
    rw [if_pos rfl]
    simp [List.replicate, go_sem, eq]
    cases quote text <;> rfl
   ·rw [if_neg h2]
    by_cases h3 : op = 3
    ·subst h3
     rw [if_pos rfl]
     have hb := battr text
     generalize ssV attrs = aV at *
     cases hn : nameOk text with
     | true =>
      rw [hn] at em
      simp [List.replicate, go_sem, em]
     | false =>
      rw [hn] at em
      by_cases hp : 0 ≤ wplace attrs text
      ·have : isAttr text = true := by rw [← hb]; simpa using hp
       rw [this]
       simp [List.replicate, go_sem, em, ea, ep, hp]
      ·have : isAttr text = false := by rw [← hb]; simpa using hp
       rw [this]
       simp [List.replicate, go_sem, em, ea, ep, hp]
    ·rw [if_neg h3]
     simp [List.replicate, go_sem, bf' h1, bf' h2, bf' h3]
     try simpa using hz
  ·have hd0 : decide (num = 0) = false := by simpa using h0
   rw [hd0, Bool.false_and]
   simp [List.replicate, go_sem, bf' h1, nt' h0]
theorem prb_own (op num : Int) (text : Bs) (args : List PE) : prb (.mk op num text args) = (decide ((args.length : Int) = arity op) && ownB op num text && prbs args) := by
 simp only [prb, ownB]
 cases hd : decide ((args.length : Int) = arity op) with
 | false => rfl
 | true =>
  have hd : (args.length : Int) = arity op := by simpa using hd
  have leaf : arity op = 0 → prbs args = true := by
   intro h0
   have : args = [] := List.length_eq_zero_iff.1 (by omega)
   subst this; rfl
  simp only [Bool.true_and]
  by_cases h1 : op = 1
  ·subst h1; simp [leaf (by decide)]
  ·by_cases h2 : op = 2
   ·subst h2; simp [leaf (by decide)]
   ·by_cases h3 : op = 3
    ·subst h3; simp [leaf (by decide)]
    ·simp [h1, h2, h3, Bool.and_assoc]
theorem rprb_l (op num : Int) (text : Bs) (args : List PE) (hn : args.length ≤ 1000000) (H : ∀ a ∈ args, acall mach0 n_billingref25_Printable [exprV a] [] = some (.ret (.bool (prb a)) [])) :
    ∀ (l2 l1 : List PE), l1 ++ l2 = args →
    Run mach0 (.c billingref25_Printable_l1b :: .lp billingref25_Printable_l1 :: .endB 0 :: .c billingref25_Printable_k1 :: []) .norm
      ⟨(.undef :: .rptr [.int .i64 op, .int .i64 num, .str text, .sl false 4 (exprVs args)] :: .undef :: .int .i64 l1.length :: .undef :: .undef :: .undef :: .undef :: .undef :: .undef :: .undef :: .undef :: .undef :: .undef :: .undef :: .undef :: .undef :: .undef :: .undef :: .undef :: .undef :: .undef :: .undef :: .undef :: .undef :: .undef :: .undef :: .undef :: .undef :: .undef :: []), []⟩ (FinQ [.tmp 2] 0 (.ret (.bool (prbs l2)) []))
  | [], l1, he => by
    have hl := exprVs_lenA args
    have q : ¬ ((l1.length : Int) < args.length) := by rw [← he]; simp
    unfold billingref25_Printable_l1b
    simp [go_sem, hl, q, billingref25_Printable_k1]
    simp [go_sem, billingref25_Printable_k1b, prbs]
  | a :: l2, l1, he => by
    have ih := rprb_l op num text args hn H l2 (l1 ++ [a]) (by rw [← he]; simp)
    have hl := exprVs_lenA args
    have len : args.length = l1.length + (l2.length + 1) := by rw [← he]; simp
    have q : (l1.length : Int) < args.length := by omega
    have q' : l1.length < args.length := by omega
    have w : IntKind.wrap .i64 ((l1.length : Int) + 1) = l1.length + 1 := wrap_i64 (by omega)
    have hnth : nth (exprVs args) l1.length = exprV a := by rw [← he]; exact nth_exprVsA
    have e := H a (by rw [← he]; simp)
    simp only [List.length_append, List.length_cons, List.length_nil, Nat.zero_add] at ih
    simp only [prbs]
    obtain ⟨op2, num2, text2, args2⟩ := a
    simp only [exprV] at hnth e
    generalize prb (.mk op2 num2 text2 args2) = pb at *
    unfold billingref25_Printable_l1b
    cases pb with
    | true =>
      simp [go_sem, hl, q, q', hnth, e, w]
      simpa using ih
    | false => simp [go_sem, hl, q, q', hnth, e, w]
theorem e_rPrintable : ∀ e : PE, Tl e → acall mach0 n_billingref25_Printable [exprV e] [] = some (.ret (.bool (prb e)) []) := by
 refine PE.ind ?_
 intro op num text args ih hT
 cases hT with
 | mk _ _ _ _ ht hn hN =>
  have run := rprb_l op num text args hn (fun a ha => ih a ha (hN a ha)) args [] rfl
  have hl := exprVs_lenA args
  have ea := e_Arity op
  have eo := e_rown op num text args ht
  rw [prb_own]
  refine acall_fn rfl (af := a_billingref25_Printable) rfl rfl ?_
  simp only [exprV] at eo ⊢
  generalize ownB op num text = ob at *
  by_cases har : (args.length : Int) = arity op
  ·have hd : decide ((args.length : Int) = arity op) = true := by simpa using har
   rw [hd]
   cases ob with
   | false => simp [List.replicate, go_sem, hl, ea, eo, nf' har]
   | true =>
    simp only [Bool.true_and]
    simp [List.replicate, go_sem, hl, ea, eo, nf' har]
    simpa using run
  ·have hd : decide ((args.length : Int) = arity op) = false := by simpa using har
   rw [hd]
   simp [List.replicate, go_sem, hl, ea, nt' har]
end Go.Am
namespace Go.Am
open Go Go.Pu
theorem byteOf_dgR {n : Nat} (h : n < 10) : byteOf (.int .u8 (48 + (n : Int))) = dg n := by
 unfold byteOf dg
 congr 1
theorem e_rDecF : ∀ (k n : Nat), n < 10 ^ k → k ≤ 18 → 0 < k → acall mach0 n_billingref25_Decimal [.int .i64 n] [] = some (.ret (.str (decF k n)) [])
 | 0, n, _, _, h => by omega
 | k + 1, n, hn, hk, _ => by
  refine acall_fn rfl (af := a_billingref25_Decimal) rfl rfl ?_
  have big : (10 : Nat) ^ (k + 1) ≤ 10 ^ 18 := Nat.pow_le_pow_right (by decide) hk
  have hu8 : ∀ m : Nat, m < 10 → IntKind.wrap .u8 (48 + (m : Int)) = 48 + m := by
   intro m hm; simp [IntKind.wrap, IntKind.signed, IntKind.bits]; omega
  have isu : ∀ m : Nat, m < 10 → isU8 (.int .u8 (48 + (m : Int))) = true := by
   intro m hm; simp [isU8]
  unfold decF
  by_cases h : n < 10
  ·have h' : (n : Int) < 10 := by omega
   have w1 : IntKind.wrap .i64 (48 + (n : Int)) = 48 + n := wrap_i64 (by omega)
   simp [List.replicate, go_sem, h, h', w1, hu8 n h, isu n h, byteOf_dgR h]
  ·have h' : ¬ (n : Int) < 10 := by omega
   have hk0 : 0 < k := by
    cases k with
    | zero => simp at hn; omega
    | succ k => omega
   have ih := e_rDecF k (n / 10) (by rw [Nat.pow_succ] at hn; omega) (by omega) hk0
   have hm : n % 10 < 10 := Nat.mod_lt _ (by omega)
   have t1 : (n : Int).tdiv 10 = ((n / 10 : Nat) : Int) := rfl
   have t2 : (n : Int).tmod 10 = ((n % 10 : Nat) : Int) := rfl
   have w0 : IntKind.wrap .i64 ((n / 10 : Nat) : Int) = ((n / 10 : Nat) : Int) := wrap_i64 (by omega)
   have w1 : IntKind.wrap .i64 (48 + ((n % 10 : Nat) : Int)) = 48 + (n % 10 : Nat) := wrap_i64 (by omega)
   have w2 : IntKind.wrap .i64 ((n % 10 : Nat) : Int) = ((n % 10 : Nat) : Int) := wrap_i64 (by omega)
   have hl := (decF_len k (n / 10) (by rw [Nat.pow_succ] at hn; omega) hk0).1
   have o1 : (decF k (n / 10)).length ≤ 9223372036854775806 := by omega
   have u1 := hu8 _ hm
   have u2 := isu _ hm
   have u3 := byteOf_dgR hm
   generalize n / 10 = D at *
   generalize n % 10 = M at *
   simp [List.replicate, go_sem, h, h', t1, t2, w0, w1, w2, u1, u2, u3, ih, o1]
theorem e_rDecimal (n : Nat) (h : n < 10 ^ 18) : acall mach0 n_billingref25_Decimal [.int .i64 n] [] = some (.ret (.str (dec n)) []) := by
 have := e_rDecF 18 n h (by omega) (by omega)
 rw [← decF_fuel 18 20 n h (by omega) (by omega)] at this
 exact this
theorem e_rStrength (op : Int) : acall mach0 n_billingref25_Strength [.int .i64 op] [] = some (.ret (.int .i64 (strength op)) []) := by
 refine acall_fn rfl (af := a_billingref25_Strength) rfl rfl ?_
 unfold strength
 by_cases h6 : op = 6
 ·subst h6; simp [List.replicate, go_sem]
 by_cases h5 : op = 5
 ·subst h5; simp [List.replicate, go_sem]
 by_cases h4 : op = 4
 ·subst h4; simp [List.replicate, go_sem]
 by_cases h7 : op = 7
 ·subst h7; simp [List.replicate, go_sem]
 by_cases h8 : op = 8
 ·subst h8; simp [List.replicate, go_sem]
 by_cases h9 : op = 9
 ·subst h9; simp [List.replicate, go_sem]
 by_cases h10 : op = 10
 ·subst h10; simp [List.replicate, go_sem]
 by_cases h11 : op = 11
 ·subst h11; simp [List.replicate, go_sem]
 by_cases h12 : op = 12
 ·subst h12; simp [List.replicate, go_sem]
 by_cases h13 : op = 13
 ·subst h13; simp [List.replicate, go_sem]
 by_cases h14 : op = 14
 ·subst h14; simp [List.replicate, go_sem]
 by_cases h15 : op = 15
 ·subst h15; simp [List.replicate, go_sem]
 simp [List.replicate, go_sem, h4, h5, h6, h7, h8, h9, h10, h11, h12, h13, h14, h15, bf' h4, bf' h5, bf' h6, bf' h7, bf' h8, bf' h9, bf' h10, bf' h11, bf' h12, bf' h13, bf' h14, bf' h15]
theorem e_Symbol (op : Int) (h1 : 4 < op) (h2 : op < 16) : acall mach0 n_billingref25_Symbol [.int .i64 op] [] = some (.ret (.str (signT op).src) []) := by
 have : op = 5 ∨ op = 6 ∨ op = 7 ∨ op = 8 ∨ op = 9 ∨ op = 10 ∨ op = 11 ∨ op = 12 ∨ op = 13 ∨ op = 14 ∨ op = 15 := by omega
 rcases this with rfl | rfl | rfl | rfl | rfl | rfl | rfl | rfl | rfl | rfl | rfl <;> exact (acall_iff _).2 ⟨60, by kernel_rfl⟩
theorem e_roperand (a : PE) (k : Nat) (hl : (txtE a).length ≤ 100000000000) (h : acall mach0 n_billingref25_show [exprV a] [] = some (.ret (.str (txtE a)) [])) : acall mach0 n_billingref25_operand [exprV a, .int .i64 k] [] = some (.ret (.str (txtO a k)) []) := by
 refine acall_fn rfl (af := a_billingref25_operand) rfl rfl ?_
 have es := e_rStrength a.op
 unfold txtO parB PE.str
 obtain ⟨op, num, text, args⟩ := a
 simp only [PE.op] at es ⊢
 simp only [exprV] at h ⊢
 generalize txtE (.mk op num text args) = x at *
 by_cases hk : strength op < k
 ·have hk' : (strength op : Int) < k := by omega
  simp (disch := omega) [List.replicate, go_sem, es, hk, hk', h, leA]
 ·have hk' : ¬ (strength op : Int) < k := by omega
  simp [List.replicate, go_sem, es, hk, hk', h]
theorem e_rshow : ∀ e : PE, prb e = true → (txtE e).length ≤ 100000000000 → acall mach0 n_billingref25_show [exprV e] [] = some (.ret (.str (txtE e)) []) := by
 refine prb_ind ?_ ?_ ?_ ?_ ?_
 ·intro n hn _
  refine acall_fn rfl (af := a_billingref25_show) rfl rfl ?_
  have e := e_rDecimal n (by unfold mostN at hn; omega)
  have et : txtE (.mk 1 n [] []) = dec n := by rw [txtE_mk]; simp
  rw [et]
  simp [List.replicate, go_sem, exprV, exprVs, e]
 ·intro s h1 h2 _
  refine acall_fn rfl (af := a_billingref25_show) rfl rfl ?_
  have e := e_rQuote s (by omega)
  have et : txtE (.mk 2 0 s []) = quote s := by rw [txtE_mk]; simp
  rw [et]
  simp [List.replicate, go_sem, exprV, exprVs, e]
 ·intro s h _
  refine acall_fn rfl (af := a_billingref25_show) rfl rfl ?_
  have et : txtE (.mk 3 0 s []) = s := by rw [txtE_mk]; simp
  rw [et]
  simp [List.replicate, go_sem, exprV, exprVs]
 ·intro a ha ih hl
  rw [txtE_neg] at hl ⊢
  simp only [List.length_append, List.length_cons] at hl
  have hg := txtO_ge a 3
  have eo := e_roperand a 3 (by omega) (ih (by omega))
  refine acall_fn rfl (af := a_billingref25_show) rfl rfl ?_
  obtain ⟨op, num, text, args⟩ := a
  simp only [exprV] at eo
  simp only [neg, exprV, exprVs, kNot] at hl ⊢
  generalize txtO (.mk op num text args) 3 = x at *
  simp at eo
  simp (disch := omega) [List.replicate, go_sem, eo, leA]
 ·intro op a b h4 h16 ha hb iha ihb hl
  rw [txtE_two h4] at hl ⊢
  simp only [List.length_append, List.length_cons] at hl
  have hg1 := txtO_ge a (leftS op)
  have hg2 := txtO_ge b (rightS op)
  have hs3 := sign_len op
  have eo1 := e_roperand a (leftS op) (by omega) (iha (by omega))
  have eo2 := e_roperand b (rightS op) (by omega) (ihb (by omega))
  have es := e_rStrength op
  have eg := e_Symbol op h4 h16
  have hr := strength_le op
  refine acall_fn rfl (af := a_billingref25_show) rfl rfl ?_
  have n1 : ¬ op = 1 := by omega
  have n2 : ¬ op = 2 := by omega
  have n3 : ¬ op = 3 := by omega
  have n4 : ¬ op = 4 := by omega
  have w1 : IntKind.wrap .i64 ((strength op : Int) + 1) = (strength op : Int) + 1 := wrap_i64 (by omega)
  obtain ⟨opa, numa, texta, argsa⟩ := a
  obtain ⟨opb, numb, textb, argsb⟩ := b
  simp only [exprV] at eo1 eo2
  simp only [two, exprV, exprVs]
  by_cases hc : strength op = 4
  ·have l5 : leftS op = 5 := by unfold leftS; rw [if_pos hc]
   have r5 : rightS op = 5 := by unfold rightS; rw [if_pos hc]
   simp only [l5, r5] at eo1 eo2 hl ⊢
   rw [hc] at es
   generalize txtO (.mk opa numa texta argsa) 5 = x at *
   generalize txtO (.mk opb numb textb argsb) 5 = y at *
   generalize (signT op).src = sg at *
   have w5 : IntKind.wrap .i64 5 = 5 := wrap_i64 (by omega)
   simp at eo1 eo2 es
   simp (disch := omega) [List.replicate, go_sem, bf' n1, bf' n2, bf' n3, bf' n4, w5, es, eo1, eo2, eg, leA]
  ·have l5 : leftS op = strength op := by unfold leftS; rw [if_neg hc]
   have r5 : rightS op = strength op + 1 := by unfold rightS; rw [if_neg hc]
   simp only [l5, r5] at eo1 eo2 hl ⊢
   have hc' : ¬ (strength op : Int) = 4 := by omega
   generalize txtO (.mk opa numa texta argsa) (strength op) = x at *
   generalize txtO (.mk opb numb textb argsb) (strength op + 1) = y at *
   generalize (signT op).src = sg at *
   simp at eo1 eo2 es
   simp (disch := omega) [List.replicate, go_sem, bf' n1, bf' n2, bf' n3, bf' n4, bf' hc', nt' hc', w1, es, eo1, eo2, eg, leA]
theorem e_rExpr (e : PE) (ht : Tl e) (hl : prb e = true → (txtE e).length ≤ 100000000000) : acall mach0 n_billingref25_Expr [exprV e] [] = some (.ret (PExprV e) []) := by
 have ep := e_rPrintable e ht
 refine acall_fn rfl (af := a_billingref25_Expr) rfl rfl ?_
 unfold PExprV
 cases hp : prb e with
 | false =>
  rw [hp] at ep
  obtain ⟨op, num, text, args⟩ := e
  simp only [exprV] at ep ⊢
  simp [List.replicate, go_sem, ep]
 | true =>
  rw [hp] at ep
  have et := e_rshow e hp (hl hp)
  rw [if_pos rfl]
  obtain ⟨op, num, text, args⟩ := e
  simp only [exprV] at ep et ⊢
  generalize txtE (.mk op num text args) = x at *
  by_cases h : 65536 < x.length
  ·have h' : (65536 : Int) < x.length := by omega
   simp [List.replicate, go_sem, ep, et, h, h']
  ·have h' : ¬ (65536 : Int) < x.length := by omega
   simp [List.replicate, go_sem, ep, et, h, h']
end Go.Am
namespace Go.Am
open Go Go.Pu Go.RowKit
theorem PExprV_two (e : PE) : ∃ (s : Bs) (k : Int), PExprV e = .tup [.str s, .int .i64 k] := by
 unfold PExprV
 repeat' split
 all_goals exact ⟨_, _, rfl⟩
theorem law_PrinterExprs (e : PE) (hS : Sz e) : acall mach n_billinglaw25_PrinterExprs [exprV e] [] = some (.ret (.bool true) []) := by
 have es := up _ _ _ _ (e_SmallExpr e hS)
 refine acall_fn rfl (af := a_billinglaw25_PrinterExprs) rfl rfl ?_
 cases hs : smallE e with
 | false =>
  rw [hs] at es
  obtain ⟨op, num, text, args⟩ := e
  simp only [exprV] at es ⊢
  simp [List.replicate, go_sem, es, m_awake25]
 | true =>
  rw [hs] at es
  have hc := smallE_count hs
  have hl : prb e = true → (txtE e).length ≤ 100000000000 := fun hp => by have := txt_count e hp; omega
  have ep := m_PExpr e (smallE_tl e hs) hl
  have er := up _ _ _ _ (e_rExpr e (smallE_tl e hs) hl)
  obtain ⟨s, k, hk⟩ := PExprV_two e
  rw [hk] at ep er
  obtain ⟨op, num, text, args⟩ := e
  simp only [exprV] at es ep er ⊢
  simp [List.replicate, go_sem, es, ep, er, m_awake25]
theorem all_printerExprs (us : List V) (h : TyArgs Go.Proofs.Try.prog [38] us) : acall mach n_billinglaw25_PrinterExprs us [] = some (.ret (.bool true) []) := by
 obtain ⟨u, rfl, hu⟩ := h.one
 obtain ⟨e, rfl, hS⟩ := arg_expr hu
 exact law_PrinterExprs e hS
end Go.Am
namespace Go.Am
open Go Go.Pu
def nP : List ZoneP → Nat
 | [] => 0
 | z :: l => z.pref.length + nP l
def nS : List BandP → Nat
 | [] => 0
 | b :: l => b.slots.length + nS l
def nR : List RateP → Nat
 | [] => 0
 | x :: l => x.steps.length + nR l
theorem nP_app : ∀ a b : List ZoneP, nP (a ++ b) = nP a + nP b
 | [], b => by simp [nP]
 | x :: a, b => by simp only [List.cons_append, nP, nP_app a b]; omega
theorem nS_app : ∀ a b : List BandP, nS (a ++ b) = nS a + nS b
 | [], b => by simp [nS]
 | x :: a, b => by simp only [List.cons_append, nS, nS_app a b]; omega
theorem nR_app : ∀ a b : List RateP, nR (a ++ b) = nR a + nR b
 | [], b => by simp [nR]
 | x :: a, b => by simp only [List.cons_append, nR, nR_app a b]; omega
def short (p : Bs) : Bool := decide (p.length ≤ 100)
def smallT (t : TariffP) : Bool := decide (t.zones.length ≤ 70 ∧ t.bands.length ≤ 70 ∧ t.rates.length ≤ 70 ∧ t.discs.length ≤ 70) && (t.zones.all (fun z => z.pref.all short) && (t.discs.all (fun d => smallE d.cond) && decide (nP t.zones + nS t.bands + nR t.rates ≤ 300)))
structure TS (t : TariffP) : Prop where
 pref : ∀ z ∈ t.zones, z.pref.length ≤ 1000000000000000
 slots : ∀ b ∈ t.bands, b.slots.length ≤ 1000000000000000
 steps : ∀ x ∈ t.rates, x.steps.length ≤ 1000000000000000
 cond : ∀ d ∈ t.discs, Sz d.cond
theorem nP_le : ∀ (l : List ZoneP), (∀ z ∈ l, z.pref.length ≤ 1000000000000000) → nP l ≤ 1000000000000000 * l.length
 | [], _ => by simp [nP]
 | a :: l, h => by
  have := h a (by simp)
  have := nP_le l (fun b hb => h b (by simp [hb]))
  simp only [nP, List.length_cons]; omega
theorem nS_le : ∀ (l : List BandP), (∀ z ∈ l, z.slots.length ≤ 1000000000000000) → nS l ≤ 1000000000000000 * l.length
 | [], _ => by simp [nS]
 | a :: l, h => by
  have := h a (by simp)
  have := nS_le l (fun b hb => h b (by simp [hb]))
  simp only [nS, List.length_cons]; omega
theorem nR_le : ∀ (l : List RateP), (∀ z ∈ l, z.steps.length ≤ 1000000000000000) → nR l ≤ 1000000000000000 * l.length
 | [], _ => by simp [nR]
 | a :: l, h => by
  have := h a (by simp)
  have := nR_le l (fun b hb => h b (by simp [hb]))
  simp only [nR, List.length_cons]; omega
structure Few (t : TariffP) : Prop where
 zones : t.zones.length ≤ 70
 bands : t.bands.length ≤ 70
 rates : t.rates.length ≤ 70
 discs : t.discs.length ≤ 70
section
variable (z : Nat) (t : TariffP) (hT : TS t) (hF : Few t)
include hT hF
theorem sm_discs (n : Nat) : ∀ (l2 l1 : List DiscP), l1 ++ l2 = t.discs →
  Run mach0 (.c billingref25_Small_l5b :: .lp billingref25_Small_l5 :: .endB 8 :: .c billingref25_Small_k2 :: []) .norm
   ⟨(.undef :: .rptr (tariffW z t).cells :: .undef :: .int .i64 n :: .undef :: .undef :: .undef :: .undef :: .int .i64 l1.length :: .undef :: .undef :: .undef :: .undef :: .undef :: .undef :: .undef :: .undef :: .undef :: .undef :: .undef :: .undef :: .undef :: .undef :: .undef :: .undef :: .undef :: .undef :: .undef :: .undef :: .undef :: .undef :: .undef :: .undef :: .undef :: .undef :: .undef :: .undef :: .undef :: .undef :: .undef :: .undef :: .undef :: .undef :: .undef :: .undef :: .undef :: .undef :: .undef :: .undef :: .undef :: .undef :: .undef :: .undef :: .undef :: .undef :: .undef :: .undef :: .undef :: .undef :: .undef :: .undef :: .undef :: .undef :: .undef :: .undef :: .undef :: .undef :: .undef :: .undef :: .undef :: .undef :: .undef :: .undef :: .undef :: .undef :: .undef :: .undef :: .undef :: .undef :: .undef :: .undef :: .undef :: .undef :: .undef :: .undef :: .undef :: .undef :: .undef :: .undef :: .undef :: .undef :: .undef :: .undef :: .undef :: .undef :: .undef :: .undef :: .undef :: .undef :: .undef :: .undef :: .undef :: .undef :: .undef :: .undef :: .undef :: .undef :: .undef :: .undef :: .undef :: .undef :: .undef :: .undef :: .undef :: .undef :: .undef :: .undef :: .undef :: []), []⟩ (FinQ [.tmp 2] 0 (.ret (.bool (l2.all (fun d => smallE d.cond) && decide (n ≤ 300))) []))
 | [], l1, he => by
  have q : ¬ ((l1.length : Int) < t.discs.length) := by rw [← he]; simp
  simp only [tariffW, V.cells]
  unfold billingref25_Small_l5b
  simp [go_sem, q, billingref25_Small_k2]
  by_cases h3 : n ≤ 300
  ·have h3' : (n : Int) ≤ 300 := by omega
   simp [go_sem, billingref25_Small_k2b, h3, h3']
  ·have h3' : ¬ (n : Int) ≤ 300 := by omega
   simp [go_sem, billingref25_Small_k2b, h3, h3']
 | a :: l2, l1, he => by
  have ih := sm_discs n l2 (l1 ++ [a]) (by rw [← he]; simp)
  have hn := hF.discs
  have len : t.discs.length = l1.length + (l2.length + 1) := by rw [← he]; simp
  have q : (l1.length : Int) < t.discs.length := by omega
  have q' : l1.length < t.discs.length := by omega
  have w : IntKind.wrap .i64 ((l1.length : Int) + 1) = l1.length + 1 := wrap_i64 (by omega)
  have hnth : nth (t.discs.map discV) l1.length = discV a := by rw [← he]; exact nth_mapA _ _ _ _
  have e := e_SmallExpr a.cond (hT.cond a (by rw [← he]; simp))
  simp only [List.length_append, List.length_cons, List.length_nil, Nat.zero_add, tariffW, V.cells] at ih ⊢
  rw [List.all_cons]
  obtain ⟨name, points, cond⟩ := a
  obtain ⟨op2, num2, text2, args2⟩ := cond
  simp only [discV, exprC, List.cons_append, List.nil_append] at hnth
  simp only [exprV] at e ⊢
  generalize smallE (.mk op2 num2 text2 args2) = sb at *
  unfold billingref25_Small_l5b
  cases sb with
  | false => simp [go_sem, q, q', hnth, e]
  | true =>
   simp [go_sem, q, q', hnth, e, w]
   simpa using ih
theorem sm_rates (n0 : Nat) (h0 : n0 ≤ 140000000000000000) : ∀ (l2 l1 : List RateP), l1 ++ l2 = t.rates →
  Run mach0 (.c billingref25_Small_l4b :: .lp billingref25_Small_l4 :: .endB 6 :: .c billingref25_Small_k3 :: []) .norm
   ⟨(.undef :: .rptr (tariffW z t).cells :: .undef :: .int .i64 ((n0 + nR l1 : Nat) : Int) :: .undef :: .undef :: .undef :: .int .i64 l1.length :: .undef :: .undef :: .undef :: .undef :: .undef :: .undef :: .undef :: .undef :: .undef :: .undef :: .undef :: .undef :: .undef :: .undef :: .undef :: .undef :: .undef :: .undef :: .undef :: .undef :: .undef :: .undef :: .undef :: .undef :: .undef :: .undef :: .undef :: .undef :: .undef :: .undef :: .undef :: .undef :: .undef :: .undef :: .undef :: .undef :: .undef :: .undef :: .undef :: .undef :: .undef :: .undef :: .undef :: .undef :: .undef :: .undef :: .undef :: .undef :: .undef :: .undef :: .undef :: .undef :: .undef :: .undef :: .undef :: .undef :: .undef :: .undef :: .undef :: .undef :: .undef :: .undef :: .undef :: .undef :: .undef :: .undef :: .undef :: .undef :: .undef :: .undef :: .undef :: .undef :: .undef :: .undef :: .undef :: .undef :: .undef :: .undef :: .undef :: .undef :: .undef :: .undef :: .undef :: .undef :: .undef :: .undef :: .undef :: .undef :: .undef :: .undef :: .undef :: .undef :: .undef :: .undef :: .undef :: .undef :: .undef :: .undef :: .undef :: .undef :: .undef :: .undef :: .undef :: .undef :: .undef :: .undef :: .undef :: .undef :: .undef :: .undef :: []), []⟩ (FinQ [.tmp 2] 0 (.ret (.bool (t.discs.all (fun d => smallE d.cond) && decide (n0 + nR t.rates ≤ 300))) []))
 | [], l1, he => by
  have q : ¬ ((l1.length : Int) < t.rates.length) := by rw [← he]; simp
  rw [List.append_nil] at he
  have run := sm_discs z t hT hF (n0 + nR t.rates) t.discs [] rfl
  subst he
  simp only [tariffW, V.cells] at run ⊢
  generalize ((n0 + nR t.rates : Nat) : Int) = N at *
  unfold billingref25_Small_l4b
  simp [go_sem, q, billingref25_Small_k3]
  simp [go_sem, billingref25_Small_k3b]
  simpa using run
 | a :: l2, l1, he => by
  have ih := sm_rates n0 h0 l2 (l1 ++ [a]) (by rw [← he]; simp)
  have hn := hF.rates
  have hle := nR_le t.rates hT.steps
  have hsum : nR t.rates = nR l1 + (a.steps.length + nR l2) := by rw [← he, nR_app]; rfl
  have len : t.rates.length = l1.length + (l2.length + 1) := by rw [← he]; simp
  have q : (l1.length : Int) < t.rates.length := by omega
  have q' : l1.length < t.rates.length := by omega
  have w : IntKind.wrap .i64 ((l1.length : Int) + 1) = l1.length + 1 := wrap_i64 (by omega)
  have w2 : IntKind.wrap .i64 (((n0 + nR l1 : Nat) : Int) + a.steps.length) = ((n0 + nR (l1 ++ [a]) : Nat) : Int) := by
   rw [wrap_i64 (by omega), nR_app]; simp [nR]; omega
  have hnth : nth (t.rates.map rateV) l1.length = rateV a := by rw [← he]; exact nth_mapA _ _ _ _
  simp only [List.length_append, List.length_cons, List.length_nil, Nat.zero_add, tariffW, V.cells] at ih ⊢
  simp only [rateV] at hnth
  generalize ((n0 + nR (l1 ++ [a]) : Nat) : Int) = N2 at *
  generalize ((n0 + nR l1 : Nat) : Int) = N1 at *
  unfold billingref25_Small_l4b
  simp [go_sem, q, q', hnth, w, w2]
  simpa using ih
theorem sm_bands (n0 : Nat) (h0 : n0 ≤ 70000000000000000) : ∀ (l2 l1 : List BandP), l1 ++ l2 = t.bands →
  Run mach0 (.c billingref25_Small_l3b :: .lp billingref25_Small_l3 :: .endB 4 :: .c billingref25_Small_k4 :: []) .norm
   ⟨(.undef :: .rptr (tariffW z t).cells :: .undef :: .int .i64 ((n0 + nS l1 : Nat) : Int) :: .undef :: .undef :: .int .i64 l1.length :: .undef :: .undef :: .undef :: .undef :: .undef :: .undef :: .undef :: .undef :: .undef :: .undef :: .undef :: .undef :: .undef :: .undef :: .undef :: .undef :: .undef :: .undef :: .undef :: .undef :: .undef :: .undef :: .undef :: .undef :: .undef :: .undef :: .undef :: .undef :: .undef :: .undef :: .undef :: .undef :: .undef :: .undef :: .undef :: .undef :: .undef :: .undef :: .undef :: .undef :: .undef :: .undef :: .undef :: .undef :: .undef :: .undef :: .undef :: .undef :: .undef :: .undef :: .undef :: .undef :: .undef :: .undef :: .undef :: .undef :: .undef :: .undef :: .undef :: .undef :: .undef :: .undef :: .undef :: .undef :: .undef :: .undef :: .undef :: .undef :: .undef :: .undef :: .undef :: .undef :: .undef :: .undef :: .undef :: .undef :: .undef :: .undef :: .undef :: .undef :: .undef :: .undef :: .undef :: .undef :: .undef :: .undef :: .undef :: .undef :: .undef :: .undef :: .undef :: .undef :: .undef :: .undef :: .undef :: .undef :: .undef :: .undef :: .undef :: .undef :: .undef :: .undef :: .undef :: .undef :: .undef :: .undef :: .undef :: .undef :: .undef :: .undef :: .undef :: []), []⟩ (FinQ [.tmp 2] 0 (.ret (.bool (t.discs.all (fun d => smallE d.cond) && decide (n0 + nS t.bands + nR t.rates ≤ 300))) []))
 | [], l1, he => by
  have q : ¬ ((l1.length : Int) < t.bands.length) := by rw [← he]; simp
  rw [List.append_nil] at he
  have hle := nS_le t.bands hT.slots
  have hn := hF.bands
  have run := sm_rates z t hT hF (n0 + nS t.bands) (by omega) t.rates [] rfl
  simp only [nR, Nat.add_zero] at run
  subst he
  simp only [tariffW, V.cells] at run ⊢
  generalize ((n0 + nS t.bands : Nat) : Int) = N at *
  unfold billingref25_Small_l3b
  simp [go_sem, q, billingref25_Small_k4]
  simp [go_sem, billingref25_Small_k4b]
  simpa using run
 | a :: l2, l1, he => by
  have ih := sm_bands n0 h0 l2 (l1 ++ [a]) (by rw [← he]; simp)
  have hn := hF.bands
  have hle := nS_le t.bands hT.slots
  have hsum : nS t.bands = nS l1 + (a.slots.length + nS l2) := by rw [← he, nS_app]; rfl
  have len : t.bands.length = l1.length + (l2.length + 1) := by rw [← he]; simp
  have q : (l1.length : Int) < t.bands.length := by omega
  have q' : l1.length < t.bands.length := by omega
  have w : IntKind.wrap .i64 ((l1.length : Int) + 1) = l1.length + 1 := wrap_i64 (by omega)
  have w2 : IntKind.wrap .i64 (((n0 + nS l1 : Nat) : Int) + a.slots.length) = ((n0 + nS (l1 ++ [a]) : Nat) : Int) := by
   rw [wrap_i64 (by omega), nS_app]; simp [nS]; omega
  have hnth : nth (t.bands.map (bandW z)) l1.length = bandW z a := by rw [← he]; exact nth_mapA _ _ _ _
  simp only [List.length_append, List.length_cons, List.length_nil, Nat.zero_add, tariffW, V.cells] at ih ⊢
  simp only [bandW, slW] at hnth
  generalize (if a.slots = [] then z else 3) = zz at *
  generalize ((n0 + nS (l1 ++ [a]) : Nat) : Int) = N2 at *
  generalize ((n0 + nS l1 : Nat) : Int) = N1 at *
  unfold billingref25_Small_l3b
  simp [go_sem, q, q', hnth, w, w2]
  simpa using ih
theorem sm_pref (a : ZoneP) (i : Nat) (hi : i < t.zones.length) (ha : nth (t.zones.map zoneV) i = zoneV a) (hl : a.pref.length ≤ 1000000000000000) (n : Int) (R : Bool)
    (hk : Run mach0 (.c billingref25_Small_k1b :: .lp billingref25_Small_l2 :: .endB 0 :: .c billingref25_Small_k5 :: []) .norm ⟨(.undef :: .rptr (tariffW z t).cells :: .undef :: .int .i64 n :: .int .i64 i :: .undef :: .undef :: .undef :: .undef :: .undef :: .undef :: .undef :: .undef :: .undef :: .undef :: .undef :: .undef :: .undef :: .undef :: .undef :: .undef :: .undef :: .undef :: .undef :: .undef :: .undef :: .undef :: .undef :: .undef :: .undef :: .undef :: .undef :: .undef :: .undef :: .undef :: .undef :: .undef :: .undef :: .undef :: .undef :: .undef :: .undef :: .undef :: .undef :: .undef :: .undef :: .undef :: .undef :: .undef :: .undef :: .undef :: .undef :: .undef :: .undef :: .undef :: .undef :: .undef :: .undef :: .undef :: .undef :: .undef :: .undef :: .undef :: .undef :: .undef :: .undef :: .undef :: .undef :: .undef :: .undef :: .undef :: .undef :: .undef :: .undef :: .undef :: .undef :: .undef :: .undef :: .undef :: .undef :: .undef :: .undef :: .undef :: .undef :: .undef :: .undef :: .undef :: .undef :: .undef :: .undef :: .undef :: .undef :: .undef :: .undef :: .undef :: .undef :: .undef :: .undef :: .undef :: .undef :: .undef :: .undef :: .undef :: .undef :: .undef :: .undef :: .undef :: .undef :: .undef :: .undef :: .undef :: .undef :: .undef :: .undef :: .undef :: .undef :: .undef :: .undef :: []), []⟩ (FinQ [.tmp 2] 0 (.ret (.bool R) []))) : ∀ (l2 l1 : List Bs), l1 ++ l2 = a.pref →
    Run mach0 (.c billingref25_Small_l1b :: .lp billingref25_Small_l1 :: .endB 2 :: .endB 1 :: .c billingref25_Small_k1 :: .lp billingref25_Small_l2 :: .endB 0 :: .c billingref25_Small_k5 :: []) .norm
      ⟨(.undef :: .rptr (tariffW z t).cells :: .undef :: .int .i64 n :: .int .i64 i :: .int .i64 l1.length :: .undef :: .undef :: .undef :: .undef :: .undef :: .undef :: .undef :: .undef :: .undef :: .undef :: .undef :: .undef :: .undef :: .undef :: .undef :: .undef :: .undef :: .undef :: .undef :: .undef :: .undef :: .undef :: .undef :: .undef :: .undef :: .undef :: .undef :: .undef :: .undef :: .undef :: .undef :: .undef :: .undef :: .undef :: .undef :: .undef :: .undef :: .undef :: .undef :: .undef :: .undef :: .undef :: .undef :: .undef :: .undef :: .undef :: .undef :: .undef :: .undef :: .undef :: .undef :: .undef :: .undef :: .undef :: .undef :: .undef :: .undef :: .undef :: .undef :: .undef :: .undef :: .undef :: .undef :: .undef :: .undef :: .undef :: .undef :: .undef :: .undef :: .undef :: .undef :: .undef :: .undef :: .undef :: .undef :: .undef :: .undef :: .undef :: .undef :: .undef :: .undef :: .undef :: .undef :: .undef :: .undef :: .undef :: .undef :: .undef :: .undef :: .undef :: .undef :: .undef :: .undef :: .undef :: .undef :: .undef :: .undef :: .undef :: .undef :: .undef :: .undef :: .undef :: .undef :: .undef :: .undef :: .undef :: .undef :: .undef :: .undef :: .undef :: .undef :: .undef :: []), []⟩ (FinQ [.tmp 2] 0 (.ret (.bool (l2.all short && R)) []))
  | [], l1, he => by
    have hn := hF.zones
    have _ := hT
    have q : ¬ ((l1.length : Int) < a.pref.length) := by rw [← he]; simp
    have q2 : (i : Int) < t.zones.length := by omega
    simp only [tariffW, V.cells] at hk ⊢
    simp only [zoneV] at ha
    unfold billingref25_Small_l1b
    simp [go_sem, q, q2, hi, ha, billingref25_Small_k1]
    exact hk
  | p :: l2, l1, he => by
    have ih := sm_pref a i hi ha hl n R hk l2 (l1 ++ [p]) (by rw [← he]; simp)
    have hn := hF.zones
    have len : a.pref.length = l1.length + (l2.length + 1) := by rw [← he]; simp
    have q : (l1.length : Int) < a.pref.length := by omega
    have q' : l1.length < a.pref.length := by omega
    have q2 : (i : Int) < t.zones.length := by omega
    have w : IntKind.wrap .i64 ((l1.length : Int) + 1) = l1.length + 1 := wrap_i64 (by omega)
    have hnth : nth (a.pref.map V.str) l1.length = .str p := by rw [← he]; exact nth_mapA _ _ _ _
    simp only [List.length_append, List.length_cons, List.length_nil, Nat.zero_add, tariffW, V.cells] at ih ⊢
    simp only [zoneV] at ha
    rw [List.all_cons]
    unfold billingref25_Small_l1b
    by_cases h1 : (100 : Int) < (p.length : Int)
    · have hs : short p = false := by simp [short]; omega
      rw [hs]
      simp [go_sem, q, q', q2, hi, ha, hnth, h1]
    · have hs : short p = true := by simp [short]; omega
      rw [hs]
      simp [go_sem, q, q', q2, hi, ha, hnth, h1, w]
      simpa using ih
theorem sm_zones : ∀ (l2 l1 : List ZoneP), l1 ++ l2 = t.zones →
  Run mach0 (.c billingref25_Small_l2b :: .lp billingref25_Small_l2 :: .endB 0 :: .c billingref25_Small_k5 :: []) .norm
   ⟨(.undef :: .rptr (tariffW z t).cells :: .undef :: .int .i64 ((nP l1 : Nat) : Int) :: .int .i64 l1.length :: .undef :: .undef :: .undef :: .undef :: .undef :: .undef :: .undef :: .undef :: .undef :: .undef :: .undef :: .undef :: .undef :: .undef :: .undef :: .undef :: .undef :: .undef :: .undef :: .undef :: .undef :: .undef :: .undef :: .undef :: .undef :: .undef :: .undef :: .undef :: .undef :: .undef :: .undef :: .undef :: .undef :: .undef :: .undef :: .undef :: .undef :: .undef :: .undef :: .undef :: .undef :: .undef :: .undef :: .undef :: .undef :: .undef :: .undef :: .undef :: .undef :: .undef :: .undef :: .undef :: .undef :: .undef :: .undef :: .undef :: .undef :: .undef :: .undef :: .undef :: .undef :: .undef :: .undef :: .undef :: .undef :: .undef :: .undef :: .undef :: .undef :: .undef :: .undef :: .undef :: .undef :: .undef :: .undef :: .undef :: .undef :: .undef :: .undef :: .undef :: .undef :: .undef :: .undef :: .undef :: .undef :: .undef :: .undef :: .undef :: .undef :: .undef :: .undef :: .undef :: .undef :: .undef :: .undef :: .undef :: .undef :: .undef :: .undef :: .undef :: .undef :: .undef :: .undef :: .undef :: .undef :: .undef :: .undef :: .undef :: .undef :: .undef :: .undef :: .undef :: .undef :: []), []⟩ (FinQ [.tmp 2] 0 (.ret (.bool (l2.all (fun z => z.pref.all short) && (t.discs.all (fun d => smallE d.cond) && decide (nP t.zones + nS t.bands + nR t.rates ≤ 300)))) []))
 | [], l1, he => by
  have q : ¬ ((l1.length : Int) < t.zones.length) := by rw [← he]; simp
  rw [List.append_nil] at he
  have hle := nP_le t.zones hT.pref
  have hn := hF.zones
  have run := sm_bands z t hT hF (nP t.zones) (by omega) t.bands [] rfl
  simp only [nS, Nat.add_zero] at run
  subst he
  simp only [tariffW, V.cells] at run ⊢
  generalize ((nP t.zones : Nat) : Int) = N at *
  unfold billingref25_Small_l2b
  simp [go_sem, q, billingref25_Small_k5]
  simp [go_sem, billingref25_Small_k5b]
  simpa using run
 | a :: l2, l1, he => by
  have ih := sm_zones l2 (l1 ++ [a]) (by rw [← he]; simp)
  have hn := hF.zones
  have hle := nP_le t.zones hT.pref
  have hsum : nP t.zones = nP l1 + (a.pref.length + nP l2) := by rw [← he, nP_app]; rfl
  have len : t.zones.length = l1.length + (l2.length + 1) := by rw [← he]; simp
  have q : (l1.length : Int) < t.zones.length := by omega
  have q' : l1.length < t.zones.length := by omega
  have w : IntKind.wrap .i64 ((l1.length : Int) + 1) = l1.length + 1 := wrap_i64 (by omega)
  have w2 : IntKind.wrap .i64 (((nP l1 : Nat) : Int) + a.pref.length) = ((nP (l1 ++ [a]) : Nat) : Int) := by
   rw [wrap_i64 (by omega), nP_app]; simp [nP]
  have hnth : nth (t.zones.map zoneV) l1.length = zoneV a := by rw [← he]; exact nth_mapA _ _ _ _
  have run := sm_pref z t hT hF a l1.length q' hnth (hT.pref a (by rw [← he]; simp)) ((nP (l1 ++ [a]) : Nat) : Int) (l2.all (fun z => z.pref.all short) && (t.discs.all (fun d => smallE d.cond) && decide (nP t.zones + nS t.bands + nR t.rates ≤ 300))) (by
   simp only [List.length_append, List.length_cons, List.length_nil, Nat.zero_add, tariffW, V.cells] at ih ⊢
   generalize ((nP (l1 ++ [a]) : Nat) : Int) = N2 at *
   unfold billingref25_Small_k1b
   simp [go_sem, w]
   simpa using ih) a.pref [] rfl
  simp only [tariffW, V.cells] at run ⊢
  simp only [zoneV] at hnth
  rw [List.all_cons, Bool.and_assoc]
  generalize ((nP (l1 ++ [a]) : Nat) : Int) = N2 at *
  generalize ((nP l1 : Nat) : Int) = N1 at *
  unfold billingref25_Small_l2b
  simp [go_sem, q, q', hnth, w2]
  simpa using run
end
theorem e_Small (z : Nat) (t : TariffP) (hT : TS t) : acall mach0 n_billingref25_Small [tariffW z t] [] = some (.ret (.bool (smallT t)) []) := by
 refine acall_fn rfl (af := a_billingref25_Small) rfl rfl ?_
 unfold smallT
 by_cases hF : t.zones.length ≤ 70 ∧ t.bands.length ≤ 70 ∧ t.rates.length ≤ 70 ∧ t.discs.length ≤ 70
 ·have run := sm_zones z t hT ⟨hF.1, hF.2.1, hF.2.2.1, hF.2.2.2⟩ t.zones [] rfl
  have hd : decide (t.zones.length ≤ 70 ∧ t.bands.length ≤ 70 ∧ t.rates.length ≤ 70 ∧ t.discs.length ≤ 70) = true := decide_eq_true hF
  rw [hd, Bool.true_and]
  have h1 : ¬ (70 : Int) < t.zones.length := by omega
  have h2 : ¬ (70 : Int) < t.bands.length := by omega
  have h3 : ¬ (70 : Int) < t.rates.length := by omega
  have h4 : ¬ (70 : Int) < t.discs.length := by omega
  simp only [nP] at run
  simp only [tariffW, V.cells] at run ⊢
  generalize (t.zones.all (fun z => z.pref.all short) && (t.discs.all (fun d => smallE d.cond) && decide (nP t.zones + nS t.bands + nR t.rates ≤ 300))) = RR at *
  simp [List.replicate, go_sem, h1, h2, h3, h4]
  simpa using run
 ·have hd : decide (t.zones.length ≤ 70 ∧ t.bands.length ≤ 70 ∧ t.rates.length ≤ 70 ∧ t.discs.length ≤ 70) = false := decide_eq_false hF
  rw [hd, Bool.false_and]
  simp only [tariffW]
  by_cases h1 : (70 : Int) < t.zones.length
  ·simp [List.replicate, go_sem, h1]
  by_cases h2 : (70 : Int) < t.bands.length
  ·simp [List.replicate, go_sem, h1, h2]
  by_cases h3 : (70 : Int) < t.rates.length
  ·simp [List.replicate, go_sem, h1, h2, h3]
  have h4 : (70 : Int) < t.discs.length := by omega
  simp [List.replicate, go_sem, h1, h2, h3, h4]
end Go.Am
namespace Go.Am
open Go Go.Pu Go.RowKit
theorem reach_le : reachBytes ≤ 1000000000000000 := by decide
theorem tyc_strs {f : Nat} {cs : List V} (h : TyC Go.Proofs.Try.prog f 65 cs) : ∃ l : List Bs, cs = [.sl false 1 (l.map V.str)] ∧ l.length ≤ 1000000000000000 := by
 obtain ⟨g, xs, rfl, hl, _, hel⟩ := tyc_slice (e := 9) (by kernel_rfl) h
 obtain ⟨l, rfl, _⟩ := choose_map (g := V.str) (p := fun _ => True) (xs := xs) (fun x hx => by
  obtain ⟨q1, q2⟩ := hel x hx
  obtain ⟨s, hs, _⟩ := tyc_string (by kernel_rfl) q2
  rw [hs, mkEl_one (by kernel_rfl)] at q1
  exact ⟨s, q1, trivial⟩)
 have hc : Go.Proofs.Try.prog.cellsOf 9 = 1 := by kernel_rfl
 have h2 := hl (by decide +kernel)
 have := reach_le
 simp only [List.length_map] at h2
 exact ⟨l, by rw [hc], by omega⟩
theorem tyc_zone {f : Nat} {cs : List V} (h : TyC Go.Proofs.Try.prog f 72 cs) : ∃ z : ZoneP, cs = (zoneV z).cells ∧ z.pref.length ≤ 1000000000000000 := by
 obtain ⟨g, hg, h⟩ := tyc_fields (ts := [9, 65]) (by kernel_rfl) h
 obtain ⟨x1, y1, rfl, h1, h⟩ := h.cons
 obtain ⟨x2, y2, rfl, h2, h⟩ := h.cons
 obtain rfl := h.nil
 obtain ⟨n, rfl, _⟩ := tyc_string (by kernel_rfl) h1
 obtain ⟨l, rfl, hl⟩ := tyc_strs h2
 exact ⟨⟨n, l⟩, rfl, hl⟩
theorem tyc_3 {f : Nat} {ty : TypeId} {cs : List V} (hf : fTypes Go.Proofs.Try.prog ty = some [3, 3, 3]) (h : TyC Go.Proofs.Try.prog f ty cs) : ∃ a b c : Int, cs = [.int .i64 a, .int .i64 b, .int .i64 c] := by
 obtain ⟨g, hg, h⟩ := tyc_fields hf h
 obtain ⟨x1, y1, rfl, h1, h⟩ := h.cons
 obtain ⟨x2, y2, rfl, h2, h⟩ := h.cons
 obtain ⟨x3, y3, rfl, h3, h⟩ := h.cons
 obtain rfl := h.nil
 obtain ⟨a, rfl, _⟩ := tyc_int (k := .i64) (by kernel_rfl) h1
 obtain ⟨b, rfl, _⟩ := tyc_int (k := .i64) (by kernel_rfl) h2
 obtain ⟨c, rfl, _⟩ := tyc_int (k := .i64) (by kernel_rfl) h3
 exact ⟨a, b, c, rfl⟩
theorem tyc_band {f : Nat} {cs : List V} (h : TyC Go.Proofs.Try.prog f 75 cs) : ∃ b : BandP, cs = (bandW 3 b).cells ∧ b.slots.length ≤ 1000000000000000 := by
 obtain ⟨g, hg, h⟩ := tyc_fields (ts := [9, 73]) (by kernel_rfl) h
 obtain ⟨x1, y1, rfl, h1, h⟩ := h.cons
 obtain ⟨x2, y2, rfl, h2, h⟩ := h.cons
 obtain rfl := h.nil
 obtain ⟨n, rfl, _⟩ := tyc_string (by kernel_rfl) h1
 obtain ⟨g, xs, rfl, hl, _, hel⟩ := tyc_slice (e := 124) (by kernel_rfl) h2
 obtain ⟨l, rfl, _⟩ := choose_map (g := slotV) (p := fun _ => True) (xs := xs) (fun x hx => by
  obtain ⟨q1, q2⟩ := hel x hx
  obtain ⟨a, b, c, hs⟩ := tyc_3 (by kernel_rfl) q2
  rw [hs, mkEl_agg (by kernel_rfl)] at q1
  exact ⟨⟨a, b, c⟩, q1, trivial⟩)
 have hc : Go.Proofs.Try.prog.cellsOf 124 = 3 := by kernel_rfl
 have h2 := hl (by decide +kernel)
 have := reach_le
 simp only [List.length_map] at h2
 refine ⟨⟨n, l⟩, ?_, by simp only; omega⟩
 simp [hc, bandW, slW, V.cells]
theorem tyc_rate {f : Nat} {cs : List V} (h : TyC Go.Proofs.Try.prog f 78 cs) : ∃ x : RateP, cs = (rateV x).cells ∧ x.steps.length ≤ 1000000000000000 := by
 obtain ⟨g, hg, h⟩ := tyc_fields (ts := [3, 9, 9, 3, 76]) (by kernel_rfl) h
 obtain ⟨x1, y1, rfl, h1, h⟩ := h.cons
 obtain ⟨x2, y2, rfl, h2, h⟩ := h.cons
 obtain ⟨x3, y3, rfl, h3, h⟩ := h.cons
 obtain ⟨x4, y4, rfl, h4, h⟩ := h.cons
 obtain ⟨x5, y5, rfl, h5, h⟩ := h.cons
 obtain rfl := h.nil
 obtain ⟨k, rfl, _⟩ := tyc_int (k := .i64) (by kernel_rfl) h1
 obtain ⟨zo, rfl, _⟩ := tyc_string (by kernel_rfl) h2
 obtain ⟨ba, rfl, _⟩ := tyc_string (by kernel_rfl) h3
 obtain ⟨su, rfl, _⟩ := tyc_int (k := .i64) (by kernel_rfl) h4
 obtain ⟨g, xs, rfl, hl, _, hel⟩ := tyc_slice (e := 127) (by kernel_rfl) h5
 obtain ⟨l, rfl, _⟩ := choose_map (g := stepV) (p := fun _ => True) (xs := xs) (fun x hx => by
  obtain ⟨q1, q2⟩ := hel x hx
  obtain ⟨a, b, c, hs⟩ := tyc_3 (by kernel_rfl) q2
  rw [hs, mkEl_agg (by kernel_rfl)] at q1
  exact ⟨⟨a, b, c⟩, q1, trivial⟩)
 have hc : Go.Proofs.Try.prog.cellsOf 127 = 3 := by kernel_rfl
 have h2 := hl (by decide +kernel)
 have := reach_le
 simp only [List.length_map] at h2
 refine ⟨⟨k, zo, ba, su, l⟩, ?_, by simp only; omega⟩
 simp [hc, rateV, V.cells]
theorem tyc_disc {f : Nat} {cs : List V} (h : TyC Go.Proofs.Try.prog f 80 cs) : ∃ d : DiscP, cs = (discV d).cells ∧ Sz d.cond := by
 obtain ⟨g, hg, h⟩ := tyc_fields (ts := [9, 38, 3]) (by kernel_rfl) h
 obtain ⟨x1, y1, rfl, h1, h⟩ := h.cons
 obtain ⟨x2, y2, rfl, h2, h⟩ := h.cons
 obtain ⟨x3, y3, rfl, h3, h⟩ := h.cons
 obtain rfl := h.nil
 obtain ⟨n, rfl, _⟩ := tyc_string (by kernel_rfl) h1
 obtain ⟨e, rfl, hs⟩ := tyc_expr g _ h2
 obtain ⟨p, rfl, _⟩ := tyc_int (k := .i64) (by kernel_rfl) h3
 refine ⟨⟨n, p, e⟩, ?_, hs⟩
 obtain ⟨o, m, t, a⟩ := e
 simp [discV, exprC, exprV, V.cells]
theorem list_of {α : Type} {ty e : TypeId} {k : Nat} {g : α → V} {p : α → Prop} {f : Nat} {cs : List V} (hu : Go.Proofs.Try.prog.underlying ty = some (.slice e)) (hc : Go.Proofs.Try.prog.cellsOf e = k) (ha : aggT Go.Proofs.Try.prog e = true)
    (hg : ∀ a, g a = .agg (g a).cells) (hel : ∀ f cs, TyC Go.Proofs.Try.prog f e cs → ∃ a, cs = (g a).cells ∧ p a) (h : TyC Go.Proofs.Try.prog f ty cs) : ∃ l : List α, cs = [.sl false k (l.map g)] ∧ ∀ a ∈ l, p a := by
  obtain ⟨g2, xs, rfl, hl, _, hx⟩ := tyc_slice hu h
  obtain ⟨l, rfl, hp⟩ := choose_map (g := g) (p := p) (xs := xs) (fun x hxx => by
    obtain ⟨q1, q2⟩ := hx x hxx
    obtain ⟨a, hs, hpa⟩ := hel _ _ q2
    refine ⟨a, ?_, hpa⟩
    rw [q1, mkEl_agg ha, hs, ← hg a])
  exact ⟨l, by rw [hc], hp⟩
theorem arg_tariff {u : V} (h : u = mkEl Go.Proofs.Try.prog 27 u.cells ∧ ∃ f, TyC Go.Proofs.Try.prog f 27 u.cells) : ∃ t : TariffP, u = tariffW 3 t ∧ TS t := by
 obtain ⟨h1, f, h⟩ := h
 obtain ⟨g, hg, h⟩ := tyc_fields (ts := [9, 3, 4, 22, 23, 24, 25]) (by kernel_rfl) h
 obtain ⟨x1, y1, e1, h2, h⟩ := h.cons
 obtain ⟨x2, y2, rfl, h3, h⟩ := h.cons
 obtain ⟨x3, y3, rfl, h4, h⟩ := h.cons
 obtain ⟨x4, y4, rfl, h5, h⟩ := h.cons
 obtain ⟨x5, y5, rfl, h6, h⟩ := h.cons
 obtain ⟨x6, y6, rfl, h7, h⟩ := h.cons
 obtain ⟨x7, y7, rfl, h8, h⟩ := h.cons
 obtain rfl := h.nil
 obtain ⟨n, rfl, _⟩ := tyc_string (by kernel_rfl) h2
 obtain ⟨s, rfl, _⟩ := tyc_int (k := .i64) (by kernel_rfl) h3
 obtain ⟨b, rfl⟩ := tyc_bool (by kernel_rfl) h4
 obtain ⟨zs, rfl, hz⟩ := list_of (k := 2) (g := zoneV) (p := fun z => z.pref.length ≤ 1000000000000000) (by kernel_rfl) (by kernel_rfl) (by kernel_rfl) (fun _ => rfl) (fun _ _ => tyc_zone) h5
 obtain ⟨bs, rfl, hb⟩ := list_of (k := 2) (g := bandW 3) (p := fun z => z.slots.length ≤ 1000000000000000) (by kernel_rfl) (by kernel_rfl) (by kernel_rfl) (fun _ => rfl) (fun _ _ => tyc_band) h6
 obtain ⟨rs, rfl, hr⟩ := list_of (k := 5) (g := rateV) (p := fun z => z.steps.length ≤ 1000000000000000) (by kernel_rfl) (by kernel_rfl) (by kernel_rfl) (fun _ => rfl) (fun _ _ => tyc_rate) h7
 obtain ⟨ds, rfl, hd⟩ := list_of (k := 6) (g := discV) (p := fun z => Sz z.cond) (by kernel_rfl) (by kernel_rfl) (by kernel_rfl) (fun _ => rfl) (fun _ _ => tyc_disc) h8
 refine ⟨⟨n, s, b, zs, bs, rs, ds⟩, ?_, ⟨hz, hb, hr, hd⟩⟩
 rw [h1, e1, mkEl_agg (by kernel_rfl)]
 rfl
theorem nP_mem {l : List ZoneP} {z : ZoneP} (h : z ∈ l) : z.pref.length ≤ nP l := by
 obtain ⟨a, b, rfl⟩ := List.append_of_mem h
 rw [nP_app]; simp only [nP]; omega
theorem nS_mem {l : List BandP} {z : BandP} (h : z ∈ l) : z.slots.length ≤ nS l := by
 obtain ⟨a, b, rfl⟩ := List.append_of_mem h
 rw [nS_app]; simp only [nS]; omega
theorem nR_mem {l : List RateP} {z : RateP} (h : z ∈ l) : z.steps.length ≤ nR l := by
 obtain ⟨a, b, rfl⟩ := List.append_of_mem h
 rw [nR_app]; simp only [nR]; omega
theorem smallT_facts {t : TariffP} (h : smallT t = true) : (t.zones.length ≤ 70 ∧ t.bands.length ≤ 70 ∧ t.rates.length ≤ 70 ∧ t.discs.length ≤ 70) ∧ (∀ d ∈ t.discs, smallE d.cond = true) ∧ nP t.zones + nS t.bands + nR t.rates ≤ 300 := by
 simp only [smallT, Bool.and_eq_true, decide_eq_true_eq, List.all_eq_true] at h
 exact ⟨h.1, fun d hd => h.2.2.1 d hd, h.2.2.2⟩
theorem smallT_tb {t : TariffP} (h : smallT t = true) : TB t := by
 obtain ⟨⟨a1, a2, a3, a4⟩, hd, hn⟩ := smallT_facts h
 exact ⟨by omega, fun z hz => by have := nP_mem hz; omega, by omega, fun z hz => by have := nS_mem hz; omega, by omega, fun z hz => by have := nR_mem hz; omega, by omega, fun d hx => smallE_tl _ (hd d hx)⟩
theorem flat_le {α : Type} (f : α → Bs) (k : Nat) : ∀ {l : List α}, (∀ a ∈ l, (f a).length ≤ k) → (l.flatMap f).length ≤ k * l.length
 | [], _ => by simp
 | a :: l, h => by
  have := h a (by simp)
  have := flat_le f k (l := l) (fun b hb => h b (by simp [hb]))
  simp only [List.flatMap_cons, List.length_append, List.length_cons, Nat.mul_succ]; omega
theorem name_len {s : Bs} (h : nameOk s = true) : s.length ≤ 24 := by
 simp only [nameOk, Bool.and_eq_true, decide_eq_true_eq] at h; exact h.1.2
theorem slotB_len {s : SlotP} (h : SlotOk s) : (slotB s).length ≤ 100 := by
 obtain ⟨d1, d2, _⟩ := h
 have h2 := dayF_len s.days.toNat 8 0 [] (by omega) (by simp)
 have h3 := dayF_all ⟨s.days.toNat, by omega⟩
 simp only at h3
 rw [h3] at h2
 simp only [slotB, daysB, List.length_append, List.length_cons, minute_lenA]; omega
theorem sum_slots : ∀ m : List SlotP, (∀ s ∈ m, SlotOk s) → sumL (m.map slotB) ≤ 100 * m.length
 | [], _ => by simp [sumL]
 | s :: m, hm => by
  have h1 := sum_slots m (fun x hx => hm x (by simp [hx]))
  have h4 := slotB_len (hm s (by simp))
  simp only [List.map_cons, sumL, List.length_cons]
  omega
theorem small_len {t : TariffP} (h : smallT t = true) (hw : WholeOk t) : (tariffB t).length ≤ 100000000 := by
 obtain ⟨⟨a1, a2, a3, a4⟩, hd, hn⟩ := smallT_facts h
 have z1 := flat_le zoneB 10000 (l := t.zones) (fun z hz => by
  have hk := hw.zones z hz
  have h1 := nP_mem hz
  have h2 := name_len hk.name
  have h3 := join_len z.pref
  have h4 := sum_pref z.pref hk.pref
  rw [zoneB_eq]; simp only [List.length_append, List.length_cons, List.length_nil]; omega)
 have z2 := flat_le bandB 100000 (l := t.bands) (fun z hz => by
  have hk := hw.bands z hz
  have h1 := nS_mem hz
  have h2 := name_len hk.name
  have h3 := join_len (z.slots.map slotB)
  have h4 := sum_slots z.slots hk.slots
  rw [List.length_map] at h3
  have h5 : (slotsB z.slots).length ≤ 50000 := by
   unfold slotsB
   split
   ·decide
   ·omega
  rw [bandB_eq]; simp only [List.length_append, List.length_cons, List.length_nil]; omega)
 have z3 := flat_le rateB 100000 (l := t.rates) (fun z hz => by
  have hk := hw.rates z hz
  have h1 := nR_mem hz
  have h3 := join_len (z.steps.map tierB)
  have h4 := sum_tiers z.steps hk.steps
  have l1' := any_len hk.zone
  have l2' := any_len hk.band
  have l3' := kind_lenA hk.k1 hk.k2
  have l4' : (setupB z.setup).length ≤ 30 := by
   have := decZ_len hk.setup
   unfold setupB
   split
   ·simp
   ·simp [kSetup]; omega
  rw [List.length_map] at h3
  rw [rateB_eq]; simp only [List.length_append, List.length_cons, List.length_nil]; omega)
 have z4 := flat_le discB 100000 (l := t.discs) (fun z hz => by
  have hk := hw.discs z hz
  have h2 := name_len hk.name
  have h3 := decZ_len hk.points
  have h4 := txt_count z.cond hk.cond
  have h5 := smallE_count (hd z hz)
  rw [discB_eq]; simp only [List.length_append, List.length_cons, List.length_nil]; omega)
 have l1 := dayB_lenA (t.start / 86400)
 have hs0 := hw.s1
 have lc : (clockO (t.start % 86400)).length ≤ 9 := by
  obtain ⟨s, hs⟩ : ∃ s : Nat, t.start % 86400 = (s : Int) := ⟨(t.start % 86400).toNat, by omega⟩
  rw [hs]
  unfold clockO
  split
  ·simp
  ·simp [clockB_eq, k2_lenA]
 have ls : (splitO t.split).length ≤ 6 := by unfold splitO; split <;> decide
 have ln := name_len hw.name
 have hh : (headB t).length ≤ 100 := by
  rw [headB_eq]; simp only [List.length_append, List.length_cons, List.length_nil]; omega
 simp only [tariffB, List.length_append]
 omega
end Go.Am
namespace Go.Am
open Go Go.Pu
theorem rdig_l : ∀ (r p : Bs), (p ++ r).length ≤ 1000000 →
  Run mach0 (.c billingref25_digits_l1b :: .lp billingref25_digits_l1 :: .endB 0 :: .c billingref25_digits_k1 :: []) .norm
   ⟨(.str (p ++ r) :: .undef :: .undef :: .int .i64 p.length :: .undef :: .undef :: .undef :: .undef :: .undef :: .undef :: .undef :: .undef :: .undef :: .undef :: .undef :: .undef :: .undef :: .undef :: .undef :: .undef :: .undef :: .undef :: .undef :: []), []⟩ (FinQ [.tmp 2] 0 (.ret (.bool (r.all digitB && (!(p ++ r).isEmpty && decide ((p ++ r).length ≤ 16)))) []))
 | [], p, hl => by
  have q : ¬ ((p.length : Int) < p.length) := by omega
  simp only [List.append_nil, List.all_nil, Bool.true_and] at hl ⊢
  unfold billingref25_digits_l1b
  cases p with
  | nil =>
   simp [go_sem, billingref25_digits_k1]
   simp [go_sem, billingref25_digits_k1b]
  | cons b p =>
   have q1 : (1 : Int) ≤ (p.length : Int) + 1 := by omega
   by_cases h : p.length + 1 ≤ 16
   ·have h' : (p.length : Int) + 1 ≤ 16 := by omega
    simp [go_sem, q, billingref25_digits_k1]
    simp [go_sem, billingref25_digits_k1b, q1, h, h']
    omega
   ·have h' : ¬ (p.length : Int) + 1 ≤ 16 := by omega
    simp [go_sem, q, billingref25_digits_k1]
    simp [go_sem, billingref25_digits_k1b, q1, h, h']
    omega
 | b :: r, p, hl => by
  have ih := rdig_l r (p ++ [b]) (by simpa using hl)
  have happ : p ++ [b] ++ r = p ++ b :: r := by simp
  rw [happ] at ih
  simp only [List.length_append, List.length_cons, List.length_nil, Nat.zero_add] at ih hl
  have q : (p.length : Int) < p.length + (r.length + 1) := by omega
  have w : IntKind.wrap .i64 ((p.length : Int) + 1) = p.length + 1 := wrap_i64 (by omega)
  have g := get_midB (p := p) (r := r) (b := b)
  have e2 := e_rDigit b
  simp only [List.all_cons, List.length_append, List.length_cons]
  generalize (!(p ++ b :: r).isEmpty && decide (p.length + (r.length + 1) ≤ 16)) = X at *
  unfold billingref25_digits_l1b
  cases h2 : digitB b with
  | true =>
   rw [h2] at e2
   rw [Bool.true_and]
   simp [go_sem, q, g, e2, w]
   simpa using ih
  | false =>
   rw [h2] at e2
   simp [go_sem, q, g, e2]
theorem e_rdigits (s : Bs) (h : s.length ≤ 1000000) : acall mach0 n_billingref25_digits [.str s] [] = some (.ret (.bool (prefOkB s)) []) := by
 refine acall_fn rfl (af := a_billingref25_digits) rfl rfl ?_
 have := rdig_l s [] (by simpa using h)
 unfold prefOkB
 rw [Bool.and_assoc]
 simp [List.replicate, go_sem]
 simpa using this
theorem rzone_l (z : ZoneP) (hn : z.pref.length ≤ 1000000) (hp : ∀ p ∈ z.pref, p.length ≤ 1000000) : ∀ (l2 l1 : List Bs), l1 ++ l2 = z.pref →
  Run mach0 (.c billingref25_zone_l1b :: .lp billingref25_zone_l1 :: .endB 0 :: .c billingref25_zone_k1 :: []) .norm
   ⟨(.undef :: .rptr [.str z.name, .sl false 1 (z.pref.map V.str)] :: .undef :: .int .i64 l1.length :: .undef :: .undef :: .undef :: .undef :: .undef :: .undef :: .undef :: .undef :: .undef :: .undef :: .undef :: .undef :: .undef :: .undef :: .undef :: .undef :: .undef :: .undef :: .undef :: .undef :: .undef :: .undef :: .undef :: []), []⟩ (FinQ [.tmp 2] 0 (.ret (.bool (l2.all prefOkB && (nameOk z.name && !z.pref.isEmpty))) []))
 | [], l1, he => by
  have q : ¬ ((l1.length : Int) < z.pref.length) := by rw [← he]; simp
  have em := e_rName z.name
  have hne : decide (0 < z.pref.length) = !z.pref.isEmpty := by cases z.pref <;> simp
  simp only [List.all_nil, Bool.true_and]
  rw [← hne]
  unfold billingref25_zone_l1b
  simp [go_sem, q, billingref25_zone_k1]
  cases h1 : nameOk z.name with
  | true =>
   rw [h1] at em
   simp [go_sem, billingref25_zone_k1b, em]
  | false =>
   rw [h1] at em
   simp [go_sem, billingref25_zone_k1b, em]
 | a :: l2, l1, he => by
  have ih := rzone_l z hn hp l2 (l1 ++ [a]) (by rw [← he]; simp)
  have len : z.pref.length = l1.length + (l2.length + 1) := by rw [← he]; simp
  have q : (l1.length : Int) < z.pref.length := by omega
  have q' : l1.length < z.pref.length := by omega
  have w : IntKind.wrap .i64 ((l1.length : Int) + 1) = l1.length + 1 := wrap_i64 (by omega)
  have hnth : nth (z.pref.map V.str) l1.length = .str a := by rw [← he]; exact nth_mapA _ _ _ _
  have e := e_rdigits a (hp a (by rw [← he]; simp))
  simp only [List.length_append, List.length_cons, List.length_nil, Nat.zero_add] at ih
  simp only [List.all_cons]
  generalize (nameOk z.name && !z.pref.isEmpty) = X at *
  unfold billingref25_zone_l1b
  cases h : prefOkB a with
  | true =>
   rw [h] at e
   simp [go_sem, q, q', hnth, e, w]
   simpa using ih
  | false =>
   rw [h] at e
   simp [go_sem, q, q', hnth, e, w]
theorem e_rzone (z : ZoneP) (hn : z.pref.length ≤ 1000000) (hp : ∀ p ∈ z.pref, p.length ≤ 1000000) : acall mach0 n_billingref25_zone [zoneV z] [] = some (.ret (.bool (zoneOkB z)) []) := by
 have run := rzone_l z hn hp z.pref [] rfl
 have e : zoneOkB z = (z.pref.all prefOkB && (nameOk z.name && !z.pref.isEmpty)) := by
  unfold zoneOkB
  cases nameOk z.name <;> cases z.pref.all prefOkB <;> rfl
 refine acall_fn rfl (af := a_billingref25_zone) rfl rfl ?_
 rw [e]
 simp only [zoneV]
 simp [List.replicate, go_sem]
 simpa using run
theorem rband_l (b : BandP) (zz : Nat) (hn : b.slots.length ≤ 1000000) (hz : b.slots ≠ [] → zz = 3) : ∀ (l2 l1 : List SlotP), l1 ++ l2 = b.slots →
  Run mach0 (.c billingref25_band_l1b :: .lp billingref25_band_l1 :: .endB 0 :: .c billingref25_band_k1 :: []) .norm
   ⟨(.undef :: .rptr [.str b.name, .sl false zz (b.slots.map slotV)] :: .undef :: .int .i64 l1.length :: .undef :: .undef :: .undef :: .undef :: .undef :: .undef :: .undef :: .undef :: .undef :: .undef :: .undef :: .undef :: .undef :: .undef :: .undef :: .undef :: .undef :: .undef :: .undef :: .undef :: .undef :: .undef :: .undef :: .undef :: .undef :: .undef :: .undef :: .undef :: .undef :: .undef :: .undef :: .undef :: .undef :: .undef :: .undef :: .undef :: .undef :: .undef :: .undef :: .undef :: .undef :: .undef :: .undef :: .undef :: []), []⟩ (FinQ [.tmp 2] 0 (.ret (.bool (l2.all slotOkB && nameOk b.name)) []))
 | [], l1, he => by
  have q : ¬ ((l1.length : Int) < b.slots.length) := by rw [← he]; simp
  have em := e_rName b.name
  simp only [List.all_nil, Bool.true_and]
  unfold billingref25_band_l1b
  simp [go_sem, q, billingref25_band_k1]
  simp [go_sem, billingref25_band_k1b, em]
 | s :: l2, l1, he => by
  have ih := rband_l b zz hn hz l2 (l1 ++ [s]) (by rw [← he]; simp)
  have len : b.slots.length = l1.length + (l2.length + 1) := by rw [← he]; simp
  obtain rfl := hz (by intro h; rw [h] at len; simp at len)
  have q : (l1.length : Int) < b.slots.length := by omega
  have q' : l1.length < b.slots.length := by omega
  have w : IntKind.wrap .i64 ((l1.length : Int) + 1) = l1.length + 1 := wrap_i64 (by omega)
  have hnth : nth (b.slots.map slotV) l1.length = slotV s := by rw [← he]; exact nth_mapA _ _ _ _
  simp only [List.length_append, List.length_cons, List.length_nil, Nat.zero_add] at ih
  obtain ⟨d, lo, hi⟩ := s
  simp only [slotV] at hnth
  simp only [List.all_cons]
  generalize nameOk b.name = X at *
  unfold billingref25_band_l1b
  by_cases h1 : d < 1
  ·have hf : slotOkB ⟨d, lo, hi⟩ = false := by simp only [slotOkB, decide_eq_false_iff_not]; omega
   simp [go_sem, q, q', hnth, h1, hf]
  by_cases h2 : 255 < d
  ·have hf : slotOkB ⟨d, lo, hi⟩ = false := by simp only [slotOkB, decide_eq_false_iff_not]; omega
   simp [go_sem, q, q', hnth, h1, h2, hf]
  by_cases h3 : lo < 0
  ·have hf : slotOkB ⟨d, lo, hi⟩ = false := by simp only [slotOkB, decide_eq_false_iff_not]; omega
   simp [go_sem, q, q', hnth, h1, h2, h3, hf]
  by_cases h4 : 1439 < lo
  ·have hf : slotOkB ⟨d, lo, hi⟩ = false := by simp only [slotOkB, decide_eq_false_iff_not]; omega
   simp [go_sem, q, q', hnth, h1, h2, h3, h4, hf]
  by_cases h5 : hi < 0
  ·have hf : slotOkB ⟨d, lo, hi⟩ = false := by simp only [slotOkB, decide_eq_false_iff_not]; omega
   simp [go_sem, q, q', hnth, h1, h2, h3, h4, h5, hf]
  by_cases h6 : 1440 < hi
  ·have hf : slotOkB ⟨d, lo, hi⟩ = false := by simp only [slotOkB, decide_eq_false_iff_not]; omega
   simp [go_sem, q, q', hnth, h1, h2, h3, h4, h5, h6, hf]
  have hf : slotOkB ⟨d, lo, hi⟩ = true := by simp only [slotOkB, decide_eq_true_eq]; omega
  rw [hf, Bool.true_and]
  simp [go_sem, q, q', hnth, h1, h2, h3, h4, h5, h6, w]
  simpa using ih
theorem e_rband (z : Nat) (b : BandP) (hn : b.slots.length ≤ 1000000) : acall mach0 n_billingref25_band [bandW z b] [] = some (.ret (.bool (bandOkB b)) []) := by
 have run := rband_l b (if b.slots = [] then z else 3) hn (fun h => by rw [if_neg h]) b.slots [] rfl
 have e : bandOkB b = (b.slots.all slotOkB && nameOk b.name) := by
  unfold bandOkB; exact Bool.and_comm _ _
 refine acall_fn rfl (af := a_billingref25_band) rfl rfl ?_
 rw [e]
 simp only [bandW, slW]
 generalize (if b.slots = [] then z else 3) = zz at *
 simp [List.replicate, go_sem]
 simpa using run
theorem rrate_l (x : RateP) (hn : x.steps.length ≤ 1000000) (R : Bool)
    (hk : Run mach0 (.c billingref25_rate_k1b :: []) .norm ⟨(.undef :: .rptr [.int .i64 x.kind, .str x.zone, .str x.band, .int .i64 x.setup, .sl false 3 (x.steps.map stepV)] :: .undef :: .undef :: .undef :: .undef :: .undef :: .undef :: .undef :: .undef :: .undef :: .undef :: .undef :: .undef :: .undef :: .undef :: .undef :: .undef :: .undef :: .undef :: .undef :: .undef :: .undef :: .undef :: .undef :: .undef :: .undef :: .undef :: .undef :: .undef :: .undef :: .undef :: .undef :: .undef :: .undef :: .undef :: .undef :: .undef :: .undef :: .undef :: .undef :: .undef :: .undef :: .undef :: .undef :: .undef :: .undef :: .undef :: .undef :: .undef :: .undef :: .undef :: .undef :: .undef :: .undef :: .undef :: .undef :: .undef :: .undef :: .undef :: .undef :: .undef :: .undef :: .undef :: .undef :: .undef :: .undef :: .undef :: .undef :: .undef :: .undef :: .undef :: .undef :: .undef :: .undef :: .undef :: .undef :: .undef :: []), []⟩ (FinQ [.tmp 2] 0 (.ret (.bool R) []))) : ∀ (l2 l1 : List StepP), l1 ++ l2 = x.steps →
    Run mach0 (.c billingref25_rate_l1b :: .lp billingref25_rate_l1 :: .endB 0 :: .c billingref25_rate_k1 :: []) .norm
      ⟨(.undef :: .rptr [.int .i64 x.kind, .str x.zone, .str x.band, .int .i64 x.setup, .sl false 3 (x.steps.map stepV)] :: .undef :: .int .i64 l1.length :: .undef :: .undef :: .undef :: .undef :: .undef :: .undef :: .undef :: .undef :: .undef :: .undef :: .undef :: .undef :: .undef :: .undef :: .undef :: .undef :: .undef :: .undef :: .undef :: .undef :: .undef :: .undef :: .undef :: .undef :: .undef :: .undef :: .undef :: .undef :: .undef :: .undef :: .undef :: .undef :: .undef :: .undef :: .undef :: .undef :: .undef :: .undef :: .undef :: .undef :: .undef :: .undef :: .undef :: .undef :: .undef :: .undef :: .undef :: .undef :: .undef :: .undef :: .undef :: .undef :: .undef :: .undef :: .undef :: .undef :: .undef :: .undef :: .undef :: .undef :: .undef :: .undef :: .undef :: .undef :: .undef :: .undef :: .undef :: .undef :: .undef :: .undef :: .undef :: .undef :: .undef :: .undef :: []), []⟩ (FinQ [.tmp 2] 0 (.ret (.bool (l2.all stepOkB && R)) []))
  | [], l1, he => by
    have q : ¬ ((l1.length : Int) < x.steps.length) := by rw [← he]; simp
    simp only [List.all_nil, Bool.true_and]
    unfold billingref25_rate_l1b
    simp [go_sem, q, billingref25_rate_k1]
    exact hk
  | s :: l2, l1, he => by
    have ih := rrate_l x hn R hk l2 (l1 ++ [s]) (by rw [← he]; simp)
    have len : x.steps.length = l1.length + (l2.length + 1) := by rw [← he]; simp
    have q : (l1.length : Int) < x.steps.length := by omega
    have q' : l1.length < x.steps.length := by omega
    have w : IntKind.wrap .i64 ((l1.length : Int) + 1) = l1.length + 1 := wrap_i64 (by omega)
    have hnth : nth (x.steps.map stepV) l1.length = stepV s := by rw [← he]; exact nth_mapA _ _ _ _
    have e1 : ∀ n, acall mach0 n_billingref25_number [.int .i64 n] [] = some (.ret (.bool (numOkB n)) []) := e_rnumber
    simp only [List.length_append, List.length_cons, List.length_nil, Nat.zero_add] at ih
    obtain ⟨u, qq, p⟩ := s
    simp only [stepV] at hnth
    simp only [List.all_cons, stepOkB]
    unfold billingref25_rate_l1b
    cases h1 : numOkB u with
    | false => simp [go_sem, q, q', hnth, e1, h1]
    | true =>
      cases h2 : numOkB qq with
      | false => simp [go_sem, q, q', hnth, e1, h1, h2]
      | true =>
        cases h3 : numOkB p with
        | false => simp [go_sem, q, q', hnth, e1, h1, h2, h3]
        | true =>
          simp [go_sem, q, q', hnth, e1, h1, h2, h3, w]
          simpa using ih
theorem e_rrate (x : RateP) (hn : x.steps.length ≤ 1000000) : acall mach0 n_billingref25_rate [rateV x] [] = some (.ret (.bool (rateOkB x)) []) := by
 have e1 : ∀ n, acall mach0 n_billingref25_number [.int .i64 n] [] = some (.ret (.bool (numOkB n)) []) := e_rnumber
 have en : ∀ n, acall mach0 n_billingref25_Name [.str n] [] = some (.ret (.bool (nameOk n)) []) := e_rName
 have hne : decide (0 < x.steps.length) = !x.steps.isEmpty := by cases x.steps <;> simp
 have hz : (x.zone == []) = x.zone.isEmpty := by cases x.zone <;> rfl
 have hb : (x.band == []) = x.band.isEmpty := by cases x.band <;> rfl
 have run := rrate_l x hn (decide (1 ≤ x.kind ∧ x.kind ≤ 4) && (x.zone.isEmpty || nameOk x.zone) && (x.band.isEmpty || nameOk x.band) && numOkB x.setup && !x.steps.isEmpty) (by
  rw [← hne]
  unfold billingref25_rate_k1b
  by_cases k1 : 1 ≤ x.kind
  ·by_cases k2 : x.kind < 5
   ·have hf : decide (1 ≤ x.kind ∧ x.kind ≤ 4) = true := decide_eq_true (by omega)
    rw [hf]
    cases c1 : x.zone.isEmpty with
    | true =>
     cases c2 : x.band.isEmpty with
     | true => cases c4 : numOkB x.setup <;> simp [go_sem, k1, k2, hz, hb, c1, c2, e1, c4]
     | false => cases c3 : nameOk x.band <;> cases c4 : numOkB x.setup <;> simp [go_sem, k1, k2, hz, hb, c1, c2, c3, en, e1, c4]
    | false =>
     cases c0 : nameOk x.zone with
     | false => simp [go_sem, k1, k2, hz, hb, c1, en, c0]
     | true =>
      cases c2 : x.band.isEmpty with
      | true => cases c4 : numOkB x.setup <;> simp [go_sem, k1, k2, hz, hb, c1, c2, e1, c4, en, c0]
      | false => cases c3 : nameOk x.band <;> cases c4 : numOkB x.setup <;> simp [go_sem, k1, k2, hz, hb, c1, c2, c3, en, e1, c4, c0]
   ·have hf : decide (1 ≤ x.kind ∧ x.kind ≤ 4) = false := decide_eq_false (by omega)
    rw [hf]
    simp [go_sem, k1, k2]
  ·have hf : decide (1 ≤ x.kind ∧ x.kind ≤ 4) = false := decide_eq_false (by omega)
   rw [hf]
   simp [go_sem, k1]) x.steps [] rfl
 have e : rateOkB x = (x.steps.all stepOkB && (decide (1 ≤ x.kind ∧ x.kind ≤ 4) && (x.zone.isEmpty || nameOk x.zone) && (x.band.isEmpty || nameOk x.band) && numOkB x.setup && !x.steps.isEmpty)) := by
  unfold rateOkB; exact Bool.and_comm _ _
 rw [e]
 refine acall_fn rfl (af := a_billingref25_rate) rfl rfl ?_
 simp only [rateV]
 simp [List.replicate, go_sem]
 simpa using run
theorem e_rdiscount (d : DiscP) (ht : Tl d.cond) : acall mach0 n_billingref25_discount [discV d] [] = some (.ret (.bool (discOkB d)) []) := by
 have e1 : acall mach0 n_billingref25_number [.int .i64 d.points] [] = some (.ret (.bool (numOkB d.points)) []) := e_rnumber d.points
 have en := e_rName d.name
 have ep := e_rPrintable d.cond ht
 refine acall_fn rfl (af := a_billingref25_discount) rfl rfl ?_
 unfold discOkB
 obtain ⟨name, points, cond⟩ := d
 obtain ⟨op, num, text, args⟩ := cond
 simp only [exprV] at ep
 simp only [discV, exprC, List.cons_append, List.nil_append]
 dsimp only at *
 generalize prb (.mk op num text args) = P at *
 cases h1 : nameOk name with
 | false => rw [h1] at en; simp [List.replicate, go_sem, en]
 | true =>
  rw [h1] at en
  cases h2 : numOkB points with
  | false => rw [h2] at e1; simp [List.replicate, go_sem, en, e1]
  | true => rw [h2] at e1; simp [List.replicate, go_sem, en, e1, ep]
end Go.Am
namespace Go.Am
open Go Go.Pu
def TP (t : TariffP) : Prop := ∀ z ∈ t.zones, ∀ p ∈ z.pref, p.length ≤ 1000000
theorem rw_zones (z : Nat) (t : TariffP) (hB : TB t) (hP : TP t) (R : Bool)
    (hk : Run mach0 (.c billingref25_Whole_k4b :: []) .norm ⟨(.undef :: .rptr (tariffW z t).cells :: .undef :: .undef :: .undef :: .undef :: .undef :: .undef :: .undef :: .undef :: .undef :: .undef :: .undef :: .undef :: .undef :: .undef :: .undef :: .undef :: .undef :: .undef :: .undef :: .undef :: .undef :: .undef :: .undef :: .undef :: .undef :: .undef :: .undef :: .undef :: .undef :: .undef :: .undef :: .undef :: .undef :: .undef :: .undef :: .undef :: .undef :: .undef :: .undef :: .undef :: .undef :: .undef :: .undef :: .undef :: .undef :: .undef :: .undef :: .undef :: .undef :: .undef :: .undef :: .undef :: .undef :: .undef :: .undef :: .undef :: .undef :: .undef :: .undef :: .undef :: .undef :: .undef :: .undef :: .undef :: .undef :: .undef :: .undef :: .undef :: .undef :: .undef :: .undef :: .undef :: .undef :: .undef :: []), []⟩ (FinQ [.tmp 2] 0 (.ret (.bool R) []))) : ∀ (l2 l1 : List ZoneP), l1 ++ l2 = t.zones →
    Run mach0 (.c billingref25_Whole_l1b :: .lp billingref25_Whole_l1 :: .endB 0 :: .c billingref25_Whole_k4 :: []) .norm
      ⟨(.undef :: .rptr (tariffW z t).cells :: .undef :: .int .i64 l1.length :: .undef :: .undef :: .undef :: .undef :: .undef :: .undef :: .undef :: .undef :: .undef :: .undef :: .undef :: .undef :: .undef :: .undef :: .undef :: .undef :: .undef :: .undef :: .undef :: .undef :: .undef :: .undef :: .undef :: .undef :: .undef :: .undef :: .undef :: .undef :: .undef :: .undef :: .undef :: .undef :: .undef :: .undef :: .undef :: .undef :: .undef :: .undef :: .undef :: .undef :: .undef :: .undef :: .undef :: .undef :: .undef :: .undef :: .undef :: .undef :: .undef :: .undef :: .undef :: .undef :: .undef :: .undef :: .undef :: .undef :: .undef :: .undef :: .undef :: .undef :: .undef :: .undef :: .undef :: .undef :: .undef :: .undef :: .undef :: .undef :: .undef :: .undef :: .undef :: .undef :: []), []⟩ (FinQ [.tmp 2] 0 (.ret (.bool (l2.all zoneOkB && R)) []))
  | [], l1, he => by
    have q : ¬ ((l1.length : Int) < t.zones.length) := by rw [← he]; simp
    simp only [tariffW, V.cells] at hk ⊢
    unfold billingref25_Whole_l1b
    simp [go_sem, q, billingref25_Whole_k4]
    exact hk
  | a :: l2, l1, he => by
    have ih := rw_zones z t hB hP R hk l2 (l1 ++ [a]) (by rw [← he]; simp)
    have hn := hB.zones
    have len : t.zones.length = l1.length + (l2.length + 1) := by rw [← he]; simp
    have q : (l1.length : Int) < t.zones.length := by omega
    have q' : l1.length < t.zones.length := by omega
    have w : IntKind.wrap .i64 ((l1.length : Int) + 1) = l1.length + 1 := wrap_i64 (by omega)
    have hnth : nth (t.zones.map zoneV) l1.length = zoneV a := by rw [← he]; exact nth_mapA _ _ _ _
    have e1 := e_rzone a (by have := hB.pref a (by rw [← he]; simp); omega) (hP a (by rw [← he]; simp))
    simp only [List.length_append, List.length_cons, List.length_nil, Nat.zero_add, tariffW, V.cells] at ih ⊢
    rw [List.all_cons, Bool.and_assoc]
    unfold billingref25_Whole_l1b
    generalize zoneOkB a = ok at *
    simp only [zoneV] at hnth e1
    cases ok with
    | false => simp [go_sem, q, q', hnth, e1]
    | true =>
      rw [Bool.true_and]
      simp [go_sem, q, q', hnth, e1, w]
      simpa using ih
theorem rw_bands (z : Nat) (t : TariffP) (hB : TB t) (hP : TP t) (R : Bool)
    (hk : Run mach0 (.c billingref25_Whole_k3b :: []) .norm ⟨(.undef :: .rptr (tariffW z t).cells :: .undef :: .undef :: .undef :: .undef :: .undef :: .undef :: .undef :: .undef :: .undef :: .undef :: .undef :: .undef :: .undef :: .undef :: .undef :: .undef :: .undef :: .undef :: .undef :: .undef :: .undef :: .undef :: .undef :: .undef :: .undef :: .undef :: .undef :: .undef :: .undef :: .undef :: .undef :: .undef :: .undef :: .undef :: .undef :: .undef :: .undef :: .undef :: .undef :: .undef :: .undef :: .undef :: .undef :: .undef :: .undef :: .undef :: .undef :: .undef :: .undef :: .undef :: .undef :: .undef :: .undef :: .undef :: .undef :: .undef :: .undef :: .undef :: .undef :: .undef :: .undef :: .undef :: .undef :: .undef :: .undef :: .undef :: .undef :: .undef :: .undef :: .undef :: .undef :: .undef :: .undef :: .undef :: []), []⟩ (FinQ [.tmp 2] 0 (.ret (.bool R) []))) : ∀ (l2 l1 : List BandP), l1 ++ l2 = t.bands →
    Run mach0 (.c billingref25_Whole_l2b :: .lp billingref25_Whole_l2 :: .endB 2 :: .c billingref25_Whole_k3 :: []) .norm
      ⟨(.undef :: .rptr (tariffW z t).cells :: .undef :: .undef :: .int .i64 l1.length :: .undef :: .undef :: .undef :: .undef :: .undef :: .undef :: .undef :: .undef :: .undef :: .undef :: .undef :: .undef :: .undef :: .undef :: .undef :: .undef :: .undef :: .undef :: .undef :: .undef :: .undef :: .undef :: .undef :: .undef :: .undef :: .undef :: .undef :: .undef :: .undef :: .undef :: .undef :: .undef :: .undef :: .undef :: .undef :: .undef :: .undef :: .undef :: .undef :: .undef :: .undef :: .undef :: .undef :: .undef :: .undef :: .undef :: .undef :: .undef :: .undef :: .undef :: .undef :: .undef :: .undef :: .undef :: .undef :: .undef :: .undef :: .undef :: .undef :: .undef :: .undef :: .undef :: .undef :: .undef :: .undef :: .undef :: .undef :: .undef :: .undef :: .undef :: .undef :: []), []⟩ (FinQ [.tmp 2] 0 (.ret (.bool (l2.all bandOkB && R)) []))
  | [], l1, he => by
    have q : ¬ ((l1.length : Int) < t.bands.length) := by rw [← he]; simp
    simp only [tariffW, V.cells] at hk ⊢
    unfold billingref25_Whole_l2b
    simp [go_sem, q, billingref25_Whole_k3]
    exact hk
  | a :: l2, l1, he => by
    have ih := rw_bands z t hB hP R hk l2 (l1 ++ [a]) (by rw [← he]; simp)
    have hn := hB.bands
    have len : t.bands.length = l1.length + (l2.length + 1) := by rw [← he]; simp
    have q : (l1.length : Int) < t.bands.length := by omega
    have q' : l1.length < t.bands.length := by omega
    have w : IntKind.wrap .i64 ((l1.length : Int) + 1) = l1.length + 1 := wrap_i64 (by omega)
    have hnth : nth (t.bands.map (bandW z)) l1.length = (bandW z) a := by rw [← he]; exact nth_mapA _ _ _ _
    have e1 := e_rband z a (by have := hB.slots a (by rw [← he]; simp); omega)
    simp only [List.length_append, List.length_cons, List.length_nil, Nat.zero_add, tariffW, V.cells] at ih ⊢
    rw [List.all_cons, Bool.and_assoc]
    unfold billingref25_Whole_l2b
    generalize bandOkB a = ok at *
    simp only [bandW, slW] at hnth e1
    generalize (if a.slots = [] then z else 3) = zz at *
    cases ok with
    | false => simp [go_sem, q, q', hnth, e1]
    | true =>
      rw [Bool.true_and]
      simp [go_sem, q, q', hnth, e1, w]
      simpa using ih
theorem rw_rates (z : Nat) (t : TariffP) (hB : TB t) (hP : TP t) (R : Bool)
    (hk : Run mach0 (.c billingref25_Whole_k2b :: []) .norm ⟨(.undef :: .rptr (tariffW z t).cells :: .undef :: .undef :: .undef :: .undef :: .undef :: .undef :: .undef :: .undef :: .undef :: .undef :: .undef :: .undef :: .undef :: .undef :: .undef :: .undef :: .undef :: .undef :: .undef :: .undef :: .undef :: .undef :: .undef :: .undef :: .undef :: .undef :: .undef :: .undef :: .undef :: .undef :: .undef :: .undef :: .undef :: .undef :: .undef :: .undef :: .undef :: .undef :: .undef :: .undef :: .undef :: .undef :: .undef :: .undef :: .undef :: .undef :: .undef :: .undef :: .undef :: .undef :: .undef :: .undef :: .undef :: .undef :: .undef :: .undef :: .undef :: .undef :: .undef :: .undef :: .undef :: .undef :: .undef :: .undef :: .undef :: .undef :: .undef :: .undef :: .undef :: .undef :: .undef :: .undef :: .undef :: .undef :: []), []⟩ (FinQ [.tmp 2] 0 (.ret (.bool R) []))) : ∀ (l2 l1 : List RateP), l1 ++ l2 = t.rates →
    Run mach0 (.c billingref25_Whole_l3b :: .lp billingref25_Whole_l3 :: .endB 4 :: .c billingref25_Whole_k2 :: []) .norm
      ⟨(.undef :: .rptr (tariffW z t).cells :: .undef :: .undef :: .undef :: .int .i64 l1.length :: .undef :: .undef :: .undef :: .undef :: .undef :: .undef :: .undef :: .undef :: .undef :: .undef :: .undef :: .undef :: .undef :: .undef :: .undef :: .undef :: .undef :: .undef :: .undef :: .undef :: .undef :: .undef :: .undef :: .undef :: .undef :: .undef :: .undef :: .undef :: .undef :: .undef :: .undef :: .undef :: .undef :: .undef :: .undef :: .undef :: .undef :: .undef :: .undef :: .undef :: .undef :: .undef :: .undef :: .undef :: .undef :: .undef :: .undef :: .undef :: .undef :: .undef :: .undef :: .undef :: .undef :: .undef :: .undef :: .undef :: .undef :: .undef :: .undef :: .undef :: .undef :: .undef :: .undef :: .undef :: .undef :: .undef :: .undef :: .undef :: .undef :: .undef :: []), []⟩ (FinQ [.tmp 2] 0 (.ret (.bool (l2.all rateOkB && R)) []))
  | [], l1, he => by
    have q : ¬ ((l1.length : Int) < t.rates.length) := by rw [← he]; simp
    simp only [tariffW, V.cells] at hk ⊢
    unfold billingref25_Whole_l3b
    simp [go_sem, q, billingref25_Whole_k2]
    exact hk
  | a :: l2, l1, he => by
    have ih := rw_rates z t hB hP R hk l2 (l1 ++ [a]) (by rw [← he]; simp)
    have hn := hB.rates
    have len : t.rates.length = l1.length + (l2.length + 1) := by rw [← he]; simp
    have q : (l1.length : Int) < t.rates.length := by omega
    have q' : l1.length < t.rates.length := by omega
    have w : IntKind.wrap .i64 ((l1.length : Int) + 1) = l1.length + 1 := wrap_i64 (by omega)
    have hnth : nth (t.rates.map rateV) l1.length = rateV a := by rw [← he]; exact nth_mapA _ _ _ _
    have e1 := e_rrate a (by have := hB.steps a (by rw [← he]; simp); omega)
    simp only [List.length_append, List.length_cons, List.length_nil, Nat.zero_add, tariffW, V.cells] at ih ⊢
    rw [List.all_cons, Bool.and_assoc]
    unfold billingref25_Whole_l3b
    generalize rateOkB a = ok at *
    simp only [rateV] at hnth e1
    cases ok with
    | false => simp [go_sem, q, q', hnth, e1]
    | true =>
      rw [Bool.true_and]
      simp [go_sem, q, q', hnth, e1, w]
      simpa using ih
theorem rw_discs (z : Nat) (t : TariffP) (hB : TB t) (hP : TP t) (R : Bool)
    (hk : Run mach0 (.c billingref25_Whole_k1b :: []) .norm ⟨(.undef :: .rptr (tariffW z t).cells :: .undef :: .undef :: .undef :: .undef :: .undef :: .undef :: .undef :: .undef :: .undef :: .undef :: .undef :: .undef :: .undef :: .undef :: .undef :: .undef :: .undef :: .undef :: .undef :: .undef :: .undef :: .undef :: .undef :: .undef :: .undef :: .undef :: .undef :: .undef :: .undef :: .undef :: .undef :: .undef :: .undef :: .undef :: .undef :: .undef :: .undef :: .undef :: .undef :: .undef :: .undef :: .undef :: .undef :: .undef :: .undef :: .undef :: .undef :: .undef :: .undef :: .undef :: .undef :: .undef :: .undef :: .undef :: .undef :: .undef :: .undef :: .undef :: .undef :: .undef :: .undef :: .undef :: .undef :: .undef :: .undef :: .undef :: .undef :: .undef :: .undef :: .undef :: .undef :: .undef :: .undef :: .undef :: []), []⟩ (FinQ [.tmp 2] 0 (.ret (.bool R) []))) : ∀ (l2 l1 : List DiscP), l1 ++ l2 = t.discs →
    Run mach0 (.c billingref25_Whole_l4b :: .lp billingref25_Whole_l4 :: .endB 6 :: .c billingref25_Whole_k1 :: []) .norm
      ⟨(.undef :: .rptr (tariffW z t).cells :: .undef :: .undef :: .undef :: .undef :: .int .i64 l1.length :: .undef :: .undef :: .undef :: .undef :: .undef :: .undef :: .undef :: .undef :: .undef :: .undef :: .undef :: .undef :: .undef :: .undef :: .undef :: .undef :: .undef :: .undef :: .undef :: .undef :: .undef :: .undef :: .undef :: .undef :: .undef :: .undef :: .undef :: .undef :: .undef :: .undef :: .undef :: .undef :: .undef :: .undef :: .undef :: .undef :: .undef :: .undef :: .undef :: .undef :: .undef :: .undef :: .undef :: .undef :: .undef :: .undef :: .undef :: .undef :: .undef :: .undef :: .undef :: .undef :: .undef :: .undef :: .undef :: .undef :: .undef :: .undef :: .undef :: .undef :: .undef :: .undef :: .undef :: .undef :: .undef :: .undef :: .undef :: .undef :: .undef :: []), []⟩ (FinQ [.tmp 2] 0 (.ret (.bool (l2.all discOkB && R)) []))
  | [], l1, he => by
    have q : ¬ ((l1.length : Int) < t.discs.length) := by rw [← he]; simp
    simp only [tariffW, V.cells] at hk ⊢
    unfold billingref25_Whole_l4b
    simp [go_sem, q, billingref25_Whole_k1]
    exact hk
  | a :: l2, l1, he => by
    have ih := rw_discs z t hB hP R hk l2 (l1 ++ [a]) (by rw [← he]; simp)
    have hn := hB.discs
    have len : t.discs.length = l1.length + (l2.length + 1) := by rw [← he]; simp
    have q : (l1.length : Int) < t.discs.length := by omega
    have q' : l1.length < t.discs.length := by omega
    have w : IntKind.wrap .i64 ((l1.length : Int) + 1) = l1.length + 1 := wrap_i64 (by omega)
    have hnth : nth (t.discs.map discV) l1.length = discV a := by rw [← he]; exact nth_mapA _ _ _ _
    have e1 := e_rdiscount a (hB.cond a (by rw [← he]; simp))
    simp only [List.length_append, List.length_cons, List.length_nil, Nat.zero_add, tariffW, V.cells] at ih ⊢
    rw [List.all_cons, Bool.and_assoc]
    unfold billingref25_Whole_l4b
    generalize discOkB a = ok at *
    obtain ⟨name, points, cond⟩ := a
    obtain ⟨op, num, text, args⟩ := cond
    simp only [discV, exprC, List.cons_append, List.nil_append] at hnth e1
    cases ok with
    | false => simp [go_sem, q, q', hnth, e1]
    | true =>
      rw [Bool.true_and]
      simp [go_sem, q, q', hnth, e1, w]
      simpa using ih
theorem e_Whole (z : Nat) (t : TariffP) (hB : TB t) (hP : TP t) : acall mach0 n_billingref25_Whole [tariffW z t] [] = some (.ret (.bool (wholeB t)) []) := by
 have en := e_rName t.name
 have h1 : Run mach0 (.c billingref25_Whole_k1b :: []) .norm ⟨(.undef :: .rptr (tariffW z t).cells :: .undef :: .undef :: .undef :: .undef :: .undef :: .undef :: .undef :: .undef :: .undef :: .undef :: .undef :: .undef :: .undef :: .undef :: .undef :: .undef :: .undef :: .undef :: .undef :: .undef :: .undef :: .undef :: .undef :: .undef :: .undef :: .undef :: .undef :: .undef :: .undef :: .undef :: .undef :: .undef :: .undef :: .undef :: .undef :: .undef :: .undef :: .undef :: .undef :: .undef :: .undef :: .undef :: .undef :: .undef :: .undef :: .undef :: .undef :: .undef :: .undef :: .undef :: .undef :: .undef :: .undef :: .undef :: .undef :: .undef :: .undef :: .undef :: .undef :: .undef :: .undef :: .undef :: .undef :: .undef :: .undef :: .undef :: .undef :: .undef :: .undef :: .undef :: .undef :: .undef :: .undef :: .undef :: []), []⟩ (FinQ [.tmp 2] 0 (.ret (.bool (nameOk t.name && decide (0 ≤ t.start ∧ t.start < 12622780800))) [])) := by
  simp only [tariffW, V.cells]
  unfold billingref25_Whole_k1b
  cases h : nameOk t.name with
  | false => rw [h] at en; simp [go_sem, en]
  | true =>
   rw [h] at en
   by_cases s1 : 0 ≤ t.start
   ·by_cases s2 : t.start < 12622780800
    ·simp [go_sem, en, s1, s2]
    ·simp [go_sem, en, s1, s2]
   ·simp [go_sem, en, s1]
 have h2 := rw_discs z t hB hP _ h1 t.discs [] rfl
 have h3 := rw_rates z t hB hP _ (by
  simp only [tariffW, V.cells] at h2 ⊢
  unfold billingref25_Whole_k2b
  simp [go_sem]
  simpa using h2) t.rates [] rfl
 have h4 := rw_bands z t hB hP _ (by
  simp only [tariffW, V.cells] at h3 ⊢
  unfold billingref25_Whole_k3b
  simp [go_sem]
  simpa using h3) t.bands [] rfl
 have h5 := rw_zones z t hB hP _ (by
  simp only [tariffW, V.cells] at h4 ⊢
  unfold billingref25_Whole_k4b
  simp [go_sem]
  simpa using h4) t.zones [] rfl
 have e : wholeB t = (t.zones.all zoneOkB && (t.bands.all bandOkB && (t.rates.all rateOkB && (t.discs.all discOkB && (nameOk t.name && decide (0 ≤ t.start ∧ t.start < 12622780800)))))) := by
  unfold wholeB
  generalize t.zones.all zoneOkB = a
  generalize t.bands.all bandOkB = b
  generalize t.rates.all rateOkB = c
  generalize t.discs.all discOkB = d
  generalize nameOk t.name = f
  generalize decide (0 ≤ t.start ∧ t.start < 12622780800) = g
  cases a <;> cases b <;> cases c <;> cases d <;> cases f <;> cases g <;> rfl
 rw [e]
 refine acall_fn rfl (af := a_billingref25_Whole) rfl rfl ?_
 simp only [tariffW, V.cells] at h5 ⊢
 simp [List.replicate, go_sem]
 simpa using h5
end Go.Am
