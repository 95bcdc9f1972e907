/- The law FrameChanged on the machine. -/
import Derived.Test.YtbnjembcmddjoaaE28
set_option linter.unusedSimpArgs false
namespace Go.Am
open Go Go.Pu

theorem frame_small {p : List UInt8} (hp : p.length ≤ 60) : frameOf p = UInt8.ofNat (2 * p.length) :: (be4 (sum p) ++ p) := by
  unfold frameOf
  rw [encN_small (by omega)]
  rfl
theorem be4_len (n : Nat) : (be4 n).length = 4 := rfl

theorem unfr_small {p xs : List UInt8} (hp : p.length ≤ 60) (hx : xs.length = 4 + p.length) (hs : sum ((xs.drop 4).take p.length) ≠ num4 xs) : unfr (UInt8.ofNat (2 * p.length) :: xs) = .bad 4 := by
  have e : UInt8.ofNat (2 * p.length) :: xs = encN (2 * p.length) ++ xs := by rw [encN_small (by omega)]; rfl
  have e1 : 2 * p.length / 2 = p.length := by omega
  rw [e]
  unfold unfr
  rw [dec_encN (by omega)]
  simp only [e1]
  rw [if_neg (by omega), if_neg (by omega), if_neg (by omega), if_pos hs]

theorem unfr_changed {p : List UInt8} (hp : p.length ≤ 60) {j : Nat} (hj : j < 4 + p.length) {z : UInt8} (hz : ∀ h : j + 1 < (frameOf p).length, (frameOf p)[j + 1] ≠ z) : unfr ((frameOf p).set (j + 1) z) = .bad 4 := by
  have hl : (frameOf p).length = 5 + p.length := by rw [frame_small hp]; simp [be4_len]; omega
  have hz := hz (by omega)
  simp only [frame_small hp] at hz ⊢
  rw [List.getElem_cons_succ] at hz
  rw [List.set_cons_succ]
  refine unfr_small hp (by simp [be4_len]) ?_
  by_cases h4 : j < 4
  · rw [List.set_append_left _ _ (by rw [be4_len]; exact h4)]
    have hd : (((be4 (sum p)).set j z ++ p).drop 4).take p.length = p := by
      rw [List.drop_left' (by rw [List.length_set, be4_len])]
      simp
    rw [hd]
    intro he
    rw [List.getElem_append_left (by rw [be4_len]; exact h4)] at hz
    apply hz
    have hb : be4 (sum p) = (be4 (sum p)).set j z := by
      have hlen : ((be4 (sum p)).set j z).length = 4 := by rw [List.length_set, be4_len]
      generalize hY : (be4 (sum p)).set j z = Y at *
      rw [he]
      match Y, hlen with
      | [a, b, c, d], _ => exact be4_num4
    have : (be4 (sum p))[j]'(by rw [be4_len]; exact h4) = ((be4 (sum p)).set j z)[j]'(by rw [List.length_set, be4_len]; exact h4) := by
      simp only [← hb]
    rw [this, List.getElem_set_self]
  · rw [List.set_append_right _ _ (by rw [be4_len]; omega), num4_be4 (sum_lt p), List.drop_left' (be4_len _)]
    have ht : (p.set (j - (be4 (sum p)).length) z).take p.length = p.set (j - (be4 (sum p)).length) z := by
      rw [List.take_of_length_le]; simp
    rw [ht]
    rw [List.getElem_append_right (by rw [be4_len]; omega)] at hz
    exact sum_set (by rw [be4_len]; omega) hz

theorem xor_ne {x y : Nat} (hy : y ≠ 0) : x ^^^ y ≠ x := by
  intro h
  apply hy
  have : x ^^^ y = x ^^^ 0 := by rw [h, Nat.xor_zero]
  exact xor_cancel_left this

theorem law_changed (p : List UInt8) (a c : Nat) (ha : a ≤ 255) (hc : c ≤ 255) : acall mach n_billinglaw08_FrameChanged [.sl false 1 (B p), .int .u8 a, .int .u8 c] [] = some (.ret (.bool true) []) := by
  refine acall_fn rfl (af := a_billinglaw08_FrameChanged) rfl rfl ?_
  by_cases hp : p.length ≤ 60
  rotate_left
  · have q : (60 : Int) < p.length := by omega
    simp [List.replicate, go_sem, q, e_alive08]
  have q : ¬ (60 : Int) < p.length := by omega
  have hl : (frameOf p).length = 5 + p.length := by rw [frame_small hp]; simp [be4_len]; omega
  have e1 := e_Wrap p [] (by omega)
  have q5 : p.length ≤ 1048576 := by omega
  simp only [wrapV, if_pos q5] at e1
  obtain ⟨j, hj⟩ : ∃ j, j = a % (4 + p.length) := ⟨_, rfl⟩
  have hj1 : j < 4 + p.length := by rw [hj]; exact Nat.mod_lt _ (by omega)
  have hjl : j + 1 < (frameOf p).length := by omega
  obtain ⟨y, hy⟩ : ∃ y, y = 1 + c % 255 := ⟨_, rfl⟩
  have hy1 : y < 256 := by omega
  have hx := (frameOf p)[j + 1].toNat_lt
  have hxy : ((frameOf p)[j + 1].toNat ^^^ y) < 256 := Nat.xor_lt_two_pow (n := 8) hx hy1
  obtain ⟨z, hz⟩ : ∃ z : UInt8, z = UInt8.ofNat ((frameOf p)[j + 1].toNat ^^^ y) := ⟨_, rfl⟩
  have hzn : z.toNat = (frameOf p)[j + 1].toNat ^^^ y := by rw [hz, ofNat_mod, Nat.mod_eq_of_lt hxy]
  have hne : (frameOf p)[j + 1] ≠ z := by
    intro he
    have := xor_ne (x := (frameOf p)[j + 1].toNat) (y := y) (by omega)
    rw [← hzn, ← he] at this
    exact this rfl
  have hu := unfr_changed hp hj1 (z := z) (fun _ => hne)
  have hlen : ((frameOf p).set (j + 1) z).length = 5 + p.length := by rw [List.length_set, hl]
  have e2 := e_Unwrap ((frameOf p).set (j + 1) z) [] (by omega)
  have e3 := e_All ((frameOf p).set (j + 1) z) [] (by omega)
  rw [hu] at e2
  have ha0 : allF (((frameOf p).set (j + 1) z).length + 1) ((frameOf p).set (j + 1) z) = ([], (frameOf p).set (j + 1) z) := by simp only [allF, hu]
  rw [ha0] at e3
  simp only [allV, frV, List.append_nil, Nat.sub_self, bss_nil] at e2 e3
  have g := B_nth (frameOf p) (j + 1) hjl
  have hb := bits_xor8 (frameOf p)[j + 1].toNat y hx hy1
  rw [← hzn] at hb
  have up := upd_B (frameOf p) (j + 1) z
  generalize (frameOf p)[j + 1].toNat = X at *
  generalize hF : frameOf p = F at *
  have w1 : IntKind.wrap .i64 (5 + (p.length : Int)) = ((5 + p.length : Nat) : Int) := by rw [wrap_i64 (by omega)]; omega
  have w2 : IntKind.wrap .i64 (((5 + p.length : Nat) : Int) - 1) = ((4 + p.length : Nat) : Int) := by rw [wrap_i64 (by omega)]; omega
  have w3 : IntKind.wrap .i64 (a : Int) = a := wrap_i64 (by omega)
  have t1 : (a : Int).tmod ((4 + p.length : Nat) : Int) = (j : Int) := by rw [hj]; rfl
  have w4 : IntKind.wrap .i64 (1 + (j : Int)) = ((j + 1 : Nat) : Int) := by rw [wrap_i64 (by omega)]; omega
  have t2 : (c : Int).tmod 255 = ((c % 255 : Nat) : Int) := rfl
  have w5 : IntKind.wrap .u8 ((c % 255 : Nat) : Int) = ((c % 255 : Nat) : Int) := by rw [wrap_u8]; congr 1; omega
  have w6 : IntKind.wrap .u8 (1 + ((c % 255 : Nat) : Int)) = (y : Int) := by
    have : 1 + ((c % 255 : Nat) : Int) = (y : Int) := by omega
    rw [this, wrap_u8, Nat.mod_eq_of_lt hy1]
  have w7 : IntKind.wrap .i64 (j : Int) = j := wrap_i64 (by omega)
  have w8 : IntKind.wrap .i64 0 = 0 := by decide
  have nz : ¬ (4 + p.length = 0) := by omega
  generalize hL4 : 4 + p.length = L4 at *
  generalize hL5 : 5 + p.length = L5 at *
  generalize c % 255 = c5 at *
  generalize hJ : j + 1 = J at *
  have nz' : ¬ ((L4 : Int) = 0) := by omega
  simp [List.replicate, go_sem, q, e1, hl, w1, w2, w3, t1, w4, t2, w5, w6, w7, w8, nz, nz', hjl, g, hb, up, e2, e3, e_alive08]
  omega

theorem arg_u8 {u : V} (h : u = mkEl Go.Proofs.Try.prog 5 u.cells ∧ ∃ f, TyC Go.Proofs.Try.prog f 5 u.cells) : ∃ n : Nat, u = .int .u8 n ∧ n ≤ 255 := by
  obtain ⟨n, rfl, hn⟩ := arg_int u5 h
  have hb : 0 ≤ n ∧ n ≤ 255 := by
    simp [Lit.wf, IntKind.min, IntKind.max, IntKind.signed, IntKind.bits] at hn
    omega
  obtain ⟨c, rfl⟩ := Int.eq_ofNat_of_zero_le hb.1
  exact ⟨c, rfl, by omega⟩
theorem all_frameChanged (us : List V) (h : TyArgs Go.Proofs.Try.prog Go.Proofs.Try.f10.params.toList us) : acall mach 10 us [] = some (.ret (.bool true) []) := by
  obtain ⟨u, v, w, rfl, h1, h2, h3⟩ := TyArgs.three h
  obtain ⟨b, rfl, _⟩ := arg_bytes u22 u5 c5 h1
  obtain ⟨a, rfl, ha⟩ := arg_u8 h2
  obtain ⟨c, rfl, hc⟩ := arg_u8 h3
  exact law_changed b a c ha hc
end Go.Am
