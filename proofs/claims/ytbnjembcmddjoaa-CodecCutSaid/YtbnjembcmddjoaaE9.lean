/- Appending lists of numbers and records. -/
import Derived.Test.YtbnjembcmddjoaaE8
set_option linter.unusedSimpArgs false
namespace Go.Am
open Go Go.Pu

theorem e_addP (b p : List UInt8) (n : Int) (hp : p = b ++ encN (zz n)) (hn : i64 n) (hb : b.length ≤ 100000000) : acall mach n_codec_add [.sl true 1 (B b), .int .i64 n] [] = some (.ret (.sl true 1 (B p)) []) := by
  rw [hp]; exact e_add b n [] hn.1 hn.2 hb
theorem addP_len {b p : List UInt8} {n : Int} (hp : p = b ++ encN (zz n)) (hn : i64 n) : p.length ≤ b.length + 10 := by
  have := encN_len10 (zz_lt hn.1 hn.2)
  rw [hp, List.length_append]
  omega
theorem tru_fits (b : Bool) : i64 (tru b) := by unfold tru i64; cases b <;> simp

theorem l_putnums (l : List Int) (h h' : Heap) (n0 : Nat) (k : List It) (r : V) (hl : l.length ≤ 1000000) (hw : ∀ n ∈ l, i64 n)
    (hk : ∀ b : List UInt8, r = .sl true 1 (B b) → Run mach k (.exit 0) ⟨(.undef :: .sl false 1 (l.map iv) :: .undef :: .undef :: .undef :: .sl true 1 (B b) :: .undef :: .undef :: .undef :: .undef :: .undef :: .undef :: .undef :: .undef :: .undef :: .undef :: .undef :: .sl false 1 (l.map iv) :: .int .i64 l.length :: .int .i64 l.length :: .bool false :: .undef :: .undef :: .undef :: .undef :: .undef :: .undef :: .undef :: []), h⟩ (FinQ [.tmp 4] n0 (.ret r h'))) :
    ∀ (n i : Nat) (b : List UInt8), i + n = l.length → b.length ≤ 20000000 + 10 * i → r = .sl true 1 (B (b ++ encL (l.drop i))) →
    Run mach (.c codec_PutNumbers_l1b :: .lp codec_PutNumbers_l1 :: k) .norm ⟨(.undef :: .sl false 1 (l.map iv) :: .undef :: .undef :: .undef :: .sl true 1 (B b) :: .undef :: .undef :: .undef :: .undef :: .undef :: .undef :: .undef :: .undef :: .undef :: .undef :: .undef :: .sl false 1 (l.map iv) :: .int .i64 l.length :: .int .i64 i :: .undef :: .undef :: .undef :: .undef :: .undef :: .undef :: .undef :: .undef :: []), h⟩ (FinQ [.tmp 4] n0 (.ret r h'))
  | 0, i, b, hi, hb, hr => by
    obtain rfl : i = l.length := by omega
    have e : l.drop l.length = [] := by simp
    rw [e] at hr
    have := hk b (by rw [hr]; simp [encL])
    unfold codec_PutNumbers_l1b
    simp [go_sem]
    exact this
  | n + 1, i, b, hi, hb, hr => by
    have hil : i < l.length := by omega
    rw [List.drop_eq_getElem_cons hil, encL] at hr
    have hw' := hw _ (List.getElem_mem hil)
    obtain ⟨p, hp⟩ : ∃ p, p = b ++ encN (zz l[i]) := ⟨_, rfl⟩
    have hlen := addP_len hp hw'
    have ea := e_addP b p l[i] hp hw' (by omega)
    have ih := l_putnums l h h' n0 k r hl hw hk n (i + 1) p (by omega) (by omega) (by rw [hr, hp]; simp)
    have ws := wrap_succ (show i < 4611686018427387904 by omega)
    unfold codec_PutNumbers_l1b
    simp [go_sem, hil, iv, ea, ws]
    exact ih

theorem e_PutNumbers (b : List UInt8) (l : List Int) (h : Heap) (hb : b.length ≤ 10000000) (hl : l.length ≤ 1000000) (hw : ∀ n ∈ l, i64 n) : acall mach n_codec_PutNumbers [.sl false 1 (B b), .sl false 1 (l.map iv)] h = some (.ret (.sl true 1 (B (b ++ (encN (2 * l.length) ++ encL l)))) h) := by
  refine acall_fn rfl (af := a_codec_PutNumbers) rfl rfl ?_
  have e : acall mach n_codec_grown [.sl false 1 (B b), .int .i64 (10 + 2 * (l.length : Int))] [] = _ := e_grown b (10 + 2 * l.length) [] (by omega)
  have w : IntKind.wrap .i64 (2 * (l.length : Int)) = 2 * (l.length : Int) := wrap_i64 (by omega)
  have w2 : IntKind.wrap .i64 (10 + 2 * (l.length : Int)) = 10 + 2 * (l.length : Int) := wrap_i64 (by omega)
  have ea := e_add b (l.length : Int) [] (by omega) (by omega) (by omega)
  rw [zz_nat] at ea
  have hl10 := encN_len10 (u := 2 * l.length) (by omega)
  simp [List.replicate, go_sem, w, w2, e, ea]
  refine l_putnums l h h h.length _ _ hl hw (fun c hr => ?_) l.length 0 (b ++ encN (2 * l.length)) (Nat.zero_add _) (by simp; omega) (by simp)
  rw [hr]
  simp [go_sem]

def rv (r : Rec) : V := .agg [.int .i64 r.src, .int .i64 r.ser, .int .i64 r.kind, .str r.a, .str r.b, .int .i64 r.start, .int .i64 r.units, .int .i64 r.call, .int .i64 r.part, .bool r.last, .int .i64 r.trunk, .bool r.inb]

theorem e_truth' (b : Bool) (h : Heap) : acall mach n_codec_truth [.bool b] h = some (.ret (.int .i64 (tru b)) h) := e_truth b h
theorem e_rtruth' (b : Bool) (h : Heap) : acall mach n_billingref07_truth [.bool b] h = some (.ret (.int .i64 (tru b)) h) := e_rtruth b h

set_option maxRecDepth 8000 in
theorem e_PutRecord (b : List UInt8) (r : Rec) (h : Heap) (hb : b.length ≤ 10000000) (ha : r.a.length ≤ 1000000) (hbb : r.b.length ≤ 1000000) (hf : r.fits) : acall mach n_codec_PutRecord [.sl false 1 (B b), rv r] h = some (.ret (.sl true 1 (B (b ++ putR r))) h) := by
  refine acall_fn rfl (af := a_codec_PutRecord) rfl rfl ?_
  obtain ⟨f1, f2, f3, f4, f5, f6, f7, f8⟩ := hf
  have e : acall mach n_codec_grown [.sl false 1 (B b), .int .i64 (60 + (r.a.length : Int) + (r.b.length : Int))] [] = _ := e_grown b (60 + r.a.length + r.b.length) [] (by omega)
  have w : IntKind.wrap .i64 (60 + (r.a.length : Int)) = 60 + (r.a.length : Int) := wrap_i64 (by omega)
  have w2 : IntKind.wrap .i64 (60 + (r.a.length : Int) + (r.b.length : Int)) = 60 + (r.a.length : Int) + (r.b.length : Int) := wrap_i64 (by omega)
  obtain ⟨p1, q1⟩ : ∃ p, p = b ++ encN (zz r.src) := ⟨_, rfl⟩
  obtain ⟨p2, q2⟩ : ∃ p, p = p1 ++ encN (zz r.ser) := ⟨_, rfl⟩
  obtain ⟨p3, q3⟩ : ∃ p, p = p2 ++ encN (zz r.kind) := ⟨_, rfl⟩
  obtain ⟨p4, q4⟩ : ∃ p, p = p3 ++ encN (zz (r.a.length : Int)) := ⟨_, rfl⟩
  obtain ⟨p5, q5⟩ : ∃ p, p = p4 ++ r.a := ⟨_, rfl⟩
  obtain ⟨p6, q6⟩ : ∃ p, p = p5 ++ encN (zz (r.b.length : Int)) := ⟨_, rfl⟩
  obtain ⟨p7, q7⟩ : ∃ p, p = p6 ++ r.b := ⟨_, rfl⟩
  obtain ⟨p8, q8⟩ : ∃ p, p = p7 ++ encN (zz r.start) := ⟨_, rfl⟩
  obtain ⟨p9, q9⟩ : ∃ p, p = p8 ++ encN (zz r.units) := ⟨_, rfl⟩
  obtain ⟨p10, q10⟩ : ∃ p, p = p9 ++ encN (zz r.call) := ⟨_, rfl⟩
  obtain ⟨p11, q11⟩ : ∃ p, p = p10 ++ encN (zz r.part) := ⟨_, rfl⟩
  obtain ⟨p12, q12⟩ : ∃ p, p = p11 ++ encN (zz (tru r.last)) := ⟨_, rfl⟩
  obtain ⟨p13, q13⟩ : ∃ p, p = p12 ++ encN (zz r.trunk) := ⟨_, rfl⟩
  obtain ⟨p14, q14⟩ : ∃ p, p = p13 ++ encN (zz (tru r.inb)) := ⟨_, rfl⟩
  have g4 : i64 (r.a.length : Int) := ⟨by omega, by omega⟩
  have g6 : i64 (r.b.length : Int) := ⟨by omega, by omega⟩
  have n1 := addP_len q1 f1
  have n2 := addP_len q2 f2
  have n3 := addP_len q3 f3
  have n4 := addP_len q4 g4
  have n5 : p5.length = p4.length + r.a.length := by rw [q5]; simp
  have n6 := addP_len q6 g6
  have n7 : p7.length = p6.length + r.b.length := by rw [q7]; simp
  have n8 := addP_len q8 f4
  have n9 := addP_len q9 f5
  have n10 := addP_len q10 f6
  have n11 := addP_len q11 f7
  have n12 := addP_len q12 (tru_fits r.last)
  have n13 := addP_len q13 f8
  have hfin : b ++ putR r = p14 := by
    rw [q14, q13, q12, q11, q10, q9, q8, q7, q6, q5, q4, q3, q2, q1]
    simp [putR, encT, zz_nat]
  have r5 : B p4 ++ B r.a = B p5 := by rw [q5, B_append]
  have r7 : B p6 ++ B r.b = B p7 := by rw [q7, B_append]
  have r5' : p4 ++ r.a = p5 := q5.symm
  have r7' : p6 ++ r.b = p7 := q7.symm
  rw [hfin]
  have b4 : p4.length + r.a.length ≤ 140737488355328 := by omega
  have b6 : p6.length + r.b.length ≤ 140737488355328 := by omega
  simp [List.replicate, go_sem, rv, w, w2, e, e_addP _ _ _ q1 f1 (by omega), e_addP _ _ _ q2 f2 (by omega), e_addP _ _ _ q3 f3 (by omega), e_addP _ _ _ q4 g4 (by omega), e_addP _ _ _ q6 g6 (by omega), e_addP _ _ _ q8 f4 (by omega), e_addP _ _ _ q9 f5 (by omega), e_addP _ _ _ q10 f6 (by omega), e_addP _ _ _ q11 f7 (by omega), e_addP _ _ _ q12 (tru_fits _) (by omega), e_addP _ _ _ q13 f8 (by omega), e_addP _ _ _ q14 (tru_fits _) (by omega), e_truth', r5', r7', b4, b6]
end Go.Am
