/- Plain laws of records' code: decoding field by field, with no program in sight. -/
import Derived.Test.YtbnjembcmddjoaaPc
set_option linter.unusedSimpArgs false
namespace Go.Pu

/-- What remains, or the first error. -/
inductive Cur where
  | ok (c : List UInt8)
  | bad (e : Int)

def cNum : Cur → Int × Cur
  | .ok c => match dec 0 0 c with
    | .ok u r => (unzz u, .ok r)
    | .bad e => (0, .bad e)
  | .bad e => (0, .bad e)
def cTxt : Cur → List UInt8 × Cur
  | .ok c => match txtD c with
    | .ok s r => (s, .ok r)
    | .bad e => ([], .bad e)
  | .bad e => ([], .bad e)
def chkFlag (n : Int) : Cur → Cur
  | .ok c => if n = 0 ∨ n = 1 then .ok c else .bad 1
  | .bad e => .bad e
def cFlag (x : Cur) : Bool × Cur := (decide ((cNum x).1 = 1), chkFlag (cNum x).1 (cNum x).2)

def recD (b : List UInt8) : Rec × Cur :=
  let x0 : Cur := .ok b
  let x1 := cNum x0
  let x2 := cNum x1.2
  let x3 := cNum x2.2
  let x4 := cTxt x3.2
  let x5 := cTxt x4.2
  let x6 := cNum x5.2
  let x7 := cNum x6.2
  let x8 := cNum x7.2
  let x9 := cNum x8.2
  let x10 := cFlag x9.2
  let x11 := cNum x10.2
  let x12 := cFlag x11.2
  (⟨x1.1, x2.1, x3.1, x4.1, x5.1, x6.1, x7.1, x8.1, x9.1, x10.1, x11.1, x12.1⟩, x12.2)

theorem cNum_enc {n : Int} (h : i64 n) (t : List UInt8) : cNum (.ok (encN (zz n) ++ t)) = (n, .ok t) := by
  simp only [cNum, dec_encN (zz_lt h.1 h.2) t, unzz_zz]
theorem txtD_enc {s : List UInt8} (h : s.length ≤ 1048576) (t : List UInt8) : txtD (encT s ++ t) = .ok s t := by
  unfold txtD encT
  rw [List.append_assoc, dec_encN (by omega), lenD_in (by omega) (by omega)]
  have e : 2 * s.length / 2 = s.length := by omega
  simp only [e]
  rw [if_neg (by simp), List.take_left, List.drop_left]
theorem cTxt_enc {s : List UInt8} (h : s.length ≤ 1048576) (t : List UInt8) : cTxt (.ok (encT s ++ t)) = (s, .ok t) := by
  simp only [cTxt, txtD_enc h t]
theorem tru_i64 (b : Bool) : i64 (tru b) := by unfold tru i64; cases b <;> simp
theorem cFlag_enc (b : Bool) (t : List UInt8) : cFlag (.ok (encN (zz (tru b)) ++ t)) = (b, .ok t) := by
  unfold cFlag
  rw [cNum_enc (tru_i64 b)]
  cases b <;> simp [tru, chkFlag]

theorem recD_put {r : Rec} (hf : r.fits) (ha : r.a.length ≤ 1048576) (hb : r.b.length ≤ 1048576) (t : List UInt8) : recD (putR r ++ t) = (r, .ok t) := by
  obtain ⟨f1, f2, f3, f4, f5, f6, f7, f8⟩ := hf
  unfold recD putR
  simp only [List.append_assoc, cNum_enc f1, cNum_enc f2, cNum_enc f3, cTxt_enc ha, cTxt_enc hb, cNum_enc f4, cNum_enc f5, cNum_enc f6, cNum_enc f7, cFlag_enc, cNum_enc f8]

theorem cNum_ok {x : Cur} {t : List UInt8} (h : (cNum x).2 = .ok t) : x = .ok (encN (zz (cNum x).1) ++ t) := by
  cases x with
  | bad e => simp [cNum] at h
  | ok c =>
    cases hd : dec 0 0 c with
    | bad e => simp only [cNum, hd] at h; cases h
    | ok u r =>
      simp only [cNum, hd, Cur.ok.injEq] at h ⊢
      subst h
      rw [zz_unzz]
      exact (encN_dec hd).2
theorem txtD_ok {c s t : List UInt8} (h : txtD c = .ok s t) : c = encT s ++ t ∧ s.length ≤ 1048576 := by
  unfold txtD at h
  cases hd : lenD (dec 0 0 c) with
  | bad e => rw [hd] at h; cases h
  | ok u r =>
    rw [hd] at h
    simp only at h
    split at h
    · cases h
    · rename_i hl
      simp only [Tx.ok.injEq] at h
      obtain ⟨h1, h2⟩ := h
      obtain ⟨h3, h4, h5, _⟩ := lenD_ok hd
      have hc := (encN_dec h3).2
      have hlen : s.length = u / 2 := by rw [← h1]; simp; omega
      refine ⟨?_, by omega⟩
      unfold encT
      have e : 2 * s.length = u := by omega
      rw [e, hc, List.append_assoc, ← h1, ← h2, List.take_append_drop]
theorem cTxt_ok {x : Cur} {t : List UInt8} (h : (cTxt x).2 = .ok t) : x = .ok (encT (cTxt x).1 ++ t) := by
  cases x with
  | bad e => simp [cTxt] at h
  | ok c =>
    cases hd : txtD c with
    | bad e => simp only [cTxt, hd] at h; cases h
    | ok s r =>
      simp only [cTxt, hd, Cur.ok.injEq] at h ⊢
      subst h
      exact (txtD_ok hd).1
theorem cFlag_ok {x : Cur} {t : List UInt8} (h : (cFlag x).2 = .ok t) : x = .ok (encN (zz (tru (cFlag x).1)) ++ t) := by
  unfold cFlag at h ⊢
  simp only at h ⊢
  cases hc : (cNum x).2 with
  | bad e => rw [hc] at h; simp [chkFlag] at h
  | ok c =>
    rw [hc] at h
    simp only [chkFlag] at h
    split at h
    · rename_i hn
      simp only [Cur.ok.injEq] at h
      subst h
      have := cNum_ok hc
      have e : tru (decide ((cNum x).1 = 1)) = (cNum x).1 := by
        rcases hn with hn | hn <;> rw [hn] <;> simp [tru]
      rw [e]
      exact this
    · cases h

theorem recD_ok {b t : List UInt8} (h : (recD b).2 = .ok t) : b = putR (recD b).1 ++ t := by
  unfold recD at h ⊢
  simp only at h ⊢
  have h12 := cFlag_ok h
  have h11 := cNum_ok h12
  have h10 := cFlag_ok h11
  have h9 := cNum_ok h10
  have h8 := cNum_ok h9
  have h7 := cNum_ok h8
  have h6 := cNum_ok h7
  have h5 := cTxt_ok h6
  have h4 := cTxt_ok h5
  have h3 := cNum_ok h4
  have h2 := cNum_ok h3
  have h1 := cNum_ok h2
  simp only [Cur.ok.injEq] at h1
  refine h1.trans ?_
  simp only [putR, List.append_assoc]

/-- A part that is not all. -/
def Part (c e : List UInt8) : Prop := c <+: e ∧ c.length < e.length

theorem Part.split {c e f : List UInt8} (h : Part c (e ++ f)) : Part c e ∨ ∃ c', c = e ++ c' ∧ Part c' f := by
  obtain ⟨h1, h2⟩ := h
  by_cases hl : c.length < e.length
  · exact .inl ⟨List.prefix_of_prefix_length_le h1 (List.prefix_append _ _) (by omega), hl⟩
  · right
    have : e <+: c := List.prefix_of_prefix_length_le (List.prefix_append _ _) h1 (by omega)
    obtain ⟨c', rfl⟩ := this
    refine ⟨c', rfl, ?_, by simp at h2; omega⟩
    obtain ⟨t, ht⟩ := h1
    rw [List.append_assoc] at ht
    exact ⟨t, List.append_cancel_left ht⟩

def torn : Cur := .bad 2

theorem cNum_torn {n : Int} (h : i64 n) {c : List UInt8} (hp : Part c (encN (zz n))) : (cNum (.ok c)).2 = torn := by
  simp only [cNum, dec_cut (zz_lt h.1 h.2) hp.1 hp.2, torn]
theorem txtD_torn {s : List UInt8} (h : s.length ≤ 1048576) {c : List UInt8} (hp : Part c (encT s)) : txtD c = .bad 2 := by
  unfold txtD
  have hp' := hp.split
  clear hp
  rcases hp' with hp | ⟨c', rfl, hp⟩
  · rw [dec_cut (by omega) hp.1 hp.2]
    rfl
  · rw [dec_encN (by omega), lenD_in (by omega) (by omega)]
    have e : 2 * s.length / 2 = s.length := by omega
    have := hp.2
    simp only [e]
    rw [if_pos this]
theorem cTxt_torn {s : List UInt8} (h : s.length ≤ 1048576) {c : List UInt8} (hp : Part c (encT s)) : (cTxt (.ok c)).2 = torn := by
  simp only [cTxt, txtD_torn h hp, torn]
theorem cFlag_torn (b : Bool) {c : List UInt8} (hp : Part c (encN (zz (tru b)))) : (cFlag (.ok c)).2 = torn := by
  simp only [cFlag, cNum_torn (tru_i64 b) hp]
  rfl
theorem cNum_t : (cNum torn).2 = torn := rfl
theorem cTxt_t : (cTxt torn).2 = torn := rfl
theorem cFlag_t : (cFlag torn).2 = torn := rfl

theorem recD_torn {r : Rec} (hf : r.fits) (ha : r.a.length ≤ 1048576) (hb : r.b.length ≤ 1048576) {c : List UInt8} (hp : Part c (putR r)) : (recD c).2 = torn := by
  obtain ⟨f1, f2, f3, f4, f5, f6, f7, f8⟩ := hf
  unfold putR at hp
  unfold recD
  simp only
  have hp' := hp.split
  clear hp
  rcases hp' with hp | ⟨c, rfl, hp⟩
  · simp only [cNum_torn f1 hp, cNum_t, cTxt_t, cFlag_t]
  simp only [cNum_enc f1]
  have hp' := hp.split
  clear hp
  rcases hp' with hp | ⟨c, rfl, hp⟩
  · simp only [cNum_torn f2 hp, cNum_t, cTxt_t, cFlag_t]
  simp only [cNum_enc f2]
  have hp' := hp.split
  clear hp
  rcases hp' with hp | ⟨c, rfl, hp⟩
  · simp only [cNum_torn f3 hp, cNum_t, cTxt_t, cFlag_t]
  simp only [cNum_enc f3]
  have hp' := hp.split
  clear hp
  rcases hp' with hp | ⟨c, rfl, hp⟩
  · simp only [cTxt_torn ha hp, cNum_t, cTxt_t, cFlag_t]
  simp only [cTxt_enc ha]
  have hp' := hp.split
  clear hp
  rcases hp' with hp | ⟨c, rfl, hp⟩
  · simp only [cTxt_torn hb hp, cNum_t, cTxt_t, cFlag_t]
  simp only [cTxt_enc hb]
  have hp' := hp.split
  clear hp
  rcases hp' with hp | ⟨c, rfl, hp⟩
  · simp only [cNum_torn f4 hp, cNum_t, cTxt_t, cFlag_t]
  simp only [cNum_enc f4]
  have hp' := hp.split
  clear hp
  rcases hp' with hp | ⟨c, rfl, hp⟩
  · simp only [cNum_torn f5 hp, cNum_t, cTxt_t, cFlag_t]
  simp only [cNum_enc f5]
  have hp' := hp.split
  clear hp
  rcases hp' with hp | ⟨c, rfl, hp⟩
  · simp only [cNum_torn f6 hp, cNum_t, cTxt_t, cFlag_t]
  simp only [cNum_enc f6]
  have hp' := hp.split
  clear hp
  rcases hp' with hp | ⟨c, rfl, hp⟩
  · simp only [cNum_torn f7 hp, cNum_t, cTxt_t, cFlag_t]
  simp only [cNum_enc f7]
  have hp' := hp.split
  clear hp
  rcases hp' with hp | ⟨c, rfl, hp⟩
  · simp only [cFlag_torn _ hp, cNum_t, cTxt_t, cFlag_t]
  simp only [cFlag_enc]
  have hp' := hp.split
  clear hp
  rcases hp' with hp | ⟨c, rfl, hp⟩
  · simp only [cNum_torn f8 hp, cNum_t, cTxt_t, cFlag_t]
  simp only [cNum_enc f8]
  exact cFlag_torn _ hp

theorem encL_ok : ∀ (l : List Int) (t : List UInt8), (∀ n ∈ l, i64 n) → decNs l.length (encL l ++ t) = .ok l t
  | [], t, _ => rfl
  | n :: l, t, h => by
    have hn := h n (by simp)
    have e : encL (n :: l) ++ t = encN (zz n) ++ (encL l ++ t) := by simp [encL]
    rw [e, List.length_cons, decNs_ok (dec_encN (zz_lt hn.1 hn.2) _), encL_ok l t (fun x hx => h x (by simp [hx]))]
    simp [unzz_zz]
theorem numsD_enc {l : List Int} (h : ∀ n ∈ l, i64 n) (hl : l.length ≤ 1048576) (t : List UInt8) : numsD (encN (2 * l.length) ++ encL l ++ t) = .ok l t := by
  unfold numsD
  rw [List.append_assoc, dec_encN (by omega), lenD_in (by omega) (by omega)]
  have e : 2 * l.length / 2 = l.length := by omega
  simp only [e]
  exact encL_ok l t h
theorem decNs_enc : ∀ (n : Nat) (b : List UInt8) (l : List Int) (t : List UInt8), decNs n b = .ok l t → b = encL l ++ t
  | 0, b, l, t, h => by simp only [decNs, Ns.ok.injEq] at h; rw [← h.1, ← h.2]; rfl
  | n + 1, b, l, t, h => by
    cases hd : dec 0 0 b with
    | bad e => rw [decNs_bad hd] at h; cases h
    | ok u r =>
      rw [decNs_ok hd] at h
      cases hn : decNs n r with
      | bad e => rw [hn] at h; cases h
      | ok l' t' =>
        rw [hn] at h
        simp only [Ns.ok.injEq] at h
        have ih := decNs_enc n r l' t' hn
        rw [(encN_dec hd).2, ih, ← h.1, ← h.2]
        simp [encL, zz_unzz]
theorem numsD_ok {b t : List UInt8} {l : List Int} (h : numsD b = .ok l t) : b = encN (2 * l.length) ++ encL l ++ t := by
  unfold numsD at h
  cases hd : lenD (dec 0 0 b) with
  | bad e => rw [hd] at h; cases h
  | ok u r =>
    rw [hd] at h
    simp only at h
    obtain ⟨h3, h4, h5, _⟩ := lenD_ok hd
    have hn := (decNs_len _ _ _ _ h).1
    have e : 2 * l.length = u := by omega
    rw [e, List.append_assoc, ← decNs_enc _ _ _ _ h]
    exact (encN_dec h3).2
theorem decNs_torn : ∀ (l : List Int) (c : List UInt8), (∀ n ∈ l, i64 n) → Part c (encL l) → decNs l.length c = .bad 2
  | [], c, _, hp => by have := hp.2; simp [encL] at this
  | n :: l, c, h, hp => by
    have hn := h n (by simp)
    have hp' := Part.split (e := encN (zz n)) (f := encL l) hp
    clear hp
    rcases hp' with hp | ⟨c', rfl, hp⟩
    · exact decNs_bad (dec_cut (zz_lt hn.1 hn.2) hp.1 hp.2)
    · rw [List.length_cons, decNs_ok (dec_encN (zz_lt hn.1 hn.2) _), decNs_torn l c' (fun x hx => h x (by simp [hx])) hp]
theorem numsD_torn {l : List Int} (h : ∀ n ∈ l, i64 n) (hl : l.length ≤ 1048576) {c : List UInt8} (hp : Part c (encN (2 * l.length) ++ encL l)) : numsD c = .bad 2 := by
  unfold numsD
  have hp' := hp.split
  clear hp
  rcases hp' with hp | ⟨c', rfl, hp⟩
  · rw [dec_cut (by omega) hp.1 hp.2]
    rfl
  · rw [dec_encN (by omega), lenD_in (by omega) (by omega)]
    have e : 2 * l.length / 2 = l.length := by omega
    simp only [e]
    exact decNs_torn l c' h hp

theorem cNum_fits {x : Cur} : i64 (cNum x).1 := by
  have h0 : i64 0 := ⟨by omega, by omega⟩
  cases x with
  | bad e => exact h0
  | ok c =>
    cases hd : dec 0 0 c with
    | bad e => simp only [cNum, hd]; exact h0
    | ok u r => simp only [cNum, hd]; exact ⟨unzz_lo (encN_dec hd).1, unzz_hi (encN_dec hd).1⟩
theorem recD_fits (b : List UInt8) : (recD b).1.fits := by
  unfold recD Rec.fits
  exact ⟨cNum_fits, cNum_fits, cNum_fits, cNum_fits, cNum_fits, cNum_fits, cNum_fits, cNum_fits⟩
end Go.Pu
