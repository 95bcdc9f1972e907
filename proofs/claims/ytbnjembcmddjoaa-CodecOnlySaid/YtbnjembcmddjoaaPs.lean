/- Plain laws of what is decoded without an error, and of the errors. -/
import Derived.Test.YtbnjembcmddjoaaPr
set_option linter.unusedSimpArgs false
namespace Go.Pu

theorem cNum_bad {x : Cur} (h : ∀ e, x = .bad e → e ≠ 0) {e : Int} (hc : (cNum x).2 = .bad e) : e ≠ 0 := by
  cases x with
  | bad e' => simp only [cNum, Cur.bad.injEq] at hc; subst hc; exact h _ rfl
  | ok c =>
    cases hd : dec 0 0 c with
    | bad e' => simp only [cNum, hd, Cur.bad.injEq] at hc; have := dec_bad c 0 0 _ hd; omega
    | ok u r => simp only [cNum, hd] at hc; cases hc
theorem cTxt_bad {x : Cur} (h : ∀ e, x = .bad e → e ≠ 0) {e : Int} (hc : (cTxt x).2 = .bad e) : e ≠ 0 := by
  cases x with
  | bad e' => simp only [cTxt, Cur.bad.injEq] at hc; subst hc; exact h _ rfl
  | ok c =>
    cases hd : txtD c with
    | bad e' => simp only [cTxt, hd, Cur.bad.injEq] at hc; have := txtD_bad hd; omega
    | ok u r => simp only [cTxt, hd] at hc; cases hc
theorem cFlag_bad {x : Cur} (h : ∀ e, x = .bad e → e ≠ 0) {e : Int} (hc : (cFlag x).2 = .bad e) : e ≠ 0 := by
  unfold cFlag at hc
  simp only at hc
  cases hd : (cNum x).2 with
  | bad e' =>
    rw [hd] at hc
    simp only [chkFlag, Cur.bad.injEq] at hc
    subst hc
    exact cNum_bad h hd
  | ok c =>
    rw [hd] at hc
    simp only [chkFlag] at hc
    split at hc
    · cases hc
    · simp only [Cur.bad.injEq] at hc; omega
theorem recD_bad {b : List UInt8} {e : Int} (h : (recD b).2 = .bad e) : e ≠ 0 := by
  unfold recD at h
  simp only at h
  exact cFlag_bad (fun _ h => cNum_bad (fun _ h => cFlag_bad (fun _ h => cNum_bad (fun _ h => cNum_bad (fun _ h => cNum_bad (fun _ h => cNum_bad (fun _ h => cTxt_bad (fun _ h => cTxt_bad (fun _ h => cNum_bad (fun _ h => cNum_bad (fun _ h => cNum_bad (fun _ h => by cases h) h) h) h) h) h) h) h) h) h) h) h) h

theorem decNs_ne : ∀ (n : Nat) (b : List UInt8) (e : Int), decNs n b = .bad e → e ≠ 0
  | 0, b, e, h => by simp only [decNs] at h; cases h
  | n + 1, b, e, h => by
    cases hd : dec 0 0 b with
    | bad e' =>
      rw [decNs_bad hd] at h
      simp only [Ns.bad.injEq] at h
      have := dec_bad b 0 0 _ hd
      omega
    | ok u r =>
      rw [decNs_ok hd] at h
      cases hn : decNs n r with
      | bad e' => rw [hn] at h; simp only [Ns.bad.injEq] at h; subst h; exact decNs_ne n r _ hn
      | ok l' r' => rw [hn] at h; cases h
theorem numsD_bad {b : List UInt8} {e : Int} (h : numsD b = .bad e) : e ≠ 0 := by
  unfold numsD at h
  cases hd : lenD (dec 0 0 b) with
  | bad e' =>
    rw [hd] at h
    simp only [Ns.bad.injEq] at h
    have := lenD_bad hd
    omega
  | ok u r => rw [hd] at h; exact decNs_ne _ _ _ h
theorem decNs_fits : ∀ (n : Nat) (b : List UInt8) (l : List Int) (rest : List UInt8), decNs n b = .ok l rest → ∀ m ∈ l, i64 m
  | 0, b, l, rest, h => by simp only [decNs, Ns.ok.injEq] at h; simp [← h.1]
  | n + 1, b, l, rest, h => by
    cases hd : dec 0 0 b with
    | bad e => rw [decNs_bad hd] at h; cases h
    | ok u r =>
      rw [decNs_ok hd] at h
      cases hn : decNs n r with
      | bad e => rw [hn] at h; cases h
      | ok l' r' =>
        rw [hn] at h
        simp only [Ns.ok.injEq] at h
        have := decNs_fits n r l' r' hn
        have h2 := (encN_dec hd).1
        rw [← h.1]
        intro m hm
        rcases List.mem_cons.1 hm with rfl | hm
        · exact ⟨unzz_lo h2, unzz_hi h2⟩
        · exact this m hm
theorem numsD_fits {b rest : List UInt8} {l : List Int} (h : numsD b = .ok l rest) : ∀ m ∈ l, i64 m := by
  unfold numsD at h
  cases hd : lenD (dec 0 0 b) with
  | bad e' => rw [hd] at h; cases h
  | ok u r => rw [hd] at h; exact decNs_fits _ _ _ _ h
end Go.Pu
