/- The table of all calls is borne out by the program. -/
import Derived.Test.YtbnjembcmddjoaaAm24
set_option linter.unusedVariables false
set_option linter.unusedSimpArgs false
namespace Go.Am
open Go Go.RowKit

section
variable {P : Program} {E : Env} {w : World} {F : Nat → Nat} {ρ : List Nat} {s : St} {call : CallF} {B : Nat} {rest osT osH : List Nat}

theorem RepL.appendUndef {R : Value → V → List Nat → Prop} (hu : R undef .undef []) {cvs : List Value} {vs : List V} {os : List Nat} (h : RepL R cvs vs os) (k : Nat) : RepL R (cvs ++ List.replicate k undef) (vs ++ List.replicate k .undef) os := by
  induction h with
  | nil =>
    induction k with
    | zero => exact .nil
    | succ k ih => simpa [List.replicate_succ] using RepL.cons _ _ _ _ [] [] hu ih
  | cons cv v cvs vs os os' h1 _ ih => exact .cons _ _ _ _ _ _ h1 ih

theorem isAl_frame {vs : List V} (h : ∀ v ∈ vs, isAl v = false) (k e : Nat) : isAl (nth (vs ++ List.replicate k .undef) e) = false := by
  by_cases he : e < (vs ++ List.replicate k V.undef).length
  · rw [nth_eq_getElem he]
    have := List.getElem_mem he
    simp only [List.mem_append, List.mem_replicate] at this
    rcases this with h1 | ⟨_, h1⟩
    · exact h _ h1
    · rw [h1]; rfl
  · rw [nth_out (by omega)]; rfl

theorem RepH.take {ρ : List Nat} {hp : Heap} {os : List Nat} (h : RepH w F ρ hp os) (n : Nat) : ∃ os', RepH w F (ρ.take n) (hp.take n) os' ∧ ∀ b, os'.count b ≤ os.count b := by
  induction h generalizing n with
  | nil => exact ⟨[], by simpa using RepH.nil, fun b => Nat.le_refl _⟩
  | cons b cs ρ hp os os' h1 _ ih =>
    cases n with
    | zero => exact ⟨[], by simpa using RepH.nil, fun b => by simp⟩
    | succ n =>
      obtain ⟨o1, q1, q2⟩ := ih n
      refine ⟨b :: os ++ o1, by simpa using RepH.cons _ _ _ _ _ _ h1 q1, fun c => ?_⟩
      have := q2 c
      simp only [List.count_append] at this ⊢
      omega

theorem take_prefix {ρ ρ' : List Nat} (h : ∀ (id b : Nat), ρ[id]? = some b → ρ'[id]? = some b) : ρ'.take ρ.length = ρ := by
  apply List.ext_getElem?
  intro i
  by_cases hi : i < ρ.length
  · rw [List.getElem?_take_of_lt hi, List.getElem?_eq_getElem hi]
    exact h i _ (List.getElem?_eq_getElem hi)
  · rw [List.getElem?_eq_none (by simp; omega), List.getElem?_eq_none (by omega)]

/-- What a caller is handed back of the objects. -/
theorem heap_back {w0 : World} {F0 : Nat → Nat} {ρ0 ρ : List Nat} {h0 hp : Heap} {os : List Nat} (hl : ρ0.length = h0.length) (hρ : ∀ (id b : Nat), ρ0[id]? = some b → ρ[id]? = some b) (h : RepH w F ρ hp os) :
    ∃ os', RepH w F ρ0 (hp.take h0.length) os' ∧ ∀ b, os'.count b ≤ os.count b := by
  obtain ⟨os', q1, q2⟩ := h.take h0.length
  refine ⟨os', ?_, q2⟩
  rwa [← hl, take_prefix hρ, hl] at q1

theorem count_mem {l m : List Nat} (h : ∀ b, l.count b ≤ m.count b) {b : Nat} (hb : b ∈ l) : b ∈ m := List.count_pos_iff.1 (Nat.lt_of_lt_of_le (List.count_pos_iff.2 hb) (h b))

theorem finish_ok {fn : Func} {af : AF} {h0 : Heap} {r : Rt} {e : Ex} {s' : St} {x : Exit} {a : Act} (hl : E.ρ.length = h0.length) (hres : chkRes P fn.results.toList af.res = true) (hnd : nodupB (resTmps af.res) = true)
    (hfin : finish af h0.length (some (e, s')) = some r) (hrel : Rel E [] e s' x a w) : bodyPost P fn (fun e w' => CallEnd E.B E.w E.F E.ρ E.rest E.os r e w') x a w := by
  have ok : Stt E a w s' → ∀ vs, resL s' af.res = some vs → (r = .ret (match vs with | [v] => v | _ => .tup vs) (s'.h.take h0.length)) →
      ∃ v, (results fn a.tmps).run P w = .ok v w ∧ CallEnd E.B E.w E.F E.ρ E.rest E.os r (.returned v) w := by
    rintro ⟨F, ρ, osT, osH, e0, r0, hsim, n0⟩ vs hvs rfl
    obtain ⟨cvs, osV, k1, k2, k3, k4⟩ := res_ok (P := P) (tmps := a.tmps) (fun ty a n v hty hv => cell_res hsim hty hv) hsim.tmps (fun _ _ => rfl) hres hnd hvs
    obtain ⟨osH', m1, m2⟩ := heap_back (w0 := w) (F0 := F) hl r0 hsim.heap
    refine ⟨_, results_run k1, F, osV, osH', e0, ?_, ?_, m1, fun b => ?_, fun b hb => ?_⟩
    · have hlen := k2.length
      cases vs with
      | nil =>
        cases cvs with
        | nil => exact .tup _ _ _ k2
        | cons => simp at hlen
      | cons v vs =>
        cases cvs with
        | nil => simp at hlen
        | cons cv cvs =>
          cases vs with
          | nil =>
            cases cvs with
            | nil =>
              cases k2 with
              | cons _ _ _ _ o1 o2 p1 p2 =>
                cases p2
                simp only [List.append_nil]
                exact .e _ _ _ p1
            | cons => simp at hlen
          | cons v2 vs =>
            cases cvs with
            | nil => simp at hlen
            | cons cv2 cvs => exact .tup _ _ _ k2
    · cases vs with
      | nil => rfl
      | cons v vs =>
        cases vs with
        | nil => exact k4 v (by simp)
        | cons v2 vs => rfl
    · have h1 := hsim.once b
      have h2 := k3 b
      have h3 := m2 b
      simp only [List.count_append] at h1 ⊢
      omega
    · have hm : b ∈ osT ++ osH := by
        simp only [List.mem_append] at hb ⊢
        rcases hb with hb | hb
        · exact .inl (count_mem k3 hb)
        · exact .inr (count_mem m2 hb)
      obtain ⟨b1, b2, b3⟩ := hsim.inb b (by simp only [List.mem_append] at hm ⊢; rcases hm with hm | hm <;> simp [hm])
      exact ⟨n0 b hm, b2, b3⟩
  have okv : Stt E a w s' → (match resL s' af.res with | some [v] => some (Rt.ret v (s'.h.take h0.length)) | some vs => some (.ret (.tup vs) (s'.h.take h0.length)) | none => none) = some r →
      ∃ v, (results fn a.tmps).run P w = .ok v w ∧ CallEnd E.B E.w E.F E.ρ E.rest E.os r (.returned v) w := by
    intro hst hr
    cases hv : resL s' af.res with
    | none => rw [hv] at hr; cases hr
    | some vs =>
      rw [hv] at hr
      refine ok hst vs hv ?_
      cases vs with
      | nil => simp only [Option.some.injEq] at hr; exact hr.symm
      | cons v vs =>
        cases vs with
        | nil => simp only [Option.some.injEq] at hr; exact hr.symm
        | cons v2 vs => simp only [Option.some.injEq] at hr; exact hr.symm
  cases e with
  | norm =>
    cases x with
    | normal =>
      obtain ⟨v, h1, h2⟩ := okv hrel.1 hfin
      exact ⟨hrel.2, v, h1, h2⟩
    | _ => exact hrel.elim
  | ret =>
    cases x with
    | ret =>
      obtain ⟨v, h1, h2⟩ := okv hrel.1 hfin
      exact ⟨hrel.2, v, h1, h2⟩
    | _ => exact hrel.elim
  | exit id => cases hfin
  | pan v =>
    cases x with
    | panic chain =>
      obtain ⟨⟨cv, hchain, F, ρ, osH, e0, r0, p1, p2, p3, p4⟩, hd⟩ := hrel
      simp only [finish] at hfin
      split at hfin
      · simp only [Option.some.injEq] at hfin
        subst hfin
        obtain ⟨osH', m1, m2⟩ := heap_back (w0 := w) (F0 := F) hl r0 p2
        refine ⟨hd, F, osH', cv, e0, hchain, p1, m1, fun b => ?_, fun b hb => p4 b (count_mem m2 hb)⟩
        have h1 := p3 b
        have h2 := m2 b
        simp only [List.count_append] at h1 ⊢
        omega
      · cases hfin
    | _ => exact hrel.elim

theorem callN_sound (M : Mach) (hext : SoundCall P M.ext) (hft : ∀ f af, M.ft f = some af → chkF P f af = true) : ∀ n, SoundCall P (callN M n) := by
  intro n
  induction n with
  | zero => exact hext
  | succ n ih =>
    intro f vs h r hr
    simp only [callN] at hr
    cases he : M.ext f vs h with
    | some q =>
      rw [he] at hr
      simp only [Option.some.injEq] at hr
      subst hr
      exact hext f vs h q he
    | none =>
      rw [he] at hr
      simp only at hr
      cases hf : M.ft f with
      | none => rw [hf] at hr; cases hr
      | some af =>
        rw [hf] at hr
        simp only at hr
        have hc := hft f af hf
        unfold chkF at hc
        split at hc
        · rename_i fn hfn
          simp only [Bool.and_eq_true, beq_iff_eq, bne_iff_ne, ne_eq] at hc
          obtain ⟨⟨⟨⟨hname, hnt⟩, hres⟩, hnd⟩, hbody⟩ := hc
          split at hbody
          · rename_i c hb
            refine ⟨by simp [enterable, hfn, hname, hb], fun B w F ρ rest osA osH cargs q1 q2 q3 q4 q5 q6 q7 => ?_⟩
            cases hev : evC (callN M n) n af.body ⟨frame af vs, h⟩ with
            | none => rw [hev] at hr; cases hr
            | some es =>
              obtain ⟨e, s'⟩ := es
              rw [hev] at hr
              refine calls_of_wp hfn hb ?_
              have hlen := q1.length
              let E : Env := ⟨B, w, F, ρ, rest, osA ++ osH⟩
              have hst : Stt E { tmps := cargs.toArray ++ Array.replicate (fn.ntmps - cargs.toArray.size) undef, defers := [] } w ⟨frame af vs, h⟩ := by
                refine ⟨F, ρ, osA, osH, Ext.refl q6, fun _ _ x => x, ⟨?_, q3, ?_, q4, q5, q6, q7⟩, fun b hb => .inl hb⟩
                · have := RepL.appendUndef (R := RepV w F ρ) (.e _ _ _ (.undef _)) q1 (fn.ntmps - cargs.length)
                  simp only [frame, ← hlen, ← hnt]
                  simpa using this
                · intro e cv hcv
                  exact aliasV_of (isAl_frame q2 _ e)
              exact wp_mono (code_ok ih n af.body c _ w _ e s' hbody hst rfl hev) (fun x a' w' hrel => finish_ok (E := E) q3.length hres hnd hr hrel)
          · cases hbody
        · cases hc

/-- What the abstract machine says of a call holds of the program. -/
theorem acall_sound (M : Mach) (hext : SoundCall P M.ext) (hft : ∀ f af, M.ft f = some af → chkF P f af = true) : SoundCall P (acall M) := by
  intro f vs h r hr
  obtain ⟨n, hn⟩ := (acall_iff M).1 hr
  exact callN_sound M hext hft n f vs h r hn

theorem soundCall_none : SoundCall P (fun _ _ _ => none) := fun f vs h r hr => by cases hr
end
end Go.Am
