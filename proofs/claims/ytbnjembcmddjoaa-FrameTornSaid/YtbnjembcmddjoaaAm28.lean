/- A law that the abstract machine answers with true holds of the program. -/
import Derived.Test.YtbnjembcmddjoaaAm27
set_option linter.unusedVariables false
set_option linter.unusedSimpArgs false
namespace Go.Am
open Go Go.RowKit

section
variable {H : Type} {enc : TypeId × Value → H} {P : Program} {call : CallF}

theorem TyArgs.isAl {ts : List TypeId} {us : List V} (h : TyArgs P ts us) : ∀ u ∈ us, isAl u = false := by
  induction h with
  | nil => intro u hu; cases hu
  | cons t u ts us h1 _ _ _ ih =>
    intro x hx
    cases hx with
    | head => exact data_isAl h1
    | tail _ hx => exact ih x hx

theorem law_calls (hs : SoundCall P call) {fid : FuncId} {fn : Func} {sp : ChangeSpec} {apart fresh handsOn : Bool} {S : List TypeId} {tb : TypeId} (hS : plainS P S = true) (hlaw : ∀ us, TyArgs P fn.params.toList us → ∃ h', call fid us [] = some (.ret (.bool true) h'))
    (hpl : fn.params.toList.all S.contains = true) (hvars : sp.vars = []) (hspec : ∀ ds : List (DataW H), ds.length = fn.params.size → (sp.fn H (ds ++ [])).results = [.lit (.bool true)] ∧ (sp.fn H (ds ++ [])).args = ds ∧ (sp.fn H (ds ++ [])).vars = [])
    (hrt : fn.resultTypes = #[tb]) (htb : P.underlying tb = some .bool) {W : World} {r : Reach} {b0 : Nat} {args : Array Value} {ds gs : List (DataW H)} {before : List MemPlace}
    (hval : ∀ (j : Nat) t v, fn.params[j]? = some t → args[j]? = some v → Value.okWide P W r b0 t v) (hW : DataW.Whole enc P fn.params.toList sp.vars apart W args.toList ds gs before) :
    Calls P fid args W fun e W' => ∃ v, e = .returned v ∧ sp.post enc P fn apart fresh handsOn false W args v W' := by
  have hW' := hW
  obtain ⟨p, q, hA, hV, _, _, _⟩ := hW
  obtain ⟨us, hrep, hty⟩ := open_args hS hpl (fun j t v ht hv => hval j t v (by simpa using ht) (by simpa using hv)) hA
  obtain ⟨h', hcall⟩ := hlaw us hty
  obtain ⟨_, hc⟩ := hs fid us [] _ hcall
  have hgs : gs = [] := by
    rw [hvars] at hV
    cases gs with
    | nil => rfl
    | cons => exact hV.elim
  subst hgs
  have hlen : ds.length = fn.params.size := by
    have : ∀ {ts : List TypeId} {vs : List Value} {ds : List (DataW H)} {ps : List MemPlace}, DataW.TrodAll enc P W 0 (fun _ => true) true ts vs ds ps → ds.length = ts.length := by
      intro ts
      induction ts with
      | nil => intro vs ds ps h; cases vs <;> cases ds <;> first | rfl | exact h.elim
      | cons t ts ih =>
        intro vs ds ps h
        cases vs with
        | nil => exact h.elim
        | cons v vs =>
          cases ds with
          | nil => exact h.elim
          | cons d ds => obtain ⟨_, _, _, h2, _⟩ := h; simp [ih h2]
    simpa using this hA
  obtain ⟨s1, s2, s3⟩ := hspec ds hlen
  have := hc W.heap.size W (F0 W) [] [] [] [] args.toList hrep hty.isAl .nil (fun b => by simp) (fun b hb => by simp at hb) (F0_fresh W) (Nat.le_refl _)
  have e1 : args.toList.toArray = args := by simp
  rw [e1] at this
  refine this.mono fun e W' hend => ?_
  cases e with
  | returned cv =>
    obtain ⟨F', osV, osH', hE, hv, _⟩ := hend
    have hd := hv.data rfl
    cases hd
    exact ⟨_, rfl, post_law hS hW' hpl hE.below hvars s1 s2 s3 hrt htb⟩
  | panicked chain => exact hend.elim
  | outgrown => exact hend.elim
end
end Go.Am
