/- What a law's arguments are: readings behind the call as ahead of it. -/
import Derived.Test.YtbnjembcmddjoaaAm25
import Derived.ChangeSame
import Derived.ChangeReads
import Derived.ChangeArms
import Derived.DataShut
import Derived.Below
import Derived.OpenShut
set_option linter.unusedVariables false
set_option linter.unusedSimpArgs false
namespace Go.Am
open Go Go.RowKit

theorem add_bo (a : Addr) (k : Nat) : (a.add k).block = a.block ∧ (a.add k).off = a.off + k := by
  unfold Addr.add
  split
  · rename_i h; rw [h]; exact ⟨rfl, rfl⟩
  · exact ⟨rfl, rfl⟩

/-- The fields of a struct stand one behind the other. -/
def cumul (P : Program) : Nat → List Field → Option Nat
  | k, [] => some k
  | k, f :: fs => if f.offset == k then cumul P (k + P.cellsOf f.type) fs else none

/-- A type of plain data, whose parts are of the listed types: no pointers, maps, functions, interfaces. -/
def plainIn (P : Program) (S : List TypeId) (t : TypeId) : Bool := match P.underlying t with
  | some .bool => true
  | some (.int _) => true
  | some .string => true
  | some (.slice e) => S.contains e && decide (0 < P.cellsOf e)
  | some (.struct fs) => cumul P 0 fs.toList == some (P.cellsOf t) && fs.toList.all fun x => S.contains x.type
  | some (.array n e) => S.contains e && decide (0 < P.cellsOf e) && n * P.cellsOf e == P.cellsOf t
  | _ => false

/-- A list of types of plain data that is closed under parts (a type may be a part of itself). -/
def plainS (P : Program) (S : List TypeId) : Bool := S.all (plainIn P S)

theorem plainS_at {P : Program} {S : List TypeId} (h : plainS P S = true) {t : TypeId} (ht : S.contains t = true) : plainIn P S t = true :=
  List.all_eq_true.1 h t (by simpa using ht)

section
variable {H : Type} {enc : TypeId × Value → H} {P : Program} {w w' : World} {base : Nat} {sp : Nat → Bool} {held : Bool}

theorem trod_sp {S : List TypeId} (hS : plainS P S = true) : ∀ (n : Nat) (t : TypeId) (cs : List Value) (x : DataW H × List MemPlace), S.contains t = true → DataW.trod enc P w base (fun _ => true) held n t cs = some x →
    (∀ p ∈ x.2, w.sameAt w' p ∧ sp p.block = true) → DataW.trod enc P w' base sp held n t cs = some x := by
  intro n
  induction n with
  | zero => intro t cs x hp h; simp [DataW.trod] at h
  | succ n ih =>
    intro t cs x ht h hs
    have hp := plainS_at hS ht
    simp only [plainIn] at hp
    split at hp
    · rename_i hu
      obtain ⟨b, rfl, rfl⟩ := DataW.trod_bool hu h
      unfold DataW.trod; rw [hu]
    · rename_i k hu
      obtain ⟨m, rfl, rfl, hwf⟩ := DataW.trod_int hu h
      unfold DataW.trod; rw [hu]; simp [hwf]
    · rename_i hu
      obtain ⟨b, rfl, rfl, hl⟩ := DataW.trod_string hu h
      unfold DataW.trod; rw [hu]; simp [hl]
    · rename_i e hu
      simp only [Bool.and_eq_true, decide_eq_true_eq] at hp
      rcases DataW.trod_slice hu h with ⟨rfl, rfl⟩ | ⟨a, len, cap, elems, rest, n', hn, rfl, rfl, hb, hl, hm, hlen, hel, hrs, _⟩
      · unfold DataW.trod; rw [hu]; simp
      · obtain rfl : n' = n := by omega
        obtain ⟨hrl, hr⟩ := hrs rfl
        have el : ∀ (i : Nat) (y : DataW H × List MemPlace), i < elems.length + rest.length → y ∈ elems ++ rest → (w.cells? base (a.add (i * P.cellsOf e)) (P.cellsOf e)).bind (DataW.trod enc P w base (fun _ => true) held n' e) = some y →
            (w'.cells? base (a.add (i * P.cellsOf e)) (P.cellsOf e)).bind (DataW.trod enc P w' base sp held n' e) = some y := by
          intro i y hi hy hb
          simp only [Option.bind_eq_some_iff] at hb ⊢
          obtain ⟨cs, h1, h2⟩ := hb
          refine ⟨cs, World.cells?_carry h1 (fun p hp' => (hs p ?_).1), ih e cs y hp.1 h2 (fun p hp' => hs p ?_)⟩
          · simp only [List.mem_append]
            left
            simp only [MemPlace.row, List.mem_map, List.mem_range] at hp' ⊢
            obtain ⟨j, hj, rfl⟩ := hp'
            have hlt := mul_add_lt hi hj
            refine ⟨i * P.cellsOf e + j, hlt, ?_⟩
            rw [(add_bo a _).1, (add_bo a _).2, Nat.add_assoc]
          · simp only [List.mem_append, List.mem_flatMap]
            right
            exact ⟨y, by simpa using hy, hp'⟩
        have e1 : (List.range len).mapM (fun i => (w'.cells? base (a.add (i * P.cellsOf e)) (P.cellsOf e)).bind (DataW.trod enc P w' base sp held n' e)) = some elems := by
          refine mapM_some_of_get _ _ (by simp [hlen]) fun i x hx => ?_
          have hi : i < len := by simpa using (List.getElem?_eq_some_iff.1 hx).1
          have : x = i := by simp [hi] at hx; exact hx.symm
          subst this
          rw [List.getElem?_eq_getElem (by omega)]
          exact el _ _ (by omega) (by simp) (by rw [hel _ hi, List.getElem?_eq_getElem (by omega)])
        have e2 : (List.range (cap - len)).mapM (fun j => (w'.cells? base (a.add ((len + j) * P.cellsOf e)) (P.cellsOf e)).bind (DataW.trod enc P w' base sp held n' e)) = some rest := by
          refine mapM_some_of_get _ _ (by simp [hrl]) fun i x hx => ?_
          have hi : i < cap - len := by simpa using (List.getElem?_eq_some_iff.1 hx).1
          have : x = i := by simp [hi] at hx; exact hx.symm
          subst this
          rw [List.getElem?_eq_getElem (by omega)]
          exact el _ _ (by omega) (by simp) (by rw [hr _ hi, List.getElem?_eq_getElem (by omega)])
        have e3 : (if sp a.block then (List.range (cap - len)).mapM (fun j => (w'.cells? base (a.add ((len + j) * P.cellsOf e)) (P.cellsOf e)).bind (DataW.trod enc P w' base sp held n' e)) else some []) = some rest := by
          by_cases hcl : cap - len = 0
          · have hrn : rest = [] := List.length_eq_zero_iff.1 (by omega)
            rw [e2, hrn]
            split <;> rfl
          · have hpos : 0 < (elems.length + rest.length) * P.cellsOf e := Nat.mul_pos (by omega) hp.2
            have hspa : sp a.block = true := (hs (.cell a.block (a.off + 0)) (by
              simp only [List.mem_append]
              left
              simp only [MemPlace.row, List.mem_map, List.mem_range]
              exact ⟨0, hpos, rfl⟩)).2
            rw [if_pos hspa, e2]
        unfold DataW.trod
        rw [hu]
        simp only
        rw [if_pos ⟨hb, hl, hm⟩, e1]
        simp only [Option.bind_some]
        rw [e3]
        rfl
    · rename_i fs hu
      simp only [Bool.and_eq_true] at hp
      obtain ⟨xs, n', hn, rfl, hl, hlen, hf⟩ := DataW.trod_struct hu h
      obtain rfl : n' = n := by omega
      refine Go.ChangeShapes.trod_struct_mk hu hl (mapM_some_of_get _ _ (by simp [hlen]) fun i fl hfl => ?_)
      have hi : i < fs.size := by simpa using (List.getElem?_eq_some_iff.1 hfl).1
      have hfl' : fs[i]? = some fl := by simpa using hfl
      have hx := hf i fl hfl'
      rw [List.getElem?_eq_getElem (by omega)] at hx ⊢
      refine ih fl.type _ _ (List.all_eq_true.1 hp.2 fl (List.mem_of_getElem? hfl)) hx (fun p hp' => hs p ?_)
      simp only [List.mem_flatMap]
      exact ⟨_, List.getElem_mem (by omega), hp'⟩
    · rename_i m e hu
      simp only [Bool.and_eq_true, decide_eq_true_eq] at hp
      obtain ⟨xs, n', hn, rfl, hl, hlen, hf⟩ := DataW.trod_array hu h
      obtain rfl : n' = n := by omega
      have e1 : (List.range m).mapM (fun i => DataW.trod enc P w' base sp held n' e ((cs.drop (i * P.cellsOf e)).take (P.cellsOf e))) = some xs := by
        refine mapM_some_of_get _ _ (by simp [hlen]) fun i x hx => ?_
        have hi : i < m := by simpa using (List.getElem?_eq_some_iff.1 hx).1
        have : x = i := by simp [hi] at hx; exact hx.symm
        subst this
        have hy := hf _ hi
        rw [List.getElem?_eq_getElem (by omega)] at hy ⊢
        refine ih e _ _ hp.1.1 hy (fun p hp' => hs p ?_)
        simp only [List.mem_flatMap]
        exact ⟨_, List.getElem_mem (by omega), hp'⟩
      unfold DataW.trod
      rw [hu]
      split <;> simp_all
    · cases hp

theorem trodAll_sp {S : List TypeId} (hS : plainS P S = true) : ∀ {ts : List TypeId} {vs : List Value} {ds : List (DataW H)} {ps : List MemPlace}, ts.all S.contains = true → DataW.TrodAll enc P w base (fun _ => true) held ts vs ds ps →
    (∀ p ∈ ps, w.sameAt w' p ∧ sp p.block = true) → DataW.TrodAll enc P w' base sp held ts vs ds ps
  | [], [], [], ps, _, h, _ => h
  | t :: ts, v :: vs, d :: ds, ps, hp, ⟨p, q, ⟨n, h1⟩, h2, e⟩, hs => by
    subst e
    simp only [List.all_cons, Bool.and_eq_true] at hp
    exact ⟨p, q, ⟨n, trod_sp hS n t _ _ hp.1 h1 fun x hx => hs x (by simp [hx])⟩, trodAll_sp hS hp.2 h2 fun x hx => hs x (by simp [hx]), rfl⟩

/-- The end of a law: it has returned true, and nothing that was there has turned. -/
theorem post_law {fn : Func} {sp : ChangeSpec} {apart fresh handsOn : Bool} {W W' : World} {args : Array Value} {ds gs : List (DataW H)} {before : List MemPlace} {S : List TypeId} {tb : TypeId} (hS : plainS P S = true)
    (hW : DataW.Whole enc P fn.params.toList sp.vars apart W args.toList ds gs before) (hpl : fn.params.toList.all S.contains = true) (hb : Below W.heap.size W W') (hvars : sp.vars = [])
    (hres : (sp.fn H (ds ++ gs)).results = [.lit (.bool true)]) (hargs : (sp.fn H (ds ++ gs)).args = ds) (hv : (sp.fn H (ds ++ gs)).vars = []) (hrt : fn.resultTypes = #[tb]) (htb : P.underlying tb = some .bool) :
    sp.post enc P fn apart fresh handsOn false W args (.bool true) W' := by
  have hlt := hW.lt
  have hW' := hW
  obtain ⟨p, q, hA, hV, rfl, _, _⟩ := hW
  have hq : q = [] := by
    rw [hvars] at hV
    cases gs with
    | nil => exact hV
    | cons => exact hV.elim
  subst hq
  refine ⟨ds, gs, p ++ [], [], p, [], hW', ?_, ?_, ?_, hb.frame _, fun h => by cases h⟩
  · rw [hres, hrt]
    exact ⟨[], [], ⟨1, by simp [DataW.trod, htb, Value.cells]⟩, rfl, rfl⟩
  · rw [hargs]
    refine trodAll_sp hS hpl hA fun x hx => ⟨hb.same (hlt x (by simp [hx])), ?_⟩
    have := hlt x (by simp [hx])
    simpa using this
  · rw [hvars, hv]
    rfl
end
end Go.Am
