/- Opening what the cells of a plain type are. -/
import Derived.Test.YtbnjembcmddjoaaAm28
import Derived.Test.YtbnjembcmddjoaaAm29
set_option linter.unusedVariables false
namespace Go.Am
open Go Go.RowKit

section
variable {P : Program} {f : Nat} {t e : TypeId} {cs : List V} {k : IntKind}

theorem tyc_bool (hu : P.underlying t = some .bool) (h : TyC P f t cs) : ∃ b, cs = [.bool b] := by
  cases f with
  | zero => exact h.elim
  | succ f => simp only [TyC, hu] at h; exact h
theorem tyc_int (hu : P.underlying t = some (.int k)) (h : TyC P f t cs) : ∃ n, cs = [.int k n] ∧ (Lit.int k n).wf = true := by
  cases f with
  | zero => exact h.elim
  | succ f => simp only [TyC, hu] at h; exact h
theorem tyc_string (hu : P.underlying t = some .string) (h : TyC P f t cs) : ∃ l, cs = [.str l] ∧ l.length ≤ maxLen := by
  cases f with
  | zero => exact h.elim
  | succ f => simp only [TyC, hu] at h; exact h
theorem tyc_slice (hu : P.underlying t = some (.slice e)) (h : TyC P f t cs) : ∃ g xs, cs = [.sl false (P.cellsOf e) xs] ∧ xs.length ≤ maxLen ∧ g < f ∧ ∀ x ∈ xs, x = mkEl P e x.cells ∧ TyC P g e x.cells := by
  cases f with
  | zero => exact h.elim
  | succ f => simp only [TyC, hu] at h; obtain ⟨xs, h1, h2, h3⟩ := h; exact ⟨f, xs, h1, h2, by omega, h3⟩
theorem tyc_struct {fs : Array Field} (hu : P.underlying t = some (.struct fs)) (h : TyC P f t cs) : ∃ g, g < f ∧ TyFs (TyC P g) fs.toList cs := by
  cases f with
  | zero => exact h.elim
  | succ f => simp only [TyC, hu] at h; exact ⟨f, by omega, h⟩
theorem tyc_array {n : Nat} (hu : P.underlying t = some (.array n e)) (h : TyC P f t cs) : ∃ g, g < f ∧ TyAs (TyC P g e) n cs := by
  cases f with
  | zero => exact h.elim
  | succ f => simp only [TyC, hu] at h; exact ⟨f, by omega, h⟩

theorem mkEl_one (ha : aggT P t = false) (v : V) : mkEl P t [v] = v := by simp [mkEl, ha, nth]
theorem mkEl_agg (ha : aggT P t = true) (cs : List V) : mkEl P t cs = .agg cs := by simp [mkEl, ha]

theorem TyFs.cons {R : TypeId → List V → Prop} {fl : Field} {fs : List Field} {cs : List V} (h : TyFs R (fl :: fs) cs) : ∃ x y, cs = x ++ y ∧ R fl.type x ∧ TyFs R fs y := h
theorem TyFs.nil {R : TypeId → List V → Prop} {cs : List V} (h : TyFs R [] cs) : cs = [] := h
theorem TyAs.cons {R : List V → Prop} {n : Nat} {cs : List V} (h : TyAs R (n + 1) cs) : ∃ x y, cs = x ++ y ∧ R x ∧ TyAs R n y := h
theorem TyAs.nil {R : List V → Prop} {cs : List V} (h : TyAs R 0 cs) : cs = [] := h

/-- The types of a struct's fields. -/
def fTypes (P : Program) (t : TypeId) : Option (List TypeId) := match P.underlying t with
  | some (.struct fs) => some (fs.toList.map (·.type))
  | _ => none
def TyTs (R : TypeId → List V → Prop) : List TypeId → List V → Prop
  | [], cs => cs = []
  | t :: ts, cs => ∃ x y, cs = x ++ y ∧ R t x ∧ TyTs R ts y
theorem TyTs.of {R : TypeId → List V → Prop} : ∀ {fs : List Field} {cs : List V}, TyFs R fs cs → TyTs R (fs.map (·.type)) cs
  | [], _, h => h
  | _ :: _, _, ⟨x, y, h1, h2, h3⟩ => ⟨x, y, h1, h2, TyTs.of h3⟩
theorem tyc_fields {ts : List TypeId} (hu : fTypes P t = some ts) (h : TyC P f t cs) : ∃ g, g < f ∧ TyTs (TyC P g) ts cs := by
  unfold fTypes at hu
  split at hu
  · rename_i fs hs
    simp only [Option.some.injEq] at hu
    subst hu
    obtain ⟨g, h1, h2⟩ := tyc_struct hs h
    exact ⟨g, h1, TyTs.of h2⟩
  · cases hu
theorem TyTs.cons {R : TypeId → List V → Prop} {t : TypeId} {ts : List TypeId} {cs : List V} (h : TyTs R (t :: ts) cs) : ∃ x y, cs = x ++ y ∧ R t x ∧ TyTs R ts y := h
theorem TyTs.nil {R : TypeId → List V → Prop} {cs : List V} (h : TyTs R [] cs) : cs = [] := h

/-- A list of elements, each of which is told by something. -/
theorem choose_map {α : Type} {g : α → V} {p : α → Prop} : ∀ {xs : List V}, (∀ x ∈ xs, ∃ a, x = g a ∧ p a) → ∃ l : List α, xs = l.map g ∧ ∀ a ∈ l, p a
  | [], _ => ⟨[], rfl, fun a h => by cases h⟩
  | x :: xs, h => by
    obtain ⟨a, rfl, ha⟩ := h x (by simp)
    obtain ⟨l, rfl, hl⟩ := choose_map (xs := xs) (fun y hy => h y (by simp [hy]))
    exact ⟨a :: l, rfl, fun b hb => by
      rcases List.mem_cons.1 hb with rfl | hb
      · exact ha
      · exact hl b hb⟩

/-- Bytes. -/
theorem arg_bytes {u : V} (hu : P.underlying t = some (.slice e)) (he : P.underlying e = some (.int .u8)) (hc : P.cellsOf e = 1) (h : u = mkEl P t u.cells ∧ ∃ f, TyC P f t u.cells) : ∃ b : List UInt8, u = .sl false 1 (B b) ∧ b.length ≤ maxLen := by
  obtain ⟨h1, f, h2⟩ := h
  obtain ⟨g, xs, hx, hl, _, hel⟩ := tyc_slice hu h2
  have ha : aggT P t = false := by simp [aggT, hu]
  have hae : aggT P e = false := by simp [aggT, he]
  rw [hx, mkEl_one ha, hc] at h1
  obtain ⟨b, rfl, _⟩ := choose_map (g := fun b : UInt8 => V.int .u8 b.toNat) (p := fun _ => True) (xs := xs) (fun x hx => by
    obtain ⟨h3, h4⟩ := hel x hx
    obtain ⟨n, h5, h6⟩ := tyc_int he h4
    rw [h5, mkEl_one hae] at h3
    have hb : 0 ≤ n ∧ n ≤ 255 := by simpa [Lit.wf, IntKind.min, IntKind.max, IntKind.signed, IntKind.bits] using h6
    refine ⟨UInt8.ofNat n.toNat, ?_, trivial⟩
    rw [h3]
    congr 1
    simp
    omega)
  exact ⟨b, h1, by simpa using hl⟩

theorem arg_int {u : V} (hu : P.underlying t = some (.int k)) (h : u = mkEl P t u.cells ∧ ∃ f, TyC P f t u.cells) : ∃ n, u = .int k n ∧ (Lit.int k n).wf = true := by
  obtain ⟨h1, f, h2⟩ := h
  obtain ⟨n, h5, h6⟩ := tyc_int hu h2
  rw [h5, mkEl_one (by simp [aggT, hu])] at h1
  exact ⟨n, h1, h6⟩
theorem arg_bool {u : V} (hu : P.underlying t = some .bool) (h : u = mkEl P t u.cells ∧ ∃ f, TyC P f t u.cells) : ∃ b, u = .bool b := by
  obtain ⟨h1, f, h2⟩ := h
  obtain ⟨n, h5⟩ := tyc_bool hu h2
  rw [h5, mkEl_one (by simp [aggT, hu])] at h1
  exact ⟨n, h1⟩
theorem arg_string {u : V} (hu : P.underlying t = some .string) (h : u = mkEl P t u.cells ∧ ∃ f, TyC P f t u.cells) : ∃ l, u = .str l ∧ l.length ≤ maxLen := by
  obtain ⟨h1, f, h2⟩ := h
  obtain ⟨n, h5, h6⟩ := tyc_string hu h2
  rw [h5, mkEl_one (by simp [aggT, hu])] at h1
  exact ⟨n, h1, h6⟩

theorem TyArgs.one {P : Program} {t : TypeId} {us : List V} (h : TyArgs P [t] us) : ∃ u, us = [u] ∧ (u = mkEl P t u.cells ∧ ∃ f, TyC P f t u.cells) := by
  cases h with
  | cons _ u _ us h1 h2 h3 h4 => cases h4; exact ⟨u, rfl, h2, h3⟩
theorem TyArgs.two {P : Program} {t1 t2 : TypeId} {us : List V} (h : TyArgs P [t1, t2] us) : ∃ u v, us = [u, v] ∧ (u = mkEl P t1 u.cells ∧ ∃ f, TyC P f t1 u.cells) ∧ (v = mkEl P t2 v.cells ∧ ∃ f, TyC P f t2 v.cells) := by
  cases h with
  | cons _ u _ us h1 h2 h3 h4 =>
    obtain ⟨v, rfl, h5⟩ := h4.one
    exact ⟨u, v, rfl, ⟨h2, h3⟩, h5⟩
theorem TyArgs.three {P : Program} {t1 t2 t3 : TypeId} {us : List V} (h : TyArgs P [t1, t2, t3] us) : ∃ u v w, us = [u, v, w] ∧ (u = mkEl P t1 u.cells ∧ ∃ f, TyC P f t1 u.cells) ∧ (v = mkEl P t2 v.cells ∧ ∃ f, TyC P f t2 v.cells) ∧ (w = mkEl P t3 w.cells ∧ ∃ f, TyC P f t3 w.cells) := by
  cases h with
  | cons _ u _ us h1 h2 h3 h4 =>
    obtain ⟨v, w, rfl, h5, h6⟩ := h4.two
    exact ⟨u, v, w, rfl, ⟨h2, h3⟩, h5, h6⟩
end
end Go.Am
