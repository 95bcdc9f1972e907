/- Each operation of the abstract machine is what the model's operation does: tools, and the operations that only read. -/
import Derived.Test.YtbnjembcmddjoaaAm4
import Derived.Laws.World
import Derived.Laws.Cells
import Derived.Laws.CopyRow
import Derived.WalkKit
set_option linter.unusedVariables false
set_option linter.unusedSimpArgs false
namespace Go.Am
open Go Go.RowKit

def setF (F : Nat → Nat) (b k : Nat) : Nat → Nat := fun x => if x = b then k else F x
theorem setF_self (F : Nat → Nat) (b k : Nat) : setF F b k b = k := by simp [setF]
theorem setF_ne (F : Nat → Nat) {b k x : Nat} (h : x ≠ b) : setF F b k x = F x := by simp [setF, h]

theorem heap_alloc_lt (w : World) (o : Obj) {b : Nat} (h : b < w.heap.size) : (w.alloc o).heap[b]? = w.heap[b]? := Below.heap_alloc w o b h
theorem heap_alloc_new (w : World) (o : Obj) : (w.alloc o).heap[w.heap.size]? = some o := by
  show (w.heap.push o)[w.heap.size]? = _
  simp

theorem below_alloc {B : Nat} {w : World} (h : B ≤ w.heap.size) (o : Obj) : Below B w (w.alloc o) := (Below.refl B w).alloc h o

theorem Ext.alloc {B : Nat} {w : World} {F : Nat → Nat} (hB : B ≤ w.heap.size) (hf : ∀ b, w.heap.size ≤ b → F b = 0) (o : Obj) (k : Nat) :
    Ext B w F (w.alloc o) (setF F w.heap.size k) (fun _ => False) := by
  have hlt : ∀ b o, o < F b → b < w.heap.size := fun b o h => by
    rcases Nat.lt_or_ge b w.heap.size with h' | h'
    · exact h'
    · rw [hf b h'] at h; omega
  refine ⟨below_alloc hB o, by simp, fun b c h => cell_of_block (heap_alloc_lt w o (hlt b c h)), fun b => ?_, fun b _ hs => ⟨heap_alloc_lt w o hs, setF_ne F (Nat.ne_of_lt hs)⟩, fun b hb => ?_⟩
  · unfold setF
    split
    · rename_i h; rw [h, hf _ (Nat.le_refl _)]; exact Nat.zero_le _
    · exact Nat.le_refl _
  · simp only [World.size_alloc] at hb
    rw [setF_ne F (by omega)]
    exact hf b (by omega)

/-- A draw of the tape. -/
theorem Ext.drew {B : Nat} {w : World} {F : Nat → Nat} (hf : ∀ b, w.heap.size ≤ b → F b = 0) : Ext B w F w.drew F (fun _ => False) :=
  ⟨(Below.refl B w).drew, Nat.le_refl _, fun _ _ _ => rfl, fun _ => Nat.le_refl _, fun _ _ _ => ⟨rfl, rfl⟩, hf⟩

theorem Ext.transF {B : Nat} {w w1 w2 : World} {F F1 F2 : Nat → Nat} (h : Ext B w F w1 F1 (fun _ => False)) (h' : Ext B w1 F1 w2 F2 (fun _ => False)) :
    Ext B w F w2 F2 (fun _ => False) := (h.trans h').weaken fun _ _ t => t.elim id id

section
variable {B : Nat} {cvs : List Value} {w w' : World} {F F' : Nat → Nat} {ρ : List Nat} {s : St} {rest osT osH : List Nat} {T : Nat → Prop}

theorem Sim.lt (h : Sim B cvs w F ρ s rest osT osH) {b : Nat} (hb : b ∈ osT ++ osH ++ rest) : b < w.heap.size := (h.inb b hb).2.1

theorem Sim.ext (h : Sim B cvs w F ρ s rest osT osH) (e : Ext B w F w' F' T) (hT : ∀ b ∈ osT ++ osH ++ rest, ¬ T b) : Sim B cvs w' F' ρ s rest osT osH :=
  ⟨h.tmps.ext e (fun _ _ hh => hh) (fun b hb => h.lt (by simp [hb])) (fun b hb => hT b (by simp [hb])), h.heap.ext e (fun b hb => hT b (by simp [hb])), h.alias, h.once,
   fun b hb => by
     obtain ⟨h1, h2, h3⟩ := h.inb b hb
     exact ⟨h1, Nat.lt_of_lt_of_le h2 e.size, ((e.keep b (hT b hb) h2).2).trans h3⟩, e.fresh, Nat.le_trans h.base e.size⟩

/-- Behind an operation, ahead of the store of its value. -/
structure SimV (B : Nat) (cvs : List Value) (w : World) (F : Nat → Nat) (ρ : List Nat) (t : List V) (hp : Heap) (cv : Value) (v : V) (rest osT osH osV : List Nat) : Prop where
  tmps : RepL (RepV w F ρ) cvs t osT
  heap : RepH w F ρ hp osH
  alias : AliasOK cvs t
  val : RepV w F ρ cv v osV
  aval : AliasV cvs t cv v
  once : ∀ b, (osT ++ osH ++ osV ++ rest).count b ≤ 1
  inb : ∀ b ∈ osT ++ osH ++ osV ++ rest, B ≤ b ∧ b < w.heap.size ∧ F b = 0
  fresh : ∀ b, w.heap.size ≤ b → F b = 0
  base : B ≤ w.heap.size

theorem aliasV_of {cvs : List Value} {t : List V} {cv : Value} {v : V} (h : isAl v = false) : AliasV cvs t cv v := by
  cases v <;> first | exact trivial | cases h

/-- The value that an operation hands on owns nothing, and the world is as it was. -/
theorem Sim.val (h : Sim B cvs w F ρ s rest osT osH) {cv : Value} {v : V} (hv : RepV w F ρ cv v []) (ha : AliasV cvs s.t cv v) : SimV B cvs w F ρ s.t s.h cv v rest osT osH [] :=
  ⟨h.tmps, h.heap, h.alias, hv, ha, by simpa using h.once, by simpa using h.inb, h.fresh, h.base⟩

/-- New blocks alone. -/
theorem Sim.new (h : Sim B cvs w F ρ s rest osT osH) (e : Ext B w F w' F' (fun _ => False)) {cv : Value} {v : V} {osV : List Nat} (hv : RepV w' F' ρ cv v osV) (ha : AliasV cvs s.t cv v)
    (hn : ∀ b ∈ osV, w.heap.size ≤ b ∧ b < w'.heap.size ∧ F' b = 0) (h1 : ∀ b, osV.count b ≤ 1) : SimV B cvs w' F' ρ s.t s.h cv v rest osT osH osV := by
  have h' := h.ext e (fun _ _ => id)
  refine ⟨h'.tmps, h'.heap, h'.alias, hv, ha, fun b => ?_, fun b hb => ?_, h'.fresh, h'.base⟩
  · have a1 := h.once b
    have a2 := h1 b
    simp only [List.count_append] at a1 ⊢
    by_cases hb : b ∈ osV
    · have : ∀ l : List Nat, (∀ c ∈ l, c < w.heap.size) → l.count b = 0 := fun l hl => List.count_eq_zero.2 fun hm => by have := hl b hm; have := (hn b hb).1; omega
      have e1 := this osT fun c hc => h.lt (by simp [hc])
      have e2 := this osH fun c hc => h.lt (by simp [hc])
      have e3 := this rest fun c hc => h.lt (by simp [hc])
      omega
    · have := List.count_eq_zero.2 hb
      omega
  · simp only [List.mem_append] at hb
    rcases hb with ((hb | hb) | hb) | hb
    · exact h'.inb b (by simp [hb])
    · exact h'.inb b (by simp [hb])
    · obtain ⟨b1, b2, b3⟩ := hn b hb
      exact ⟨Nat.le_trans h.base b1, b2, b3⟩
    · exact h'.inb b (by simp [hb])

theorem RepV.os_nil {w : World} {F : Nat → Nat} {ρ : List Nat} {cv : Value} {v : V} {os : List Nat} (r : RepV w F ρ cv v os) (h : v.lin = false) : os = [] := by
  cases r with
  | e _ _ _ r => cases r with
    | d => rfl
    | undef => rfl
    | ownnil => rfl
    | own => cases h
  | tup => cases h
  | ptr => rfl
  | rptr => rfl
  | box => cases h
  | bref => rfl
  | al => rfl
  | fn => rfl
  | iter => cases h

theorem RepV.data {w : World} {F : Nat → Nat} {ρ : List Nat} {cv : Value} {v : V} {os : List Nat} (r : RepV w F ρ cv v os) (h : v.data = true) : RepD w F cv v := by
  cases r with
  | e _ _ _ r => cases r with
    | d _ _ r => exact r
    | undef => cases h
    | ownnil => cases h
    | own => cases h
  | _ => cases h

theorem upd_out {t : List V} {d : Nat} (hd : t.length ≤ d) (v : V) : upd t d v = t := by
  induction t generalizing d with
  | nil => rfl
  | cons x t ih => cases d with
    | zero => simp at hd
    | succ d => simp only [upd]; rw [ih (by simpa using hd)]

theorem owner_lin {v : V} (h : v.owner = true) : v.lin = true := by cases v <;> first | rfl | cases h | (rename_i o _ _; cases o <;> first | rfl | cases h)
theorem isAl_of_lin {v : V} (h : v.lin = true) : isAl v = false := by cases v <;> first | rfl | cases h

/-- A slot that does not own anything may be overwritten. -/
theorem SimV.put {t t' : List V} {hp : Heap} {cv : Value} {v : V} {osV : List Nat} {dst : Option Nat} (h : SimV B cvs w F ρ t hp cv v rest osT osH osV) (hp' : put t dst v = some t') :
    ∃ osT', Sim B (match dst with | some d => cvs.set d cv | none => cvs) w F ρ ⟨t', hp⟩ rest osT' osH ∧ ∀ b ∈ osT', b ∈ osT ++ osV := by
  cases dst with
  | none =>
    simp only [Am.put, Option.some.injEq] at hp'
    subst hp'
    refine ⟨osT, ⟨h.tmps, h.heap, h.alias, fun b => ?_, fun b hb => ?_, h.fresh, h.base⟩, fun b hb => by simp [hb]⟩
    · have := h.once b; simp only [List.count_append] at this ⊢; omega
    · refine h.inb b ?_; simp only [List.mem_append] at hb ⊢; rcases hb with (hb | hb) | hb <;> simp [hb]
  | some d =>
    simp only [Am.put] at hp'
    split at hp'
    · cases hp'
    · rename_i ho
      simp only [Option.some.injEq] at hp'
      subst hp'
      simp only
      have ho : (nth t d).owner = false := by simpa using ho
      have hlen := h.tmps.length
      by_cases hd : d < t.length
      · obtain ⟨c, o1, od, o2, g1, g2, g3, g4⟩ := h.tmps.at hd
        refine ⟨o1 ++ osV ++ o2, ⟨g4 _ cv v osV (fun _ _ _ r _ => r) h.val, h.heap, ?_, fun b => ?_, fun b hb => ?_, h.fresh, h.base⟩, fun b hb => ?_⟩
        · have key : ∀ (e : Nat), (nth t e).owner = true → e ≠ d ∧ nth (upd t d v) e = nth t e ∧ (cvs.set d cv)[e]? = cvs[e]? := fun e he => by
            have hne : e ≠ d := fun hh => by rw [hh, ho] at he; cases he
            exact ⟨hne, nth_upd_ne (Ne.symm hne) v, by rw [List.getElem?_set]; simp [Ne.symm hne]⟩
          have trans : ∀ cv' x, AliasV cvs t cv' x → AliasV (cvs.set d cv) (upd t d v) cv' x := by
            intro cv' x hx
            cases x with
            | bref e o =>
              obtain ⟨b, hb, hx⟩ := hx
              refine ⟨b, hb, ?_⟩
              rcases hx with ⟨⟨cs, hx⟩, hy⟩ | ⟨⟨sz, xs, hx⟩, hy⟩
              · obtain ⟨_, k2, k3⟩ := key e (by rw [hx]; rfl)
                exact .inl ⟨⟨cs, k2.trans hx⟩, k3.trans hy⟩
              · obtain ⟨_, k2, k3⟩ := key e (by rw [hx]; rfl)
                obtain ⟨len, cap, hy⟩ := hy
                exact .inr ⟨⟨sz, xs, k2.trans hx⟩, len, cap, k3.trans hy⟩
            | al e =>
              obtain ⟨hx, hy⟩ := hx
              obtain ⟨_, k2, k3⟩ := key e hx
              exact ⟨by rw [k2]; exact hx, k3.trans hy⟩
            | _ => exact trivial
          intro e cv' hcv
          by_cases hed : d = e
          · subst hed
            rw [List.getElem?_set] at hcv
            simp [hlen ▸ hd] at hcv
            subst hcv
            rw [nth_upd_self hd]
            exact trans _ _ h.aval
          · rw [nth_upd_ne hed]
            rw [List.getElem?_set, if_neg hed] at hcv
            exact trans _ _ (h.alias e cv' hcv)
        · have := h.once b
          rw [g2] at this
          simp only [List.count_append] at this ⊢
          omega
        · refine h.inb b ?_
          rw [g2]
          simp only [List.mem_append] at hb ⊢
          rcases hb with (((hb | hb) | hb) | hb) | hb <;> simp [hb]
        · rw [g2]
          simp only [List.mem_append] at hb ⊢
          rcases hb with (hb | hb) | hb <;> simp [hb]
      · have e1 : upd t d v = t := upd_out (Nat.le_of_not_lt hd) v
        have e2 : cvs.set d cv = cvs := by rw [List.set_eq_of_length_le (by omega)]
        rw [e1, e2]
        refine ⟨osT, ⟨h.tmps, h.heap, h.alias, fun b => ?_, fun b hb => ?_, h.fresh, h.base⟩, fun b hb => by simp [hb]⟩
        · have := h.once b; simp only [List.count_append] at this ⊢; omega
        · refine h.inb b ?_; simp only [List.mem_append] at hb ⊢; rcases hb with (hb | hb) | hb <;> simp [hb]
end

/-! Operands. -/
def constOK1 : Value → V → Bool
  | .bool a, .bool b => a == b
  | .int k n, .int k' m => k == k' && n == m
  | .string s, .str l => s.data.toList == l
  | .slice none 0 0, .sl _ _ [] => true
  | .nilIface, .nilIfc => true
  | _, _ => false

def constL : List Value → List V → Bool
  | [], [] => true
  | a :: as, b :: bs => constOK1 a b && constL as bs
  | _, _ => false

/-- A constant of whatever shape. -/
def constOK : Value → V → Bool
  | .agg cvs, .agg cs => constL cvs.toList cs && cs.all V.one
  | a, b => constOK1 a b

def chkS : Operand → Src → Bool
  | .tmp t, .t i => t == i
  | .const cv, .c v => constOK cv v
  | .func f, .f g => f == g
  | _, _ => false

theorem constOK1_rep {cv : Value} {v : V} (h : constOK1 cv v = true) (w : World) (F : Nat → Nat) : RepE w F cv v [] := by
  unfold constOK1 at h
  split at h
  · obtain rfl := beq_iff_eq.1 h; exact .d _ _ (.bool _)
  · simp only [Bool.and_eq_true, beq_iff_eq] at h; obtain ⟨rfl, rfl⟩ := h; exact .d _ _ (.int _ _)
  · exact .d _ _ (.str _ _ (beq_iff_eq.1 h))
  · rename_i o sz
    cases o
    · exact .d _ _ (.slnil none sz)
    · exact .ownnil sz
  · exact .d _ _ .nilIfc
  · cases h

theorem constL_rep {w : World} {F : Nat → Nat} : ∀ {cvs : List Value} {cs : List V}, constL cvs cs = true → cs.all V.one = true →
    cvs.length = cs.length ∧ ∀ j (h : j < cvs.length), RepD w F cvs[j] (nth cs j) ∧ (nth cs j).one = true
  | [], [], _, _ => ⟨rfl, fun j h => by simp at h⟩
  | a :: as, b :: bs, h, h1 => by
    simp only [constL, Bool.and_eq_true] at h
    simp only [List.all_cons, Bool.and_eq_true] at h1
    obtain ⟨l1, l2⟩ := constL_rep (w := w) (F := F) h.2 h1.2
    refine ⟨by simp [l1], fun j hj => ?_⟩
    cases j with
    | zero =>
      refine ⟨?_, h1.1⟩
      have := constOK1_rep h.1 w F
      cases this with
      | d _ _ r => exact r
      | undef => cases h1.1
      | ownnil => cases h1.1
    | succ j => exact l2 j (by simpa using hj)
  | [], _ :: _, h, _ => by cases h
  | _ :: _, [], h, _ => by cases h

theorem constOK_rep {cv : Value} {v : V} (h : constOK cv v = true) (w : World) (F : Nat → Nat) : RepE w F cv v [] := by
  unfold constOK at h
  split at h
  · rename_i cvs cs
    simp only [Bool.and_eq_true] at h
    obtain ⟨l1, l2⟩ := constL_rep (w := w) (F := F) h.1 h.2
    refine .d _ _ (.agg _ _ (by simpa using l1) (fun j hj => (l2 j (by omega)).2) (fun j hj => ?_))
    have := (l2 j (by simpa using hj)).1
    rwa [Array.getElem_toList] at this
  · exact constOK1_rep h w F

section
variable {B : Nat} {a : Act} {w : World} {F : Nat → Nat} {ρ : List Nat} {s : St} {rest osT osH : List Nat}

theorem eval_tmp {cvs : List Value} (a : Act) (h : a.tmps.toList = cvs) (t : Nat) {cv : Value} (hc : cvs[t]? = some cv) : a.eval (.tmp t) = cv := by
  subst h
  simp only [Act.eval, Array.getD_eq_getD_getElem?]
  rw [show a.tmps[t]? = a.tmps.toList[t]? by simp, hc]
  rfl

theorem Sim.ev (h : Sim B a.tmps.toList w F ρ s rest osT osH) {x : Operand} {y : Src} (hc : chkS x y = true) :
    ∃ os, RepV w F ρ (a.eval x) (ev (nth s.t) y) os ∧ (∀ b ∈ os, b ∈ osT) := by
  unfold chkS at hc
  split at hc
  · rename_i t i
    obtain rfl := beq_iff_eq.1 hc
    simp only [Am.ev]
    by_cases ht : t < s.t.length
    · obtain ⟨cv, od, g1, g2, g3⟩ := h.tmps.get ht
      rw [eval_tmp a rfl t g1]
      exact ⟨od, g2, g3⟩
    · rw [nth_out (Nat.le_of_not_lt ht)]
      exact ⟨[], .e _ _ _ (.undef _), fun b hb => by cases hb⟩
  · rename_i cv v
    exact ⟨[], .e _ _ _ (constOK_rep hc w F), fun b hb => by cases hb⟩
  · rename_i f g
    obtain rfl := beq_iff_eq.1 hc
    exact ⟨[], .fn f #[] [] rfl (fun j hj => by simp at hj), fun b hb => by cases hb⟩
  · cases hc

theorem Sim.dat (h : Sim B a.tmps.toList w F ρ s rest osT osH) {x : Operand} {y : Src} (hc : chkS x y = true) {v : V} (hv : dat (nth s.t) y = some v) : RepD w F (a.eval x) v := by
  unfold Am.dat at hv
  split at hv
  · rename_i hd
    simp only [Option.some.injEq] at hv
    subst hv
    obtain ⟨os, hr, _⟩ := h.ev hc
    exact hr.data hd
  · cases hv

theorem Sim.int (h : Sim B a.tmps.toList w F ρ s rest osT osH) {x : Operand} {y : Src} (hc : chkS x y = true) {n : Int} (hv : intOf (nth s.t) y = some n) :
    ∃ k, a.eval x = .int k n := by
  unfold intOf at hv
  obtain ⟨os, hr, _⟩ := h.ev hc
  split at hv
  · rename_i k m he
    simp only [Option.some.injEq] at hv
    subst hv
    rw [he] at hr
    have := hr.data rfl
    cases hx : a.eval x <;> rw [hx] at this <;> cases this
    exact ⟨_, rfl⟩
  · cases hv
end
end Go.Am
