/- The check that an operation of the abstract code is the one of the program's code. -/
import Derived.Test.YtbnjembcmddjoaaAm17
set_option linter.unusedVariables false
set_option linter.unusedSimpArgs false
namespace Go.Am
open Go Go.RowKit

section
variable (P : Program)

def chk1 (op : Op) (y : Src) : Bool := match op with
  | .move x => chkS x y
  | .assign x => chkS x y
  | _ => false
def chkAl (op : Op) (d : Nat) : Bool := match op with
  | .move (.tmp t) => t == d
  | _ => false
def chkPick (op : Op) (y1 y2 y3 : Src) : Bool := match op with
  | .pick x1 x2 x3 => chkS x1 y1 && chkS x2 y2 && chkS x3 y3
  | _ => false
def chkAlloc (op : Op) (cs : List V) : Bool := match op with
  | .alloc t => (match zeroT P t with | some z => constL z.cells.toList cs | none => false)
  | _ => false
def chkBox (op : Op) (y : Src) : Bool := match op with
  | .box _ x => chkS x y
  | _ => false
def chkBuild (op : Op) (zero : List V) (qs : List (Nat × Nat × Src)) : Bool := match op with
  | .build t ps => (match zeroT P t with
    | some z => constL z.cells.toList zero && zero.all V.one && (match P.underlying t with
      | some (.struct fs) => chkParts (structPlace P fs) ps.toList qs && fs.toList.all (fun f => (szT P f.type).isSome)
      | some (.array _ e) => (match szT P e with | some k => chkParts (fun i => some (i * k, k)) ps.toList qs | none => false)
      | _ => false)
    | none => false)
  | _ => false
def chkZero (e : TypeId) (sz : Nat) (z : V) : Bool := (szT P e == some sz) && z.cells.length == sz && z.data && (match zeroT P e with | some zv => constOK zv z | none => false)
def chkBsl (op : Op) (sz n : Nat) (z : V) (qs : List (Nat × Src)) : Bool := match op with
  | .buildSlice t m ps => (match P.underlying t with
    | some (.slice e) => m == n && chkZero P e sz z && decide (n * sz ≤ 2 ^ 24) && chkPartsE ps.toList qs
    | _ => false)
  | _ => false
def chkFa (op : Op) (y : Src) (off : Nat) : Bool := match op with
  | .fieldAddr t x fi => (match P.underlying t with
    | some (.struct fs) => (match fs[fi]? with
      | some f => chkS x y && f.offset == off && (match szT P f.type with | some n => n != 0 | none => false)
      | none => false)
    | _ => false)
  | _ => false
def chkIa (op : Op) (y j : Src) (sz : Nat) (len : Option Nat) : Bool := match op with
  | .indexAddr t x i => chkS x y && chkS i j && (match len, P.underlying t with
    | some m, some (.array m' e) => m' == m && szT P e == some sz
    | none, some (.slice e) => szT P e == some sz
    | _, _ => false)
  | _ => false
def chkLd (op : Op) (y : Src) (n : Option Nat) : Bool := match op with
  | .load t x => chkS x y && (match n with | none => oneT P t | some m => aggT P t && szT P t == some m)
  | _ => false
def chkSt (op : Op) (y z : Src) (n : Nat) : Bool := match op with
  | .store t x v => chkS x y && chkS v z && szT P t == some n
  | _ => false
def chkNck (op : Op) (y : Src) : Bool := match op with
  | .nilCheck x => chkS x y
  | _ => false
def chkBin (op : Op) (b : BinOp) (y1 y2 : Src) : Bool := match op with
  | .binOp b' _ x1 x2 _ => b' == b && chkS x1 y1 && chkS x2 y2
  | _ => false
def chkBeq (op : Op) (ne : Bool) (y1 y2 : Src) : Bool := match op with
  | .binOp b' t x1 x2 _ => b' == (if ne then .neq else .eql) && chkS x1 y1 && chkS x2 y2 && (match P.underlying t with | some .bool => true | _ => false)
  | _ => false
def chkEqs (op : Op) (ne : Bool) (ks : List Nat) (y1 y2 : Src) : Bool := match op with
  | .binOp b' t x1 x2 _ => b' == (if ne then .neq else .eql) && chkS x1 y1 && chkS x2 y2 && !P.stoodInHeld t && !P.eqGuardType P.depth t && (match P.underlying t with | some (.struct fs) => flatF P 0 fs.toList ks | _ => false)
  | _ => false
def chkUn (op : Op) (u : UnOp) (y : Src) : Bool := match op with
  | .unOp u' _ x => u' == u && chkS x y
  | _ => false
def chkCvi (op : Op) (k : IntKind) (y : Src) : Bool := match op with
  | .convert t t' x => chkS x y && (P.underlying t).isSome && (match P.underlying t' with | some (.int k') => k' == k | _ => false)
  | _ => false
def chkCvr (op : Op) (y : Src) : Bool := match op with
  | .convert t t' x => chkS x y && (match P.underlying t, P.underlying t' with | some (.int _), some .string => true | _, _ => false)
  | _ => false
def chkCvid (op : Op) (y : Src) : Bool := match op with
  | .convert t t' x => chkS x y && (match P.underlying t, P.underlying t' with | some .string, some .string => true | _, _ => false)
  | _ => false
def u8T (e : TypeId) : Bool := match P.underlying e with | some (.int .u8) => true | _ => false
def chkCvs (op : Op) (y : Src) : Bool := match op with
  | .convert t t' x => chkS x y && (match P.underlying t, P.underlying t' with | some (.slice e), some .string => u8T P e | _, _ => false)
  | _ => false
def chkCvb (op : Op) (y : Src) : Bool := match op with
  | .convert t t' x => chkS x y && (match P.underlying t, P.underlying t' with | some .string, some (.slice e) => u8T P e | _, _ => false)
  | _ => false
def plainT (t : TypeId) : Bool := match P.underlying t with | some (.interface _) => false | some _ => true | none => false
def chkMki (op : Op) (t : TypeId) (y : Src) : Bool := match op with
  | .makeInterface t' x => t' == t && chkS x y && plainT P t
  | _ => false
def chkMkf (op : Op) (f : FuncId) (ys : List Src) : Bool := match op with
  | .makeFunc (.func f') first xs => f' == f && first.isEmpty && chkSL xs.toList ys
  | _ => false
def chkMk (op : Op) (sz bytes : Nat) (z : V) (y1 y2 : Src) : Bool := match op with
  | .makeSlice t x1 x2 => chkS x1 y1 && chkS x2 y2 && (match P.underlying t with
    | some (.slice e) => chkZero P e sz z && (match P.info? e with | some i => i.bytes == bytes | none => false)
    | _ => false)
  | _ => false
def chkSlc (op : Op) (sz : Option Nat) (y : Src) (lo hi mx : Option Src) : Bool := match op with
  | .slice t x xl xh xm => chkS x y && chkSO xl lo && chkSO xh hi && chkSO xm mx && (match sz, P.underlying t with
    | none, some .string => true
    | some n, some (.slice e) => szT P e == some n
    | _, _ => false)
  | _ => false
def chkSlb (op : Op) (d n : Nat) (lo hi : Option Src) : Bool := match op with
  | .slice t (.tmp d') xl xh none => d == d' && chkSO xl lo && chkSO xh hi && (match P.underlying t with
    | some (.array m e) => m == n && szT P e == some 1
    | _ => false)
  | _ => false
def chkIdx (op : Op) (y j : Src) (len : Option Nat) (n : Nat) (ag : Bool) : Bool := match op with
  | .index t x i => chkS x y && chkS i j && (match len, P.underlying t with
    | some m, some (.array m' e) => m' == m && szT P e == some n && n != 0 && (if ag then aggT P e else oneT P e)
    | none, some .string => true
    | _, _ => false)
  | _ => false
def chkFld (op : Op) (y : Src) (off n : Nat) (ag : Bool) : Bool := match op with
  | .field t x fi => chkS x y && (match P.underlying t with
    | some (.struct fs) => (match fs[fi]? with
      | some f => f.offset == off && (if ag then aggT P f.type && szT P f.type == some n else oneT P f.type)
      | none => false)
    | _ => false)
  | _ => false
def chkExt (op : Op) (j i : Nat) : Bool := match op with
  | .extract (.tmp t) k => t == j && k == i
  | _ => false
def chkTas (op : Op) (y : Src) (t : TypeId) (ok : Bool) (zero : V) : Bool := match op with
  | .typeAssert x _ t' ok' => chkS x y && t' == t && ok' == ok && plainT P t && (match zeroT P t with | some z => constOK z zero | none => false)
  | _ => false
def chkLen (op : Op) (st : Bool) (y : Src) : Bool := match op with
  | .call ⟨.builtin .len, xs, ts⟩ => (match xs.toList, ts.toList with
    | [x], [t] => chkS x y && (match st, P.underlying t with
      | true, some .string => true
      | false, some (.slice _) => true
      | _, _ => false)
    | _, _ => false)
  | _ => false
def chkApp (op : Op) (sz bytes : Nat) (y1 y2 : Src) : Bool := match op with
  | .call ⟨.builtin .append, xs, ts⟩ => (match xs.toList, ts.toList with
    | [x1, x2], [t, t2] => chkS x1 y1 && chkS x2 y2 && listT P t2 && (match P.underlying t with
      | some (.slice e) => (match P.info? e with
        | some i => i.size == sz && i.bytes == bytes && (match i.zero with | some z => z.cells.size == sz | none => false)
        | none => false)
      | _ => false)
    | _, _ => false)
  | _ => false
def chkCopy (op : Op) (y1 y2 : Src) : Bool := match op with
  | .call ⟨.builtin .copy, xs, ts⟩ => (match xs.toList, ts.toList with
    | [x1, x2], [t, t2] => chkS x1 y1 && chkS x2 y2 && (match P.underlying t with
      | some (.slice e) => szT P e == some 1
      | _ => false)
    | _, _ => false)
  | _ => false
def chkMin (op : Op) (ys : List Src) : Bool := match op with
  | .call ⟨.builtin .min, xs, _⟩ => chkSL xs.toList ys
  | _ => false
def chkRange (op : Op) (y : Src) : Bool := match op with
  | .range t x => chkS x y && (match P.underlying t with | some .string => true | _ => false)
  | _ => false
def chkNext (op : Op) (d : Nat) : Bool := match op with
  | .next (.tmp t) true => d == t
  | _ => false
def chkPan (op : Op) (y : Src) : Bool := match op with
  | .panic x => chkS x y
  | _ => false

/-- An operation that is no call. -/
def chkO (op : Op) : AOp → Bool
  | .mv y => chk1 op y
  | .cp y => chk1 op y
  | .al d => chkAl op d
  | .pick c a b => chkPick op c a b
  | .newbox cs => chkAlloc P op cs
  | .newobj cs => chkAlloc P op cs
  | .boxr y => chkBox op y
  | .boxb y => chkBox op y
  | .boxo y => chkBox op y
  | .build zero qs => chkBuild P op zero qs
  | .bsl sz n z qs => chkBsl P op sz n z qs
  | .fa y off _ => chkFa P op y off
  | .ia y j sz len _ => chkIa P op y j sz len
  | .ld y n _ _ => chkLd P op y n
  | .st y z n _ _ => chkSt P op y z n
  | .nck y _ => chkNck op y
  | .bin b y1 y2 => chkBin op b y1 y2
  | .beq ne y1 y2 => chkBeq P op ne y1 y2
  | .eqs ne ks y1 y2 => chkEqs P op ne ks y1 y2
  | .un u y => chkUn op u y
  | .cvi k y => chkCvi P op k y
  | .cvid y => chkCvid P op y
  | .cvs y _ => chkCvs P op y
  | .cvb y => chkCvb P op y
  | .cvr y => chkCvr P op y
  | .mki t y => chkMki P op t y
  | .mkf f ys => chkMkf op f ys
  | .mk sz bytes z y1 y2 => chkMk P op sz bytes z y1 y2
  | .slc sz y lo hi mx => chkSlc P op sz y lo hi mx
  | .slb d n lo hi => chkSlb P op d n lo hi
  | .idx y j len n ag => chkIdx P op y j len n ag
  | .fld y off n ag => chkFld P op y off n ag
  | .ext j i => chkExt op j i
  | .tas y t ok zero => chkTas P op y t ok zero
  | .len st y _ => chkLen P op st y
  | .app sz bytes y1 y2 _ => chkApp P op sz bytes y1 y2
  | .copy _ y1 y2 _ => chkCopy P op y1 y2
  | .min ys => chkMin op ys
  | .range y => chkRange P op y
  | .next d => chkNext op d
  | .pan y => chkPan op y
  | _ => false
end

theorem chkSL_get : ∀ {xs : List Operand} {ys : List Src}, chkSL xs ys = true → xs.length = ys.length ∧ ∀ j (hj : j < xs.length), ∃ y, ys[j]? = some y ∧ chkS xs[j] y = true
  | [], [], _ => ⟨rfl, fun j hj => by simp at hj⟩
  | x :: xs, y :: ys, h => by
    rw [chkSL, Bool.and_eq_true] at h
    obtain ⟨h1, h2⟩ := chkSL_get h.2
    refine ⟨by simp [h1], fun j hj => ?_⟩
    cases j with
    | zero => exact ⟨y, rfl, h.1⟩
    | succ j => exact h2 j (by simpa using hj)
  | [], _ :: _, h => by cases h
  | _ :: _, [], h => by cases h

theorem arr_eq {α : Type} {xs : Array α} {l : List α} (h : xs.toList = l) : xs = l.toArray := by subst h; simp

section
variable {P : Program} {a : Act} {o : Oper} {B : Nat} {w w' : World} {F F' : Nat → Nat} {ρ : List Nat} {s : St} {rest osT osH : List Nat} {c : CallF} {r : Rs}

theorem chkZero_ok {e : TypeId} {sz : Nat} {z : V} (h : chkZero P e sz z = true) : ∃ zv, ZeroE P e sz z zv := by
  unfold chkZero at h
  simp only [Bool.and_eq_true, beq_iff_eq] at h
  obtain ⟨⟨⟨h1, h2⟩, h3⟩, h4⟩ := h
  split at h4
  · rename_i zv hz
    exact ⟨zv, h1, hz, fun w F => ((constOK_rep h4 w F).data h3).1, h2⟩
  · cases h4

theorem plainT_ok {t : TypeId} (h : plainT P t = true) : ∃ d, P.underlying t = some d ∧ ∀ ms, d ≠ .interface ms := by
  unfold plainT at h
  split at h
  · cases h
  · rename_i d hn hu; exact ⟨d, hu, fun ms hd => hn ms hd⟩
  · cases h

theorem op_ok (h : Sim B a.tmps.toList w F ρ s rest osT osH) {ao : AOp} (hc : chkO P o.op ao = true) (hr : opRes c (nth s.t) s.h ao = some r) : OpOK P a o B w F ρ s rest osT osH r := by
  cases ao with
  | mv y =>
    simp only [chkO, chk1] at hc
    split at hc
    · rename_i x hop; exact op_mv h (.inl hop) hc hr
    · rename_i x hop; exact op_mv h (.inr hop) hc hr
    · cases hc
  | cp y =>
    simp only [chkO, chk1] at hc
    split at hc
    · rename_i x hop; exact op_cp h (.inl hop) hc hr
    · rename_i x hop; exact op_cp h (.inr hop) hc hr
    · cases hc
  | al d =>
    simp only [chkO, chkAl] at hc
    split at hc
    · rename_i t hop; obtain rfl := beq_iff_eq.1 hc; exact op_al h hop hr
    · cases hc
  | pick y1 y2 y3 =>
    simp only [chkO, chkPick] at hc
    split at hc
    · rename_i x1 x2 x3 hop; simp only [Bool.and_eq_true] at hc; exact op_pick h hop hc.1.1 hc.1.2 hc.2 hr
    · cases hc
  | newbox cs =>
    simp only [chkO, chkAlloc] at hc
    split at hc
    · rename_i t hop
      split at hc
      · rename_i z hz; exact op_newbox h hop hz hc hr
      · cases hc
    · cases hc
  | newobj cs =>
    simp only [chkO, chkAlloc] at hc
    split at hc
    · rename_i t hop
      split at hc
      · rename_i z hz; exact op_newobj h hop hz hc hr
      · cases hc
    · cases hc
  | boxr y =>
    simp only [chkO, chkBox] at hc
    split at hc
    · rename_i t x hop; exact op_boxr h hop hc hr
    · cases hc
  | boxb y =>
    simp only [chkO, chkBox] at hc
    split at hc
    · rename_i t x hop; exact op_boxb h hop hc hr
    · cases hc
  | boxo y =>
    simp only [chkO, chkBox] at hc
    split at hc
    · rename_i t x hop; exact op_boxo h hop hc hr
    · cases hc
  | build zero qs =>
    simp only [chkO, chkBuild] at hc
    split at hc
    · rename_i t ps hop
      split at hc
      · rename_i z hz
        simp only [Bool.and_eq_true] at hc
        obtain ⟨⟨h1, h2⟩, h3⟩ := hc
        split at h3
        · rename_i fs hu
          simp only [Bool.and_eq_true] at h3
          exact op_build_struct h hop hz hu h1 h3.1 h3.2 (fun cs hf => fill_one h h3.1 h2 hf) hr
        · rename_i n e hu
          split at h3
          · rename_i k hk; exact op_build_array h hop hz hu hk h1 h3 (fun cs hf => fill_one h h3 h2 hf) hr
          · cases h3
        · cases h3
      · cases hc
    · cases hc
  | bsl sz n z qs =>
    simp only [chkO, chkBsl] at hc
    split at hc
    · rename_i t m ps hop
      split at hc
      · rename_i e hu
        simp only [Bool.and_eq_true, beq_iff_eq, decide_eq_true_eq] at hc
        obtain ⟨⟨⟨rfl, h2⟩, h3⟩, h4⟩ := hc
        obtain ⟨zv, hZ⟩ := chkZero_ok h2
        exact op_bsl h hop hu hZ h3 h4 hr
      · cases hc
    · cases hc
  | fa y off b =>
    simp only [chkO, chkFa] at hc
    split at hc
    · rename_i t x fi hop
      split at hc
      · rename_i fs hu
        split at hc
        · rename_i f hf
          simp only [Bool.and_eq_true, beq_iff_eq] at hc
          obtain ⟨⟨h1, h2⟩, h3⟩ := hc
          split at h3
          · rename_i n hn; exact op_fa h hop h1 hu hf h2 hn (by simpa using h3) hr
          · cases h3
        · cases hc
      · cases hc
    · cases hc
  | ia y j sz len b =>
    simp only [chkO, chkIa] at hc
    split at hc
    · rename_i t x i hop
      simp only [Bool.and_eq_true] at hc
      obtain ⟨⟨h1, h2⟩, h3⟩ := hc
      split at h3
      · rename_i m m' e hu
        simp only [Bool.and_eq_true, beq_iff_eq] at h3
        obtain ⟨rfl, h4⟩ := h3
        exact op_ia_arr h hop h1 h2 hu h4 hr
      · rename_i e hu; exact op_ia_sl h hop h1 h2 hu (by simpa using h3) hr
      · cases h3
    · cases hc
  | ld y n tr b =>
    simp only [chkO, chkLd] at hc
    split at hc
    · rename_i t x hop
      simp only [Bool.and_eq_true] at hc
      refine op_ld h hop hc.1 ?_ hr
      cases n with
      | none => exact hc.2
      | some m => have := hc.2; simp only [Bool.and_eq_true, beq_iff_eq] at this; exact this
    · cases hc
  | st y z n tr b =>
    simp only [chkO, chkSt] at hc
    split at hc
    · rename_i t x v hop; simp only [Bool.and_eq_true, beq_iff_eq] at hc; exact op_st h hop hc.1.1 hc.1.2 hc.2 hr
    · cases hc
  | nck y b =>
    simp only [chkO, chkNck] at hc
    split at hc
    · rename_i x hop; exact op_nck h hop hc hr
    · cases hc
  | bin b y1 y2 =>
    simp only [chkO, chkBin] at hc
    split at hc
    · rename_i b' t x1 x2 t' hop; simp only [Bool.and_eq_true, beq_iff_eq] at hc; obtain ⟨⟨rfl, h1⟩, h2⟩ := hc; exact op_bin h hop h1 h2 hr
    · cases hc
  | beq ne y1 y2 =>
    simp only [chkO, chkBeq] at hc
    split at hc
    · rename_i b' t x1 x2 t' hop
      simp only [Bool.and_eq_true, beq_iff_eq] at hc
      obtain ⟨⟨⟨rfl, h1⟩, h2⟩, h3⟩ := hc
      split at h3
      · rename_i hu; exact op_beq h hop h1 h2 hu hr
      · cases h3
    · cases hc
  | eqs ne ks y1 y2 =>
    simp only [chkO, chkEqs] at hc
    split at hc
    · rename_i b' t x1 x2 t' hop
      simp only [Bool.and_eq_true, beq_iff_eq, Bool.not_eq_true'] at hc
      obtain ⟨⟨⟨⟨⟨rfl, h1⟩, h2⟩, h3⟩, h4⟩, h5⟩ := hc
      split at h5
      · rename_i fs hu; exact op_eqs h hop h1 h2 hu h3 h4 h5 hr
      · cases h5
    · cases hc
  | un u y =>
    simp only [chkO, chkUn] at hc
    split at hc
    · rename_i u' t x hop; simp only [Bool.and_eq_true, beq_iff_eq] at hc; obtain ⟨rfl, h1⟩ := hc; exact op_un h hop h1 hr
    · cases hc
  | cvi k y =>
    simp only [chkO, chkCvi] at hc
    split at hc
    · rename_i t t' x hop
      simp only [Bool.and_eq_true] at hc
      obtain ⟨⟨h1, h2⟩, h3⟩ := hc
      obtain ⟨d, hd⟩ := Option.isSome_iff_exists.1 h2
      split at h3
      · rename_i k' hu; obtain rfl := beq_iff_eq.1 h3; exact op_cvi h hop h1 hd hu hr
      · cases h3
    · cases hc
  | cvid y =>
    simp only [chkO, chkCvid] at hc
    split at hc
    · rename_i t t' x hop
      simp only [Bool.and_eq_true] at hc
      obtain ⟨h1, h3⟩ := hc
      split at h3
      · rename_i hu hu'; exact op_cvid h hop h1 hu hu' hr
      · cases h3
    · cases hc
  | cvs y b =>
    simp only [chkO, chkCvs] at hc
    split at hc
    · rename_i t t' x hop
      simp only [Bool.and_eq_true] at hc
      obtain ⟨h1, h3⟩ := hc
      split at h3
      · rename_i e hu hu'
        unfold u8T at h3
        split at h3
        · rename_i hue; exact op_cvs h hop h1 hu hue hu' hr
        · cases h3
      · cases h3
    · cases hc
  | cvb y =>
    simp only [chkO, chkCvb] at hc
    split at hc
    · rename_i t t' x hop
      simp only [Bool.and_eq_true] at hc
      obtain ⟨h1, h3⟩ := hc
      split at h3
      · rename_i e hu hu'
        unfold u8T at h3
        split at h3
        · rename_i hue; exact op_cvb h hop h1 hu hu' hue hr
        · cases h3
      · cases h3
    · cases hc
  | cvr y =>
    simp only [chkO, chkCvr] at hc
    split at hc
    · rename_i t t' x hop
      simp only [Bool.and_eq_true] at hc
      obtain ⟨h1, h3⟩ := hc
      split at h3
      · rename_i k hu hu'; exact op_cvr h hop h1 hu hu' hr
      · cases h3
    · cases hc
  | mki t y =>
    simp only [chkO, chkMki] at hc
    split at hc
    · rename_i t' x hop
      simp only [Bool.and_eq_true, beq_iff_eq] at hc
      obtain ⟨⟨rfl, h1⟩, h2⟩ := hc
      obtain ⟨d, hd, hn⟩ := plainT_ok h2
      exact op_mki h hop h1 hd hn hr
    · cases hc
  | mkf f ys =>
    simp only [chkO, chkMkf] at hc
    split at hc
    · rename_i f' first xs hop
      simp only [Bool.and_eq_true, beq_iff_eq] at hc
      obtain ⟨⟨rfl, h1⟩, h2⟩ := hc
      have hfe : first = #[] := by simpa using h1
      subst hfe
      obtain ⟨h3, h4⟩ := chkSL_get h2
      exact op_mkf h hop (by simpa using h3) (fun j hj => by have := h4 j (by simpa using hj); rwa [Array.getElem_toList] at this) hr
    · cases hc
  | mk sz bytes z y1 y2 =>
    simp only [chkO, chkMk] at hc
    split at hc
    · rename_i t x1 x2 hop
      simp only [Bool.and_eq_true] at hc
      obtain ⟨⟨h1, h2⟩, h3⟩ := hc
      split at h3
      · rename_i e hu
        simp only [Bool.and_eq_true] at h3
        obtain ⟨h4, h5⟩ := h3
        obtain ⟨zv, hZ⟩ := chkZero_ok h4
        split at h5
        · rename_i i hi; exact op_mk h hop h1 h2 hu hi (by simpa using h5) hZ hr
        · cases h5
      · cases h3
    · cases hc
  | slc sz y lo hi mx =>
    simp only [chkO, chkSlc] at hc
    split at hc
    · rename_i t x xl xh xm hop
      simp only [Bool.and_eq_true] at hc
      obtain ⟨⟨⟨⟨h1, h2⟩, h3⟩, h4⟩, h5⟩ := hc
      split at h5
      · rename_i hu; exact op_slc_str h hop h1 h2 h3 h4 hu hr
      · rename_i n e hu; exact op_slc h hop h1 h2 h3 h4 hu (by simpa using h5) hr
      · cases h5
    · cases hc
  | slb d n lo hi =>
    simp only [chkO, chkSlb] at hc
    split at hc
    · rename_i t d' xl xh hop
      simp only [Bool.and_eq_true, beq_iff_eq] at hc
      obtain ⟨⟨⟨h1, h2⟩, h3⟩, h4⟩ := hc
      split at h4
      · rename_i m e hu
        simp only [Bool.and_eq_true, beq_iff_eq] at h4
        obtain ⟨rfl, h5⟩ := h4
        exact op_slb h hop h1 h2 h3 hu h5 hr
      · cases h4
    · cases hc
  | idx y j len n ag =>
    simp only [chkO, chkIdx] at hc
    split at hc
    · rename_i t x i hop
      simp only [Bool.and_eq_true] at hc
      obtain ⟨⟨h1, h2⟩, h3⟩ := hc
      split at h3
      · rename_i m m' e hu
        simp only [Bool.and_eq_true, beq_iff_eq] at h3
        obtain ⟨⟨⟨rfl, h4⟩, h5⟩, h6⟩ := h3
        exact op_idx_arr h hop h1 h2 hu h4 (Nat.pos_of_ne_zero (by simpa using h5)) (by cases ag <;> simpa using h6) hr
      · rename_i hu; exact op_idx_str h hop h1 h2 hu hr
      · cases h3
    · cases hc
  | fld y off n ag =>
    simp only [chkO, chkFld] at hc
    split at hc
    · rename_i t x fi hop
      simp only [Bool.and_eq_true] at hc
      obtain ⟨h1, h3⟩ := hc
      split at h3
      · rename_i fs hu
        split at h3
        · rename_i f hf
          simp only [Bool.and_eq_true, beq_iff_eq] at h3
          exact op_fld h hop h1 hu hf h3.1 (by cases ag <;> simpa using h3.2) hr
        · cases h3
      · cases h3
    · cases hc
  | ext j i =>
    simp only [chkO, chkExt] at hc
    split at hc
    · rename_i t k hop
      simp only [Bool.and_eq_true, beq_iff_eq] at hc
      obtain ⟨rfl, rfl⟩ := hc
      exact op_ext h hop hr
    · cases hc
  | tas y t ok zero =>
    simp only [chkO, chkTas] at hc
    split at hc
    · rename_i x t0 t' ok' hop
      simp only [Bool.and_eq_true, beq_iff_eq] at hc
      obtain ⟨⟨⟨⟨h1, rfl⟩, rfl⟩, h2⟩, h3⟩ := hc
      obtain ⟨d, hd, hn⟩ := plainT_ok h2
      split at h3
      · rename_i z hz; exact op_tas h hop h1 hd hn hz h3 hr
      · cases h3
    · cases hc
  | len st y b =>
    simp only [chkO, chkLen] at hc
    split at hc
    · rename_i xs ts hop
      split at hc
      · rename_i x t hx ht
        rw [arr_eq hx, arr_eq ht] at hop
        simp only [Bool.and_eq_true] at hc
        obtain ⟨h1, h3⟩ := hc
        split at h3
        · rename_i hu; exact op_len h hop h1 (by simpa using hu) hr
        · rename_i e hu; exact op_len h hop h1 (by simpa using ⟨e, hu⟩) hr
        · cases h3
      · cases hc
    · cases hc
  | app sz bytes y1 y2 b =>
    simp only [chkO, chkApp] at hc
    split at hc
    · rename_i xs ts hop
      split at hc
      · rename_i x1 x2 t t2 hx ht
        rw [arr_eq hx, arr_eq ht] at hop
        simp only [Bool.and_eq_true] at hc
        obtain ⟨⟨⟨h1, h2⟩, h3⟩, h4⟩ := hc
        split at h4
        · rename_i e hu
          split at h4
          · rename_i i hi
            simp only [Bool.and_eq_true, beq_iff_eq] at h4
            obtain ⟨⟨h5, h6⟩, h7⟩ := h4
            split at h7
            · rename_i z hz; exact op_app h hop rfl h1 h2 hu h3 hi h5 h6 hz (by simpa using h7) hr
            · cases h7
          · cases h4
        · cases h4
      · cases hc
    · cases hc
  | copy d y1 y2 b =>
    simp only [chkO, chkCopy] at hc
    split at hc
    · rename_i xs ts hop
      split at hc
      · rename_i x1 x2 t t2 hx ht
        rw [arr_eq hx, arr_eq ht] at hop
        simp only [Bool.and_eq_true] at hc
        obtain ⟨⟨h1, h2⟩, h4⟩ := hc
        split at h4
        · rename_i e hu; exact op_copy h hop h1 h2 hu (by simpa using h4) hr
        · cases h4
      · cases hc
    · cases hc
  | min ys =>
    simp only [chkO, chkMin] at hc
    split at hc
    · rename_i xs ts hop; exact op_min h hop hc hr
    · cases hc
  | range y =>
    simp only [chkO, chkRange] at hc
    split at hc
    · rename_i t x hop
      simp only [Bool.and_eq_true] at hc
      obtain ⟨h1, h3⟩ := hc
      split at h3
      · rename_i hu; exact op_range h hop h1 hu hr
      · cases h3
    · cases hc
  | next d =>
    simp only [chkO, chkNext] at hc
    split at hc
    · rename_i t hop; exact op_next h hop (by simpa using hc) hr
    · cases hc
  | pan y =>
    simp only [chkO, chkPan] at hc
    split at hc
    · rename_i x hop; exact op_pan h hop hc hr
    · cases hc
  | _ => cases hc
end
end Go.Am
