/- Arithmetic, comparisons, structs, texts. -/
import Derived.Test.YtbnjembcmddjoaaAm10
import Derived.Laws.StructEq
import Derived.Laws.Concat
import Derived.Laws.BytesString
import Derived.Lib.SmallJoins
import Derived.Lib.Strings
set_option linter.unusedVariables false
set_option linter.unusedSimpArgs false
namespace Go.Am
open Go Go.RowKit

section
variable {P : Program} {a : Act} {o : Oper} {B : Nat} {w : World} {F : Nat → Nat} {ρ : List Nat} {s : St} {rest osT osH : List Nat} {c : CallF} {r : Rs}

theorem bless_eq : ∀ (x y : List UInt8), bless x y = Op.bytesLess x y
  | _, [] => by simp [bless, Op.bytesLess]
  | [], _ :: _ => by simp [bless, Op.bytesLess]
  | a :: x, b :: y => by simp [bless, Op.bytesLess, bless_eq x y]

theorem run_binOp_op {op : BinOp} {t t' : TypeId} {x1 x2 : Operand} (hop : o.op = .binOp op t x1 x2 t') {cv : Value} (hg : ∀ cs ds, a.eval x1 = .agg cs → a.eval x2 = .agg ds → False) (hn : a.eval x1 ≠ .nilIface)
    (hr : (binOp op t (a.eval x1) (a.eval x2)).run P w = .ok cv w) : (execOp a.eval o).run P w = .ok (.value cv) w := by
  have hg' : (eqGuard op t x1 x2 (a.eval x1) (a.eval x2)).run P w = .ok () w := by
    unfold eqGuard
    cases op <;> simp
    all_goals
      generalize h1 : a.eval x1 = v1 at *
      generalize h2 : a.eval x2 = v2 at *
      cases v1 <;> cases v2 <;> first | rfl | exact (hg _ _ rfl rfl).elim | exact (hn rfl).elim
  simp [execOp, hop, hg', hr]

theorem op_bin (h : Sim B a.tmps.toList w F ρ s rest osT osH) {x1 x2 : Operand} {y1 y2 : Src} {op : BinOp} {t t' : TypeId} (hop : o.op = .binOp op t x1 x2 t') (h1 : chkS x1 y1 = true) (h2 : chkS x2 y2 = true)
    (hr : opRes c (nth s.t) s.h (.bin op y1 y2) = some r) : OpOK P a o B w F ρ s rest osT osH r := by
  simp only [opRes] at hr
  cases hb : binV op (Am.ev (nth s.t) y1) (Am.ev (nth s.t) y2) with
  | none => rw [hb] at hr; cases hr
  | some v =>
    rw [hb] at hr
    simp only [Option.some.injEq] at hr
    subst hr
    obtain ⟨os1, r1, _⟩ := h.ev h1
    obtain ⟨os2, r2, _⟩ := h.ev h2
    unfold binV at hb
    split at hb
    · rename_i k m k' n e1 e2
      rw [e1] at r1
      rw [e2] at r2
      have q1 := r1.int_inv
      have q2 := r2.int_inv
      have fin : ∀ cv, (binOp op t (.int k m) (.int k' n)).run P w = .ok cv w → RepD w F cv v → OpOK P a o B w F ρ s rest osT osH (.val [] v s.h) := fun cv hrun hD =>
        OpOK.data h (run_binOp_op hop (by rw [q1]; intro _ _ hh; cases hh) (by rw [q1]; intro hh; cases hh) (by rw [q1, q2]; exact hrun)) hD
      split at hb
      · split at hb
        · rename_i hn
          simp only [Option.some.injEq] at hb
          subst hb
          exact fin _ (by simp [binOp, Op.shift, show ¬ n < 0 by omega]) (.int _ _)
        · cases hb
      · split at hb
        · rename_i hn
          simp only [Option.some.injEq] at hb
          subst hb
          exact fin _ (by simp [binOp, Op.shift, show ¬ n < 0 by omega]) (.int _ _)
        · cases hb
      · rename_i ns1 ns2
        split at hb
        · rename_i hk
          subst hk
          cases op <;> simp only at hb
          case add => simp only [Option.some.injEq] at hb; subst hb; exact fin _ (by simp [binOp, Op.intArith]) (.int _ _)
          case sub => simp only [Option.some.injEq] at hb; subst hb; exact fin _ (by simp [binOp, Op.intArith]) (.int _ _)
          case mul => simp only [Option.some.injEq] at hb; subst hb; exact fin _ (by simp [binOp, Op.intArith]) (.int _ _)
          case quo =>
            split at hb
            · cases hb
            · rename_i hn; simp only [Option.some.injEq] at hb; subst hb; exact fin _ (by simp [binOp, Op.intDiv, hn]) (.int _ _)
          case rem =>
            split at hb
            · cases hb
            · rename_i hn; simp only [Option.some.injEq] at hb; subst hb; exact fin _ (by simp [binOp, Op.intDiv, hn]) (.int _ _)
          case and => simp only [Option.some.injEq] at hb; subst hb; exact fin _ (by simp [binOp, Op.intBits, bits]) (.int _ _)
          case or => simp only [Option.some.injEq] at hb; subst hb; exact fin _ (by simp [binOp, Op.intBits, bits]) (.int _ _)
          case xor => simp only [Option.some.injEq] at hb; subst hb; exact fin _ (by simp [binOp, Op.intBits, bits]) (.int _ _)
          case andNot => simp only [Option.some.injEq] at hb; subst hb; exact fin _ (by simp [binOp, Op.intBits, bits]) (.int _ _)
          case eql => simp only [Option.some.injEq] at hb; subst hb; exact fin _ (by simp [binOp, Op.intCmp]) (.bool _)
          case neq => simp only [Option.some.injEq] at hb; subst hb; exact fin _ (by simp [binOp, Op.intCmp]) (.bool _)
          case lss => simp only [Option.some.injEq] at hb; subst hb; exact fin _ (by simp [binOp, Op.intCmp]) (.bool _)
          case leq => simp only [Option.some.injEq] at hb; subst hb; exact fin _ (by simp [binOp, Op.intCmp]) (.bool _)
          case gtr => simp only [Option.some.injEq] at hb; subst hb; exact fin _ (by simp [binOp, Op.intCmp]) (.bool _)
          case geq => simp only [Option.some.injEq] at hb; subst hb; exact fin _ (by simp [binOp, Op.intCmp]) (.bool _)
          all_goals first | (cases hb; done) | exact (ns1 rfl).elim | exact (ns2 rfl).elim
        · cases hb
    · rename_i l m e1 e2
      rw [e1] at r1
      rw [e2] at r2
      obtain ⟨sa, q1, rfl⟩ := r1.str_inv
      obtain ⟨sb, q2, rfl⟩ := r2.str_inv
      have fin : ∀ cv, (Op.stringOp op sa sb).run P w = .ok cv w → RepD w F cv v → OpOK P a o B w F ρ s rest osT osH (.val [] v s.h) := fun cv hrun hD =>
        OpOK.data h (run_binOp_op hop (by rw [q1]; intro _ _ hh; cases hh) (by rw [q1]; intro hh; cases hh) (by rw [q1, q2]; simp only [binOp]; cases op <;> first | exact hrun | (simp [Op.stringOp] at hrun))) hD
      cases op <;> simp only at hb
      case add =>
        split at hb
        · rename_i hl
          simp only [Option.some.injEq] at hb
          subst hb
          refine fin (.string (sa ++ sb)) (run_string_add_sum w sa sb (by simpa using hl)) (.str _ _ (Joins.data_append sa sb))
        · cases hb
      case eql => simp only [Option.some.injEq] at hb; subst hb; exact fin _ (by simp [Op.stringOp, ByteArray.toList_eq]) (.bool _)
      case neq => simp only [Option.some.injEq] at hb; subst hb; exact fin (.bool (!(sa.data.toList == sb.data.toList))) (by simp [Op.stringOp, ByteArray.toList_eq]) (.bool _)
      case lss => simp only [Option.some.injEq] at hb; subst hb; exact fin _ (by simp [Op.stringOp, ByteArray.toList_eq, bless_eq]) (.bool _)
      case leq => simp only [Option.some.injEq] at hb; subst hb; exact fin (.bool (bless sa.data.toList sb.data.toList || sa.data.toList == sb.data.toList)) (by simp [Op.stringOp, ByteArray.toList_eq, bless_eq]) (.bool _)
      case gtr => simp only [Option.some.injEq] at hb; subst hb; exact fin (.bool (!(bless sa.data.toList sb.data.toList || sa.data.toList == sb.data.toList))) (by simp [Op.stringOp, ByteArray.toList_eq, bless_eq]) (.bool _)
      case geq => simp only [Option.some.injEq] at hb; subst hb; exact fin (.bool (!bless sa.data.toList sb.data.toList)) (by simp [Op.stringOp, ByteArray.toList_eq, bless_eq]) (.bool _)
      all_goals cases hb
    · cases hb

theorem op_beq (h : Sim B a.tmps.toList w F ρ s rest osT osH) {x1 x2 : Operand} {y1 y2 : Src} {ne : Bool} {t t' : TypeId} (hop : o.op = .binOp (if ne then .neq else .eql) t x1 x2 t') (h1 : chkS x1 y1 = true) (h2 : chkS x2 y2 = true)
    (ht : P.underlying t = some .bool) (hr : opRes c (nth s.t) s.h (.beq ne y1 y2) = some r) : OpOK P a o B w F ρ s rest osT osH r := by
  simp only [opRes] at hr
  split at hr
  · rename_i p q e1 e2
    simp only [Option.some.injEq] at hr
    subst hr
    obtain ⟨os1, r1, _⟩ := h.ev h1
    obtain ⟨os2, r2, _⟩ := h.ev h2
    rw [e1] at r1
    rw [e2] at r2
    have q1 := r1.bool_inv
    have q2 := r2.bool_inv
    refine OpOK.data h (cv := .bool (if ne then !(p == q) else p == q)) (run_binOp_op hop (by rw [q1]; intro _ _ hh; cases hh) (by rw [q1]; intro hh; cases hh) ?_) (.bool _)
    rw [q1, q2]
    have := run_equalIn_bool' (P := P) w 9999 t p q ht
    cases ne <;> simp [binOp, Op.equal, Op.maxDepth, this]
  · cases hr

def basicK (P : Program) (t : TypeId) : Nat → Bool
  | 0 => match P.underlying t with | some (.int _) => true | _ => false
  | 1 => match P.underlying t with | some .bool => true | _ => false
  | 2 => match P.underlying t with | some .string => true | _ => false
  | _ => false

def flatF (P : Program) : Nat → List Field → List Nat → Bool
  | _, [], [] => true
  | k, f :: fs, n :: ns => f.offset == k && f.name != "_" && basicK P f.type n && flatF P (k + 1) fs ns
  | _, _, _ => false

theorem basicK_one {t : TypeId} {n : Nat} (h : basicK P t n = true) : oneT P t = true := by
  unfold basicK at h
  unfold oneT
  split at h <;> (try cases h) <;> (split at h <;> first | (cases h; done) | (rename_i hu; rw [hu]))

theorem run_part {t : TypeId} {cs : Array Value} {off : Nat} {v : Value} (h : oneT P t = true) (hc : cs[off]? = some v) : (part t cs off).run P w = .ok v w := by
  simp [part, run_isAgg_one h, hc]

theorem run_eqFields (d : Nat) (xs ys : Array Value) : ∀ (fs : List Field) (ks : List Nat) (k : Nat) (as bs : List V) (r : Bool), flatF P k fs ks = true → eqL ks as bs = some r →
    (∀ j, j < as.length → ∃ cv, xs[k + j]? = some cv ∧ RepD w F cv (nth as j)) → (∀ j, j < bs.length → ∃ cv, ys[k + j]? = some cv ∧ RepD w F cv (nth bs j)) →
    (Op.eqFields (d + 1) xs ys fs).run P w = .ok r w
  | [], [], k, as, bs, r, _, he, _, _ => by
    cases as <;> cases bs <;> simp [eqL] at he
    subst he
    simp [Op.eqFields]
  | f :: fs, n :: ks, k, as, bs, r, hf, he, hx, hy => by
    cases as with
    | nil => simp [eqL] at he
    | cons p as =>
      cases bs with
      | nil => simp [eqL] at he
      | cons q bs =>
        simp only [flatF, Bool.and_eq_true, beq_iff_eq, bne_iff_ne] at hf
        obtain ⟨⟨⟨f1, f2⟩, f3⟩, f4⟩ := hf
        simp only [eqL] at he
        cases h1 : eq1 n p q with
        | none => rw [h1] at he; cases he
        | some u =>
          rw [h1] at he
          cases h2 : eqL ks as bs with
          | none => rw [h2] at he; cases he
          | some v =>
            rw [h2] at he
            simp only [Option.some.injEq] at he
            obtain ⟨c1, c2, c3⟩ := hx 0 (by simp)
            obtain ⟨d1, d2, d3⟩ := hy 0 (by simp)
            simp only [Nat.add_zero, nth] at c2 c3 d2 d3
            have ih := run_eqFields d xs ys fs ks (k + 1) as bs v f4 h2 (fun j hj => by have := hx (j + 1) (by simpa using hj); rwa [show k + (j + 1) = k + 1 + j by omega] at this)
              (fun j hj => by have := hy (j + 1) (by simpa using hj); rwa [show k + (j + 1) = k + 1 + j by omega] at this)
            have hone := basicK_one f3
            have heq : (Op.equalIn (d + 1) f.type c1 d1).run P w = .ok u w := by
              unfold eq1 at h1
              split at h1
              · split at h1
                · rename_i hk
                  subst hk
                  simp only [Option.some.injEq] at h1
                  subst h1
                  cases c3
                  cases d3
                  simp only [basicK] at f3
                  split at f3
                  · rename_i hu; exact run_equalIn_int w d f.type _ _ _ _ hu
                  · cases f3
                · cases h1
              · simp only [Option.some.injEq] at h1
                subst h1
                cases c3
                cases d3
                simp only [basicK] at f3
                split at f3
                · rename_i hu; exact run_equalIn_bool' w d f.type _ _ hu
                · cases f3
              · simp only [Option.some.injEq] at h1
                subst h1
                cases c3 with | str s1 _ g1 =>
                cases d3 with | str s2 _ g2 =>
                subst g1
                subst g2
                simp only [basicK] at f3
                split at f3
                · rename_i hu; rw [run_equalIn_string w d f.type _ _ hu, ByteArray.toList_eq, ByteArray.toList_eq]
                · cases f3
              · cases h1
            subst f1
            simp only [Op.eqFields, f2, ne_eq, not_false_eq_true, if_true, Sem.run_bind, run_part hone c2, run_part hone d2, Result.andThen_ok, heq]
            cases u
            · simp at he; subst he; simp
            · simp at he; subst he; simpa using ih
  | [], _ :: _, _, _, _, _, h, _, _, _ => by cases h
  | _ :: _, [], _, _, _, _, h, _, _, _ => by cases h

theorem op_eqs (h : Sim B a.tmps.toList w F ρ s rest osT osH) {x1 x2 : Operand} {y1 y2 : Src} {ne : Bool} {ks : List Nat} {t t' : TypeId} {fs : Array Field} (hop : o.op = .binOp (if ne then .neq else .eql) t x1 x2 t')
    (h1 : chkS x1 y1 = true) (h2 : chkS x2 y2 = true) (ht : P.underlying t = some (.struct fs)) (hp : P.stoodInHeld t = false) (hg : P.eqGuardType P.depth t = false) (hf : flatF P 0 fs.toList ks = true)
    (hr : opRes c (nth s.t) s.h (.eqs ne ks y1 y2) = some r) : OpOK P a o B w F ρ s rest osT osH r := by
  simp only [opRes] at hr
  split at hr
  · rename_i as bs e1 e2
    cases he : eqL ks as bs with
    | none => rw [he] at hr; cases hr
    | some u =>
      rw [he] at hr
      simp only [Option.some.injEq] at hr
      subst hr
      obtain ⟨os1, r1, _⟩ := h.ev h1
      obtain ⟨os2, r2, _⟩ := h.ev h2
      rw [e1] at r1
      rw [e2] at r2
      obtain ⟨xs, q1, z1, _, c1⟩ := r1.agg_inv
      obtain ⟨ys, q2, z2, _, c2⟩ := r2.agg_inv
      have hfo : P.fieldsOf t = fs := by simp [Program.fieldsOf, ht]
      have hrun : (Op.equalIn 10000 t (.agg xs) (.agg ys)).run P w = .ok u w := by
        have := run_equalIn_struct (P := P) w 9999 t xs ys (by rw [hfo]; exact ht) hp
        rw [this, hfo]
        refine run_eqFields (F := F) 9998 xs ys fs.toList ks 0 as bs u hf he (fun j hj => ⟨xs[j]'(by omega), by simp [show j < xs.size by omega], c1 j (by omega)⟩) (fun j hj => ⟨ys[j]'(by omega), by simp [show j < ys.size by omega], c2 j (by omega)⟩)
      refine OpOK.data h (cv := .bool (if ne then !u else u)) ?_ (.bool _)
      have hgd := run_eqGuard_agg (P := P) w (if ne then .neq else .eql) t x1 x2 xs ys hg
      have hbo : (binOp (if ne then .neq else .eql) t (.agg xs) (.agg ys)).run P w = .ok (.bool (if ne then !u else u)) w := by
        cases ne
        · simp [run_eql_struct, hrun]
        · simp [run_neq_struct, hrun]
      simp [execOp, hop, q1, q2, hgd, hbo]
  · cases hr
end
end Go.Am
