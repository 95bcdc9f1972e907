/- Parts of slices and strings, the least of some, ranges over strings. -/
import Derived.Test.YtbnjembcmddjoaaAm15
set_option linter.unusedVariables false
set_option linter.unusedSimpArgs false
namespace Go.Am
open Go Go.RowKit

def chkSO : Option Operand → Option Src → Bool
  | none, none => true
  | some x, some y => chkS x y
  | _, _ => false

def chkSL : List Operand → List Src → Bool
  | [], [] => true
  | x :: xs, y :: ys => chkS x y && chkSL xs ys
  | _, _ => false

theorem run_sliceBound {P : Program} {w : World} {x : Value} {k : IntKind} {n : Int} {m : Nat} {code : BoundsCode} (hx : x = .int k n) (h0 : 0 ≤ n) (h1 : n ≤ (m : Int)) : (Instr.sliceBound x m code).run P w = .ok n.toNat w := by
  subst hx
  simp [Instr.sliceBound, asIntOf, h0, h1]

section
variable {P : Program} {a : Act} {o : Oper} {B : Nat} {w : World} {F : Nat → Nat} {ρ : List Nat} {s : St} {rest osT osH : List Nat} {c : CallF} {r : Rs}

theorem Sim.bound (h : Sim B a.tmps.toList w F ρ s rest osT osH) {x : Option Operand} {y : Option Src} (hc : chkSO x y = true) {d n : Int} (hv : bound (nth s.t) y d = some n) :
    (x = none ∧ y = none ∧ n = d) ∨ ∃ x', x = some x' ∧ y.isSome = true ∧ ∃ k, a.eval x' = .int k n := by
  cases x with
  | none => cases y with
    | none => simp only [Am.bound, Option.some.injEq] at hv; exact .inl ⟨rfl, rfl, hv.symm⟩
    | some y => cases hc
  | some x => cases y with
    | none => cases hc
    | some y => exact .inr ⟨x, rfl, rfl, h.int hc hv⟩

theorem run_sliceBounds2 {isS : Bool} {len cap : Nat} {lo hi : Option Value} {l r : Int} (h0 : 0 ≤ l) (h1 : l ≤ r) (h2 : r ≤ (len : Int)) (hlc : len ≤ cap)
    (hlo : (lo = none ∧ l = 0) ∨ ∃ k, lo = some (.int k l)) (hhi : (hi = none ∧ r = (len : Int)) ∨ ∃ k, hi = some (.int k r)) : (Instr.sliceBounds isS len cap lo hi none).run P w = .ok (l.toNat, r.toNat, cap) w := by
  have hr : ∀ m : Nat, r ≤ (m : Int) → l ≤ ((r.toNat : Nat) : Int) := fun m _ => by omega
  rcases hhi with ⟨rfl, rfl⟩ | ⟨k, rfl⟩
  · rcases hlo with ⟨rfl, rfl⟩ | ⟨k', rfl⟩
    · simp [Instr.sliceBounds]
    · simp [Instr.sliceBounds, run_sliceBound (P := P) (w := w) rfl h0 h1]
  · have hb : ∀ code, (Instr.sliceBound (.int k r) cap code).run P w = .ok r.toNat w := fun code => run_sliceBound rfl (by omega) (by omega)
    rcases hlo with ⟨rfl, rfl⟩ | ⟨k', rfl⟩
    · cases isS <;> simp [Instr.sliceBounds, hb]
    · have hb2 : ∀ code, (Instr.sliceBound (.int k' l) r.toNat code).run P w = .ok l.toNat w := fun code => run_sliceBound rfl h0 (by omega)
      cases isS <;> simp [Instr.sliceBounds, hb, hb2]

theorem run_sliceBounds3 {len cap : Nat} {lo hi : Option Value} {l r m : Int} {km : IntKind} (h0 : 0 ≤ l) (h1 : l ≤ r) (h2 : r ≤ m) (h3 : m ≤ (cap : Int))
    (hlo : (lo = none ∧ l = 0) ∨ ∃ k, lo = some (.int k l)) (hhi : ∃ k, hi = some (.int k r)) : (Instr.sliceBounds true len cap lo hi (some (.int km m))).run P w = .ok (l.toNat, r.toNat, m.toNat) w := by
  have hm : ∀ code, (Instr.sliceBound (.int km m) cap code).run P w = .ok m.toNat w := fun code => run_sliceBound rfl (by omega) h3
  obtain ⟨k, rfl⟩ := hhi
  have hb : ∀ code, (Instr.sliceBound (.int k r) m.toNat code).run P w = .ok r.toNat w := fun code => run_sliceBound rfl (by omega) (by omega)
  rcases hlo with ⟨rfl, rfl⟩ | ⟨k', rfl⟩
  · simp [Instr.sliceBounds, hm, hb]
  · have hb2 : ∀ code, (Instr.sliceBound (.int k' l) r.toNat code).run P w = .ok l.toNat w := fun code => run_sliceBound rfl h0 (by omega)
    simp [Instr.sliceBounds, hm, hb, hb2]

theorem RepD.sub {b off len sz l r m : Nat} {xs : List V} {cvf : Nat → Nat → Value} (hl : len = xs.length) (hoff : off + xs.length * sz ≤ F b) (he : ∀ i, i < xs.length → (nth xs i).cells.length = sz ∧ (nth xs i).data = true)
    (hc : ∀ i j, i < xs.length → j < sz → w.cell? ⟨b, off + i * sz + j, none⟩ = some (cvf i j)) (h1 : ∀ i j, i < xs.length → j < sz → (nth (nth xs i).cells j).one = true)
    (hd : ∀ i j, i < xs.length → j < sz → RepD w F (cvf i j) (nth (nth xs i).cells j)) (hlr : l ≤ r) (hrl : r ≤ xs.length) (hrm : r ≤ m) :
    RepD w F (.slice (some (if m = l then ⟨b, off, none⟩ else ⟨b, off + l * sz, none⟩)) (r - l) (m - l)) (.sl false sz ((xs.take r).drop l)) := by
  have hlen : ((xs.take r).drop l).length = r - l := by simp; omega
  have hn : ∀ i, i < r - l → nth ((xs.take r).drop l) i = nth xs (l + i) := fun i hi => by rw [nth_drop, nth_take _ _ _ (by omega)]
  have hls := Nat.mul_le_mul_right sz (show l ≤ xs.length by omega)
  split
  · rename_i hml
    refine .sl b off _ _ sz _ (fun i j => cvf (l + i) j) hlen.symm (by omega) (by rw [hlen, show r - l = 0 by omega]; omega) (fun i hi => by rw [hlen] at hi; omega) (fun i j hi _ => by rw [hlen] at hi; omega) (fun i j hi _ => by rw [hlen] at hi; omega) (fun i j hi _ => by rw [hlen] at hi; omega)
  · refine .sl b (off + l * sz) _ _ sz _ (fun i j => cvf (l + i) j) hlen.symm (by omega) ?_ (fun i hi => ?_) (fun i j hi hj => ?_) (fun i j hi hj => ?_) (fun i j hi hj => ?_)
    · rw [hlen]
      have := Nat.mul_le_mul_right sz hrl
      have e : (r - l) * sz + l * sz = r * sz := by rw [← Nat.add_mul, Nat.sub_add_cancel hlr]
      omega
    · rw [hlen] at hi; rw [hn i hi]; exact he _ (by omega)
    · rw [hlen] at hi
      have := hc (l + i) j (by omega) hj
      rw [Nat.add_mul, ← Nat.add_assoc] at this
      exact this
    · rw [hlen] at hi; rw [hn i hi]; exact h1 _ _ (by omega) hj
    · rw [hlen] at hi; rw [hn i hi]; exact hd _ _ (by omega) hj

theorem op_slc_str (h : Sim B a.tmps.toList w F ρ s rest osT osH) {x : Operand} {y : Src} {t : TypeId} {lo hi mx : Option Operand} {ylo yhi ymx : Option Src} (hop : o.op = .slice t x lo hi mx) (hc : chkS x y = true) (hlo : chkSO lo ylo = true) (hhi : chkSO hi yhi = true) (hmx : chkSO mx ymx = true)
    (hu : P.underlying t = some .string) (hr : opRes c (nth s.t) s.h (.slc none y ylo yhi ymx) = some r) : OpOK P a o B w F ρ s rest osT osH r := by
  simp only [opRes] at hr
  split at hr
  · rename_i l he _
    obtain ⟨os, hrep, _⟩ := h.ev hc
    rw [he] at hrep
    obtain ⟨sb, hx, rfl⟩ := hrep.str_inv
    split at hr
    · rename_i l1 r1 e1 e2
      split at hr
      · rename_i hk
        obtain ⟨k1, k2, k3⟩ := hk
        simp only [Option.some.injEq] at hr
        subst hr
        have hmn : mx = none := by cases mx with | none => rfl | some _ => cases hmx
        subst hmn
        have k3' : r1 ≤ (sb.size : Int) := k3
        have hb := run_sliceBounds2 (P := P) (w := w) (isS := false) (len := sb.size) (cap := sb.size) (lo := lo.map a.eval) (hi := hi.map a.eval) k1 k2 k3' (Nat.le_refl _)
          (by rcases h.bound hlo e1 with ⟨p, _, q⟩ | ⟨x', p, _, k, q⟩
              · exact .inl ⟨by rw [p]; rfl, q⟩
              · exact .inr ⟨k, by rw [p, ← q]; rfl⟩)
          (by rcases h.bound hhi e2 with ⟨p, _, q⟩ | ⟨x', p, _, k, q⟩
              · exact .inl ⟨by rw [p]; rfl, q⟩
              · exact .inr ⟨k, by rw [p, ← q]; rfl⟩)
        refine OpOK.data h (cv := .string (sb.extract l1.toNat r1.toNat)) ?_ (.str _ _ ?_)
        · simp [execOp, hop, hx, Instr.sliceAt, Instr.slice, run_under hu, hb]
        · rw [ByteArray.data_extract, Array.toList_extract, List.extract_eq_take_drop, List.drop_take]
      · cases hr
    · cases hr
  · rename_i hh; cases hh
  · cases hr

theorem op_slc (h : Sim B a.tmps.toList w F ρ s rest osT osH) {x : Operand} {y : Src} {t e : TypeId} {sz : Nat} {lo hi mx : Option Operand} {ylo yhi ymx : Option Src} (hop : o.op = .slice t x lo hi mx) (hc : chkS x y = true) (hlo : chkSO lo ylo = true) (hhi : chkSO hi yhi = true) (hmx : chkSO mx ymx = true)
    (hu : P.underlying t = some (.slice e)) (hs : szT P e = some sz) (hr : opRes c (nth s.t) s.h (.slc (some sz) y ylo yhi ymx) = some r) : OpOK P a o B w F ρ s rest osT osH r := by
  simp only [opRes] at hr
  split at hr
  · rename_i hh; cases hh
  · rename_i sz' xs sz'' he hh
    simp only [Option.some.injEq] at hh
    subst hh
    obtain ⟨os, hrep, _⟩ := h.ev hc
    rw [he] at hrep
    split at hr
    · rename_i l1 r1 m1 e1 e2 e3
      split at hr
      · rename_i hk
        obtain ⟨rfl, k1, k2, k3, k4, k5⟩ := hk
        simp only [Option.some.injEq] at hr
        subst hr
        have hlo' : (lo.map a.eval = none ∧ l1 = 0) ∨ ∃ k, lo.map a.eval = some (.int k l1) := by
          rcases h.bound hlo e1 with ⟨p, _, q⟩ | ⟨x', p, _, k, q⟩
          · exact .inl ⟨by rw [p]; rfl, q⟩
          · exact .inr ⟨k, by rw [p, ← q]; rfl⟩
        have hhi' : (hi.map a.eval = none ∧ r1 = (xs.length : Int)) ∨ ∃ k, hi.map a.eval = some (.int k r1) := by
          rcases h.bound hhi e2 with ⟨p, _, q⟩ | ⟨x', p, _, k, q⟩
          · exact .inl ⟨by rw [p]; rfl, q⟩
          · exact .inr ⟨k, by rw [p, ← q]; rfl⟩
        have hb : ∀ cap, xs.length ≤ cap → ∃ m : Nat, r1.toNat ≤ m ∧ (Instr.sliceBounds true xs.length cap (lo.map a.eval) (hi.map a.eval) (mx.map a.eval)).run P w = .ok (l1.toNat, r1.toNat, m) w := by
          intro cap hcap
          rcases h.bound hmx e3 with ⟨p, _, q⟩ | ⟨x', p, hy, k, q⟩
          · refine ⟨cap, by omega, ?_⟩
            rw [p]
            exact run_sliceBounds2 k1 k2 (by omega) hcap hlo' hhi'
          · refine ⟨m1.toNat, by omega, ?_⟩
            rw [p]
            simp only [Option.map_some, q]
            refine run_sliceBounds3 k1 k2 k3 (by omega) hlo' ?_
            rcases hhi' with ⟨p', _⟩ | hh
            · have hin : hi = none := by cases hi with | none => rfl | some _ => cases p'
              have : yhi = none := by rw [hin] at hhi; cases yhi with | none => rfl | some _ => cases hhi
              have := k5 this
              rw [this] at hy
              cases hy
            · exact hh
        have hlr : l1.toNat ≤ r1.toNat := by omega
        have hrl : r1.toNat ≤ xs.length := by omega
        rcases sl_inv (hrep.data rfl) with ⟨⟨p0, hx⟩, rfl⟩ | ⟨b, off, cap, cvf, hx, g2, g3, g4, g5, g6, g7⟩
        · obtain ⟨m, hm, hbb⟩ := hb 0 (Nat.le_refl _)
          simp only [List.length_nil] at hrl hbb
          have e1 : r1.toNat = 0 := by omega
          have e2 : l1.toNat = 0 := by omega
          have em : m = 0 := by
            have h1 : m ≤ 0 := by
              rcases h.bound hmx e3 with ⟨p, _, q⟩ | ⟨x', p, hy, k, q⟩
              · rw [p] at hbb
                have := run_sliceBounds2 (P := P) (w := w) (isS := true) (len := 0) (cap := 0) k1 k2 (by simp at k4; omega) (Nat.le_refl _) hlo' hhi'
                simp only [Option.map_none] at hbb
                rw [this] at hbb
                simp only [Result.ok.injEq, Prod.mk.injEq, and_true] at hbb
                omega
              · rw [p] at hbb
                simp only [Option.map_some, q] at hbb
                simp only [List.length_nil] at k4
                have := run_sliceBounds3 (P := P) (w := w) (len := 0) (cap := 0) (km := k) k1 k2 k3 k4 hlo' (by
                  rcases hhi' with ⟨p', _⟩ | hh
                  · have hin : hi = none := by cases hi with | none => rfl | some _ => cases p'
                    have : yhi = none := by rw [hin] at hhi; cases yhi with | none => rfl | some _ => cases hhi
                    have := k5 this
                    rw [this] at hy
                    cases hy
                  · exact hh)
                rw [this] at hbb
                simp only [Result.ok.injEq, Prod.mk.injEq, and_true] at hbb
                omega
            omega
          rw [e1, e2, em] at hbb
          refine OpOK.data h (cv := .slice p0 0 0) ?_ (by simp; exact .slnil _ _)
          simp [execOp, hop, hx, Instr.sliceAt, Instr.slice, run_under hu, hbb, run_sizeOf hs]
        · obtain ⟨m, hm, hbb⟩ := hb cap g2
          refine OpOK.data h (cv := .slice (some (if m = l1.toNat then ⟨b, off, none⟩ else ⟨b, off + l1.toNat * sz', none⟩)) (r1.toNat - l1.toNat) (m - l1.toNat)) ?_ (RepD.sub rfl g3 g4 g5 g6 g7 hlr hrl hm)
          simp only [execOp, hop, hx, Instr.sliceAt, Instr.slice, Sem.run_bind, run_under hu, Result.andThen_ok, hbb, run_sizeOf hs, Sem.run_pure, Option.map_some, addr_add]
          split <;> simp
      · cases hr
    · cases hr
  · cases hr

theorem ints_ok (h : Sim B a.tmps.toList w F ρ s rest osT osH) : ∀ {xs : List Operand} {ys : List Src}, chkSL xs ys = true → ∀ {k : IntKind} {ns : List Int}, ints (nth s.t) ys = some (k, ns) → ns ≠ [] → xs.map a.eval = ns.map (Value.int k)
  | [], [], _, k, ns, hi, hn => by simp only [ints, Option.some.injEq, Prod.mk.injEq] at hi; exact (hn hi.2.symm).elim
  | [x], [y], hc, k, ns, hi, hn => by
    simp only [chkSL, Bool.and_true] at hc
    simp only [ints] at hi
    split at hi
    · rename_i k' n he
      simp only [Option.some.injEq, Prod.mk.injEq] at hi
      obtain ⟨rfl, rfl⟩ := hi
      simp [h.int' hc he]
    · cases hi
  | x :: x2 :: xs, y :: y2 :: ys, hc, k, ns, hi, hn => by
    rw [chkSL, Bool.and_eq_true] at hc
    simp only [ints] at hi
    split at hi
    · rename_i k1 n k2 ns' he hr
      split at hi
      · rename_i hk
        subst hk
        simp only [Option.some.injEq, Prod.mk.injEq] at hi
        obtain ⟨rfl, rfl⟩ := hi
        have hne : ns' ≠ [] := by
          rintro rfl
          cases ys with
          | nil =>
            simp only [ints] at hr
            split at hr <;> simp at hr
          | cons y3 ys =>
            simp only [ints] at hr
            split at hr
            · split at hr
              · simp at hr
              · cases hr
            · cases hr
        have := ints_ok h hc.2 hr hne
        rw [List.map_cons, this, h.int' hc.1 he]
        rfl
      · cases hi
    · cases hi
  | [], _ :: _, hc, _, _, _, _ => by cases hc
  | _ :: _, [], hc, _, _, _, _ => by cases hc
  | [_], _ :: _ :: _, hc, _, _, _, _ => by simp [chkSL] at hc
  | _ :: _ :: _, [_], hc, _, _, _, _ => by simp [chkSL] at hc

theorem run_min {k : IntKind} : ∀ (ns : List Int) (m : Int), ((ns.map (Value.int k)).foldlM Builtin.min2 (.int k m)).run P w = .ok (.int k (ns.foldl (fun a b => if b < a then b else a) m)) w
  | [], m => by simp
  | n :: ns, m => by
    simp only [List.map_cons, List.foldlM_cons, List.foldl_cons, Sem.run_bind, Builtin.min2, Sem.run_pure, Result.andThen_ok]
    exact run_min ns _

theorem op_min (h : Sim B a.tmps.toList w F ρ s rest osT osH) {xs : Array Operand} {ts : Array TypeId} {ys : List Src} (hop : o.op = .call ⟨.builtin .min, xs, ts⟩) (hc : chkSL xs.toList ys = true)
    (hr : opRes c (nth s.t) s.h (.min ys) = some r) : OpOK P a o B w F ρ s rest osT osH r := by
  simp only [opRes] at hr
  split at hr
  · rename_i k ns hi
    split at hr
    · rename_i m hm
      simp only [Option.some.injEq] at hr
      subst hr
      cases ns with
      | nil => cases hm
      | cons n ns =>
        simp only [minL, Option.some.injEq] at hm
        subst hm
        have := ints_ok h hc hi (by simp)
        refine OpOK.data h (cv := .int k _) ?_ (.int _ _)
        have e : (xs.map a.eval).toList = Value.int k n :: ns.map (Value.int k) := by simpa using this
        have hm : (Builtin.min_ ts o.type (xs.map a.eval)).run P w = .ok (.int k (ns.foldl (fun a b => if b < a then b else a) n)) w := by
          unfold Builtin.min_
          rw [e]
          exact run_min ns n
        simp [execOp, hop, resolve, invoke, builtin, hm]
    · cases hr
  · cases hr

theorem op_range (h : Sim B a.tmps.toList w F ρ s rest osT osH) {x : Operand} {y : Src} {t : TypeId} (hop : o.op = .range t x) (hc : chkS x y = true) (hu : P.underlying t = some .string)
    (hr : opRes c (nth s.t) s.h (.range y) = some r) : OpOK P a o B w F ρ s rest osT osH r := by
  simp only [opRes] at hr
  split at hr
  · rename_i l he
    simp only [Option.some.injEq] at hr
    subst hr
    obtain ⟨os, hrep, _⟩ := h.ev hc
    rw [he] at hrep
    obtain ⟨sb, hx, rfl⟩ := hrep.str_inv
    exact OpOK.new h (cv := .pointer (some ⟨w.heap.size, 0, none⟩)) (ob := .stringIter sb 0) (k := 0) (osV := [w.heap.size]) (by simp [execOp, hop, hx, Instr.range, run_under hu])
      (.iter _ sb _ _ (setF_self F _ _) rfl (heap_alloc_new w _)) rfl (.inr ⟨rfl, rfl⟩)
  · cases hr

/-- An iterator goes on. -/
theorem Ext.setIter {blk : Nat} {ob : Obj} (hB : B ≤ blk) (h0 : F blk = 0) (hf : ∀ b, w.heap.size ≤ b → F b = 0) :
    Ext B w F { w with heap := w.heap.setIfInBounds blk ob } F (fun b => b = blk) := by
  have hother : ∀ k, k ≠ blk → (w.heap.setIfInBounds blk ob)[k]? = w.heap[k]? := fun k hk => Array.getElem?_setIfInBounds_ne (Ne.symm hk)
  refine ⟨⟨rfl, rfl, rfl, by simp, fun k hk => hother k (by omega)⟩, by simp, fun b o ho => cell_of_block (hother b ?_), fun _ => Nat.le_refl _, fun b hb _ => ⟨hother b hb, rfl⟩, fun b hb => hf b (by simpa using hb)⟩
  rintro rfl
  rw [h0] at ho
  omega

theorem op_next (h : Sim B a.tmps.toList w F ρ s rest osT osH) {d d' : Nat} (hop : o.op = .next (.tmp d) true) (hdd : d' = d)
    (hr : opRes c (nth s.t) s.h (.next d') = some r) : OpOK P a o B w F ρ s rest osT osH r := by
  subst hdd
  simp only [opRes] at hr
  split at hr
  · rename_i l pos he
    have hi : d' < s.t.length := nth_lt (fun hh => by rw [hh] at he; cases he)
    obtain ⟨cv, o1, od, o2, g1, g2, g3, g4⟩ := h.tmps.at hi
    rw [he] at g3
    have hx := eval_tmp a rfl d' g1
    cases g3 with
    | e _ _ _ g3 => cases g3 with | d _ _ g3 => cases g3
    | iter b sb _ _ f1 f2 f3 =>
      have hbT : b ∈ osT := by rw [g2]; simp
      have hinb := h.inb b (by simp [hbT])
      have hget : (getObj b).run P w = .ok (.stringIter sb pos) w := by simp [getObj, Sem.run, f3]
      have hl : l.length = sb.size := by rw [← f2]; rfl
      have hbytes : (⟨l.toArray⟩ : ByteArray) = sb := by subst f2; simp
      split at hr
      · rename_i hp
        simp only [Option.some.injEq] at hr
        subst hr
        have hset : ∀ ob, (setObj b ob).run P w = .ok () { w with heap := w.heap.setIfInBounds b ob } := fun ob => by simp [setObj, Sem.run, f3]
        rw [hbytes]
        have hE := Ext.setIter (B := B) (w := w) (F := F) (ob := .stringIter sb (pos + (Utf8.decode sb pos).2)) hinb.1 hinb.2.2 h.fresh
        have hone := h.once b
        rw [g2] at hone
        simp only [List.count_append, List.count_cons_self, List.count_nil] at hone
        have hlt : b < w.heap.size := hinb.2.1
        have hT := g4 (RepV { w with heap := w.heap.setIfInBounds b (.stringIter sb (pos + (Utf8.decode sb pos).2)) } F ρ) (.pointer (some ⟨b, 0, none⟩)) (.iter l (pos + (Utf8.decode sb pos).2)) [b]
          (fun cv v o r hm => r.ext hE (fun _ _ x => x)
            (fun x hx => (h.inb x (by rw [g2]; have := hm x hx; simp only [List.mem_append] at this ⊢; rcases this with y | y <;> simp [y])).2.1)
            (fun x hxo hxb => by
              subst hxb
              have := List.count_pos_iff.2 (hm x hxo)
              simp only [List.count_append] at this
              omega)) (.iter _ sb _ _ f1 f2 (by simp [hlt]))
        rw [← g2] at hT
        have e0 : a.tmps.toList.set d' (.pointer (some ⟨b, 0, none⟩)) = a.tmps.toList := list_set_self g1
        rw [e0] at hT
        refine ⟨.tuple #[.bool true, .int .i64 pos, .int .i32 (Utf8.decode sb pos).1], _, F, ρ, osT, osH, [], .inl ?_, hE.weaken (fun x _ hx => by subst hx; simp [hbT]), fun _ _ x => x,
          ⟨hT, h.heap.ext hE (fun x hxo hxb => ?_), h.alias.view (fl := false) rfl (.inr ⟨(fun ⟨cs, hh⟩ => by rw [he] at hh; cases hh), (fun ⟨sz, xs, hh⟩ => by rw [he] at hh; cases hh)⟩), ?_, trivial, fun x => ?_, fun x hx => ?_, hE.fresh, Nat.le_trans h.base hE.size⟩, fun x hx => .inl (by simpa using hx)⟩
        · have hp' : pos < sb.size := by omega
          simp [execOp, hop, hx, Instr.next, hget, hp', hset, goInt]
        · subst hxb
          have := List.count_pos_iff.2 hxo
          omega
        · refine .tup [.bool true, .int .i64 pos, .int .i32 (Utf8.decode sb pos).1] _ [] ?_
          exact .cons _ _ _ _ [] [] (.d _ _ (.bool _)) (.cons _ _ _ _ [] [] (.d _ _ (.int _ _)) (.cons _ _ _ _ [] [] (.d _ _ (.int _ _)) .nil))
        · simpa using h.once x
        · obtain ⟨b1, b2, b3⟩ := h.inb x (by simpa using hx)
          exact ⟨b1, Nat.lt_of_lt_of_le b2 hE.size, b3⟩
      · rename_i hp
        simp only [Option.some.injEq] at hr
        subst hr
        have hp' : ¬ pos < sb.size := by omega
        refine ⟨.tuple #[.bool false], w, F, ρ, osT, osH, [], .inl ?_, Ext.refl h.fresh, fun _ _ x => x, h.val ?_ trivial, fun x hx => .inl (by simpa using hx)⟩
        · simp [execOp, hop, hx, Instr.next, hget, hp']
        · exact .tup [.bool false] _ [] (.cons _ _ _ _ [] [] (.d _ _ (.bool _)) .nil)
  · cases hr
end
end Go.Am
