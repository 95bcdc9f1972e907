/- The rules by which a run of the abstract machine is reckoned, as a set for simp (go_sem). -/
import Derived.Test.YtbnjembcmddjoaaAm2
import Derived.Attr
namespace Go.Am

section
variable {M : Mach} {k : List It} {s : St} {Q : Ex → St → Prop}

theorem run_loop_pre {m : List Bool} {a : AC} : Run M (.c (.loop (.pre m a)) :: k) .norm s Q ↔ Run M (.c a :: .lp (.pre m a) :: k) .norm { s with t := killM m m s.t } Q := by
  rw [run_loop, run_pre]

def RunC (M : Mach) (v : V) (a b : AC) (k : List It) (s : St) (Q : Ex → St → Prop) : Prop :=
  match v with
  | .bool t => if t = true then Run M (.c a :: k) .norm s Q else Run M (.c b :: k) .norm s Q
  | _ => False

theorem run_condC {c : Src} {a b : AC} : Run M (.c (.cond c a b) :: k) .norm s Q ↔ RunC M (ev (nth s.t) c) a b k s Q := by
  cases h : ev (nth s.t) c with
  | bool t => exact run_cond h
  | _ =>
    unfold RunC
    rw [run_c]
    constructor
    · rintro ⟨e, s', ⟨n, hn⟩, -⟩
      simp [evC, h] at hn
    · exact False.elim

theorem runC_bool {t : Bool} {a b : AC} : RunC M (.bool t) a b k s Q ↔ if t = true then Run M (.c a :: k) .norm s Q else Run M (.c b :: k) .norm s Q := Iff.rfl
theorem runC_true {a b : AC} : RunC M (.bool true) a b k s Q ↔ Run M (.c a :: k) .norm s Q := Iff.rfl
theorem runC_false {a b : AC} : RunC M (.bool false) a b k s Q ↔ Run M (.c b :: k) .norm s Q := by simp [runC_bool]

theorem runO_one {i : AI} {ops : List AI} : RunO M (i :: ops) k s Q ↔ RunS M (stepI (acall M) i s) ops k Q := runO_cons

theorem stepI_plain {c : CallF} {d : Option Nat} {op : AOp} : stepI c ⟨d, op, none⟩ s = stepR d s (opRes c (nth s.t) s.h op) := rfl

def guarded (c : CallF) (v : V) (d : Option Nat) (op : AOp) (want : Bool) (s : St) : Option (Ex × St) :=
  match v with
  | .bool b => if b = want then stepR d s (opRes c (nth s.t) s.h op) else stepR d s (some (.val [] (.tup []) s.h))
  | .tup [] => stepR d s (some (.val [] (.tup []) s.h))
  | _ => none
theorem stepI_guarded {c : CallF} {d : Option Nat} {op : AOp} {g : Nat} {want : Bool} : stepI c ⟨d, op, some (g, want)⟩ s = guarded c (nth s.t g) d op want s := rfl
theorem guarded_bool {c : CallF} {d : Option Nat} {op : AOp} {b want : Bool} : guarded c (.bool b) d op want s = if b = want then stepR d s (opRes c (nth s.t) s.h op) else stepR d s (some (.val [] (.tup []) s.h)) := rfl
theorem guarded_tup {c : CallF} {d : Option Nat} {op : AOp} {want : Bool} : guarded c (.tup []) d op want s = stepR d s (some (.val [] (.tup []) s.h)) := rfl

theorem stepR_none {d : Option Nat} : stepR d s none = none := rfl
theorem stepR_pan {d : Option Nat} {v : V} {h : Heap} : stepR d s (some (.pan v h)) = some (.pan v, ⟨s.t, h⟩) := rfl
theorem stepR_val0 {us : List (Nat × V × Bool)} {v : V} {h : Heap} : stepR none s (some (.val us v h)) = some (.norm, ⟨ups s.t us, h⟩) := rfl
theorem stepR_val {d : Nat} {us : List (Nat × V × Bool)} {v : V} {h : Heap} : stepR (some d) s (some (.val us v h)) = if (nth (ups s.t us) d).owner = false then some (.norm, ⟨upd (ups s.t us) d v, h⟩) else none := by
  unfold stepR put
  cases h : (nth (ups s.t us) d).owner <;> simp [h]
theorem stepR_ite {d : Option Nat} {c : Prop} [Decidable c] {x : Option Rs} : stepR d s (if c then x else none) = if c then stepR d s x else none := by split <;> rfl
theorem stepR_ite2 {d : Option Nat} {c : Prop} [Decidable c] {x y : Option Rs} : stepR d s (if c then x else y) = if c then stepR d s x else stepR d s y := by split <;> rfl

theorem runS_true {ops : List AI} {c : Prop} [Decidable c] {x : Option (Ex × St)} : RunS M (if c then x else none) ops k Q ↔ c ∧ RunS M x ops k Q := runS_ite
theorem runS_split {ops : List AI} {c : Prop} [Decidable c] {x y : Option (Ex × St)} : RunS M (if c then x else y) ops k Q ↔ (if c then RunS M x ops k Q else RunS M y ops k Q) := by split <;> exact Iff.rfl

theorem nth_zero {v : V} {l : List V} : nth (v :: l) 0 = v := rfl
theorem nth_succ {v : V} {l : List V} {n : Nat} : nth (v :: l) (n + 1) = nth l n := rfl
theorem upd_zero {v x : V} {l : List V} : upd (v :: l) 0 x = x :: l := rfl
theorem upd_succ {v x : V} {l : List V} {n : Nat} : upd (v :: l) (n + 1) x = v :: upd l n x := rfl
theorem hnth_zero {v : List V} {l : Heap} : hnth (v :: l) 0 = v := rfl
theorem hnth_succ {v : List V} {l : Heap} {n : Nat} : hnth (v :: l) (n + 1) = hnth l n := rfl
theorem hupd_zero {v x : List V} {l : Heap} : hupd (v :: l) 0 x = x :: l := rfl
theorem hupd_succ {v x : List V} {l : Heap} {n : Nat} : hupd (v :: l) (n + 1) x = v :: hupd l n x := rfl

theorem callR_ret {useH : Bool} {h h' : Heap} {us : List (Nat × V × Bool)} {v : V} : callR useH h us (some (.ret v h')) = if isAl v = true then none else some (.val us v (if useH then h' else h)) := rfl
theorem callR_pan {useH : Bool} {h h' : Heap} {us : List (Nat × V × Bool)} {v : V} : callR useH h us (some (.pan v h')) = some (.pan v (if useH then h' else h)) := rfl

theorem binV_quo {k : IntKind} {a b : Int} : binV .quo (.int k a) (.int k b) = if b = 0 then none else some (.int k (k.wrap (a.tdiv b))) := by simp [binV]
theorem binV_rem {k : IntKind} {a b : Int} : binV .rem (.int k a) (.int k b) = if b = 0 then none else some (.int k (a.tmod b)) := by simp [binV]

theorem wrap_i64 {n : Int} (h : -9223372036854775808 ≤ n ∧ n ≤ 9223372036854775807) : IntKind.wrap .i64 n = n := by
  obtain ⟨h1, h2⟩ := h
  simp only [IntKind.wrap, IntKind.signed, IntKind.bits]
  simp
  omega
end

theorem owner_undef  : V.owner (.undef ) = false := rfl
theorem owner_bool (b : Bool) : V.owner (.bool b) = false := rfl
theorem owner_int (k : IntKind) (n : Int) : V.owner (.int k n) = false := rfl
theorem owner_str (s : List UInt8) : V.owner (.str s) = false := rfl
theorem owner_slT (sz : Nat) (xs : List V) : V.owner (.sl true sz xs) = true := rfl
theorem owner_slF (sz : Nat) (xs : List V) : V.owner (.sl false sz xs) = false := rfl
theorem owner_agg (cs : List V) : V.owner (.agg cs) = false := rfl
theorem owner_tup (vs : List V) : V.owner (.tup vs) = false := rfl
theorem owner_ptr (i o : Nat) : V.owner (.ptr i o) = false := rfl
theorem owner_rptr (cs : List V) : V.owner (.rptr cs) = false := rfl
theorem owner_box (cs : List V) : V.owner (.box cs) = true := rfl
theorem owner_bref (d o : Nat) : V.owner (.bref d o) = false := rfl
theorem owner_al (d : Nat) : V.owner (.al d) = false := rfl
theorem owner_fn (f : FuncId) (cs : List V) : V.owner (.fn f cs) = false := rfl
theorem owner_ifc (t : TypeId) (v : V) : V.owner (.ifc t v) = false := rfl
theorem owner_nilIfc  : V.owner (.nilIfc ) = false := rfl
theorem owner_iter (s : List UInt8) (n : Nat) : V.owner (.iter s n) = false := rfl
theorem lin_undef  : V.lin (.undef ) = false := rfl
theorem lin_bool (b : Bool) : V.lin (.bool b) = false := rfl
theorem lin_int (k : IntKind) (n : Int) : V.lin (.int k n) = false := rfl
theorem lin_str (s : List UInt8) : V.lin (.str s) = false := rfl
theorem lin_slT (sz : Nat) (xs : List V) : V.lin (.sl true sz xs) = true := rfl
theorem lin_slF (sz : Nat) (xs : List V) : V.lin (.sl false sz xs) = false := rfl
theorem lin_agg (cs : List V) : V.lin (.agg cs) = false := rfl
theorem lin_tup (vs : List V) : V.lin (.tup vs) = true := rfl
theorem lin_ptr (i o : Nat) : V.lin (.ptr i o) = false := rfl
theorem lin_rptr (cs : List V) : V.lin (.rptr cs) = false := rfl
theorem lin_box (cs : List V) : V.lin (.box cs) = true := rfl
theorem lin_bref (d o : Nat) : V.lin (.bref d o) = false := rfl
theorem lin_al (d : Nat) : V.lin (.al d) = false := rfl
theorem lin_fn (f : FuncId) (cs : List V) : V.lin (.fn f cs) = false := rfl
theorem lin_ifc (t : TypeId) (v : V) : V.lin (.ifc t v) = false := rfl
theorem lin_nilIfc  : V.lin (.nilIfc ) = false := rfl
theorem lin_iter (s : List UInt8) (n : Nat) : V.lin (.iter s n) = true := rfl
theorem data_undef  : V.data (.undef ) = false := rfl
theorem data_bool (b : Bool) : V.data (.bool b) = true := rfl
theorem data_int (k : IntKind) (n : Int) : V.data (.int k n) = true := rfl
theorem data_str (s : List UInt8) : V.data (.str s) = true := rfl
theorem data_slT (sz : Nat) (xs : List V) : V.data (.sl true sz xs) = false := rfl
theorem data_slF (sz : Nat) (xs : List V) : V.data (.sl false sz xs) = true := rfl
theorem data_agg (cs : List V) : V.data (.agg cs) = true := rfl
theorem data_tup (vs : List V) : V.data (.tup vs) = false := rfl
theorem data_ptr (i o : Nat) : V.data (.ptr i o) = false := rfl
theorem data_rptr (cs : List V) : V.data (.rptr cs) = false := rfl
theorem data_box (cs : List V) : V.data (.box cs) = false := rfl
theorem data_bref (d o : Nat) : V.data (.bref d o) = false := rfl
theorem data_al (d : Nat) : V.data (.al d) = false := rfl
theorem data_fn (f : FuncId) (cs : List V) : V.data (.fn f cs) = false := rfl
theorem data_ifc (t : TypeId) (v : V) : V.data (.ifc t v) = true := rfl
theorem data_nilIfc  : V.data (.nilIfc ) = true := rfl
theorem data_iter (s : List UInt8) (n : Nat) : V.data (.iter s n) = false := rfl
theorem cells_undef  : V.cells (.undef ) = [.undef ] := rfl
theorem sh_undef  : V.sh (.undef ) = .undef  := rfl
theorem killb_undef (e : Nat)  : V.killb e (.undef ) = .undef  := rfl
theorem killAt_undef (m : List Bool)  : killAt m (.undef ) = .undef  := rfl
theorem cells_bool (b : Bool) : V.cells (.bool b) = [.bool b] := rfl
theorem sh_bool (b : Bool) : V.sh (.bool b) = .bool b := rfl
theorem killb_bool (e : Nat) (b : Bool) : V.killb e (.bool b) = .bool b := rfl
theorem killAt_bool (m : List Bool) (b : Bool) : killAt m (.bool b) = .bool b := rfl
theorem cells_int (k : IntKind) (n : Int) : V.cells (.int k n) = [.int k n] := rfl
theorem sh_int (k : IntKind) (n : Int) : V.sh (.int k n) = .int k n := rfl
theorem killb_int (e : Nat) (k : IntKind) (n : Int) : V.killb e (.int k n) = .int k n := rfl
theorem killAt_int (m : List Bool) (k : IntKind) (n : Int) : killAt m (.int k n) = .int k n := rfl
theorem cells_str (s : List UInt8) : V.cells (.str s) = [.str s] := rfl
theorem sh_str (s : List UInt8) : V.sh (.str s) = .str s := rfl
theorem killb_str (e : Nat) (s : List UInt8) : V.killb e (.str s) = .str s := rfl
theorem killAt_str (m : List Bool) (s : List UInt8) : killAt m (.str s) = .str s := rfl
theorem cells_slT (sz : Nat) (xs : List V) : V.cells (.sl true sz xs) = [.sl true sz xs] := rfl
theorem sh_slT (sz : Nat) (xs : List V) : V.sh (.sl true sz xs) = .sl false sz xs := rfl
theorem killb_slT (e : Nat) (sz : Nat) (xs : List V) : V.killb e (.sl true sz xs) = .sl true sz xs := rfl
theorem killAt_slT (m : List Bool) (sz : Nat) (xs : List V) : killAt m (.sl true sz xs) = .sl true sz xs := rfl
theorem cells_slF (sz : Nat) (xs : List V) : V.cells (.sl false sz xs) = [.sl false sz xs] := rfl
theorem sh_slF (sz : Nat) (xs : List V) : V.sh (.sl false sz xs) = .sl false sz xs := rfl
theorem killb_slF (e : Nat) (sz : Nat) (xs : List V) : V.killb e (.sl false sz xs) = .sl false sz xs := rfl
theorem killAt_slF (m : List Bool) (sz : Nat) (xs : List V) : killAt m (.sl false sz xs) = .sl false sz xs := rfl
theorem cells_agg (cs : List V) : V.cells (.agg cs) = cs := rfl
theorem sh_agg (cs : List V) : V.sh (.agg cs) = .agg cs := rfl
theorem killb_agg (e : Nat) (cs : List V) : V.killb e (.agg cs) = .agg cs := rfl
theorem killAt_agg (m : List Bool) (cs : List V) : killAt m (.agg cs) = .agg cs := rfl
theorem cells_tup (vs : List V) : V.cells (.tup vs) = [.tup vs] := rfl
theorem sh_tup (vs : List V) : V.sh (.tup vs) = .tup vs := rfl
theorem killb_tup (e : Nat) (vs : List V) : V.killb e (.tup vs) = .tup vs := rfl
theorem killAt_tup (m : List Bool) (vs : List V) : killAt m (.tup vs) = .tup vs := rfl
theorem cells_ptr (i o : Nat) : V.cells (.ptr i o) = [.ptr i o] := rfl
theorem sh_ptr (i o : Nat) : V.sh (.ptr i o) = .ptr i o := rfl
theorem killb_ptr (e : Nat) (i o : Nat) : V.killb e (.ptr i o) = .ptr i o := rfl
theorem killAt_ptr (m : List Bool) (i o : Nat) : killAt m (.ptr i o) = .ptr i o := rfl
theorem cells_rptr (cs : List V) : V.cells (.rptr cs) = [.rptr cs] := rfl
theorem sh_rptr (cs : List V) : V.sh (.rptr cs) = .rptr cs := rfl
theorem killb_rptr (e : Nat) (cs : List V) : V.killb e (.rptr cs) = .rptr cs := rfl
theorem killAt_rptr (m : List Bool) (cs : List V) : killAt m (.rptr cs) = .rptr cs := rfl
theorem cells_box (cs : List V) : V.cells (.box cs) = [.box cs] := rfl
theorem sh_box (cs : List V) : V.sh (.box cs) = .box cs := rfl
theorem killb_box (e : Nat) (cs : List V) : V.killb e (.box cs) = .box cs := rfl
theorem killAt_box (m : List Bool) (cs : List V) : killAt m (.box cs) = .box cs := rfl
theorem cells_bref (d o : Nat) : V.cells (.bref d o) = [.bref d o] := rfl
theorem sh_bref (d o : Nat) : V.sh (.bref d o) = .bref d o := rfl
theorem killb_bref (e d o : Nat) : V.killb e (.bref d o) = if d = e then .undef else .bref d o := rfl
theorem killAt_bref (m : List Bool) (d o : Nat) : killAt m (.bref d o) = if nthB m d then .undef else .bref d o := rfl
theorem cells_al (d : Nat) : V.cells (.al d) = [.al d] := rfl
theorem sh_al (d : Nat) : V.sh (.al d) = .al d := rfl
theorem killb_al (e d : Nat) : V.killb e (.al d) = if d = e then .undef else .al d := rfl
theorem killAt_al (m : List Bool) (d : Nat) : killAt m (.al d) = if nthB m d then .undef else .al d := rfl
theorem cells_fn (f : FuncId) (cs : List V) : V.cells (.fn f cs) = [.fn f cs] := rfl
theorem sh_fn (f : FuncId) (cs : List V) : V.sh (.fn f cs) = .fn f cs := rfl
theorem killb_fn (e : Nat) (f : FuncId) (cs : List V) : V.killb e (.fn f cs) = .fn f cs := rfl
theorem killAt_fn (m : List Bool) (f : FuncId) (cs : List V) : killAt m (.fn f cs) = .fn f cs := rfl
theorem cells_ifc (t : TypeId) (v : V) : V.cells (.ifc t v) = [.ifc t v] := rfl
theorem sh_ifc (t : TypeId) (v : V) : V.sh (.ifc t v) = .ifc t v := rfl
theorem killb_ifc (e : Nat) (t : TypeId) (v : V) : V.killb e (.ifc t v) = .ifc t v := rfl
theorem killAt_ifc (m : List Bool) (t : TypeId) (v : V) : killAt m (.ifc t v) = .ifc t v := rfl
theorem cells_nilIfc  : V.cells (.nilIfc ) = [.nilIfc ] := rfl
theorem sh_nilIfc  : V.sh (.nilIfc ) = .nilIfc  := rfl
theorem killb_nilIfc (e : Nat)  : V.killb e (.nilIfc ) = .nilIfc  := rfl
theorem killAt_nilIfc (m : List Bool)  : killAt m (.nilIfc ) = .nilIfc  := rfl
theorem cells_iter (s : List UInt8) (n : Nat) : V.cells (.iter s n) = [.iter s n] := rfl
theorem sh_iter (s : List UInt8) (n : Nat) : V.sh (.iter s n) = .iter s n := rfl
theorem killb_iter (e : Nat) (s : List UInt8) (n : Nat) : V.killb e (.iter s n) = .iter s n := rfl
theorem killAt_iter (m : List Bool) (s : List UInt8) (n : Nat) : killAt m (.iter s n) = .iter s n := rfl
theorem one_undef  : V.one (.undef ) = false := rfl
theorem one_bool (b : Bool) : V.one (.bool b) = true := rfl
theorem one_int (k : IntKind) (n : Int) : V.one (.int k n) = true := rfl
theorem one_str (s : List UInt8) : V.one (.str s) = true := rfl
theorem one_slT (sz : Nat) (xs : List V) : V.one (.sl true sz xs) = false := rfl
theorem one_slF (sz : Nat) (xs : List V) : V.one (.sl false sz xs) = true := rfl
theorem one_agg (cs : List V) : V.one (.agg cs) = false := rfl
theorem one_tup (vs : List V) : V.one (.tup vs) = false := rfl
theorem one_ptr (i o : Nat) : V.one (.ptr i o) = false := rfl
theorem one_rptr (cs : List V) : V.one (.rptr cs) = false := rfl
theorem one_box (cs : List V) : V.one (.box cs) = false := rfl
theorem one_bref (d o : Nat) : V.one (.bref d o) = false := rfl
theorem one_al (d : Nat) : V.one (.al d) = false := rfl
theorem one_fn (f : FuncId) (cs : List V) : V.one (.fn f cs) = false := rfl
theorem one_ifc (t : TypeId) (v : V) : V.one (.ifc t v) = true := rfl
theorem one_nilIfc  : V.one (.nilIfc ) = true := rfl
theorem one_iter (s : List UInt8) (n : Nat) : V.one (.iter s n) = false := rfl
theorem isAl_undef  : isAl (.undef ) = false := rfl
theorem isAl_bool (b : Bool) : isAl (.bool b) = false := rfl
theorem isAl_int (k : IntKind) (n : Int) : isAl (.int k n) = false := rfl
theorem isAl_str (s : List UInt8) : isAl (.str s) = false := rfl
theorem isAl_sl (o : Bool) (sz : Nat) (xs : List V) : isAl (.sl o sz xs) = false := rfl
theorem isAl_agg (cs : List V) : isAl (.agg cs) = false := rfl
theorem isAl_tup (vs : List V) : isAl (.tup vs) = false := rfl
theorem isAl_ptr (i o : Nat) : isAl (.ptr i o) = false := rfl
theorem isAl_rptr (cs : List V) : isAl (.rptr cs) = false := rfl
theorem isAl_box (cs : List V) : isAl (.box cs) = false := rfl
theorem isAl_bref (d o : Nat) : isAl (.bref d o) = true := rfl
theorem isAl_al (d : Nat) : isAl (.al d) = true := rfl
theorem isAl_fn (f : FuncId) (cs : List V) : isAl (.fn f cs) = false := rfl
theorem isAl_ifc (t : TypeId) (v : V) : isAl (.ifc t v) = false := rfl
theorem isAl_nilIfc  : isAl (.nilIfc ) = false := rfl
theorem isAl_iter (s : List UInt8) (n : Nat) : isAl (.iter s n) = false := rfl
theorem isAl_data {v : V} (h : v.data = true) : isAl v = false := by cases v <;> first | rfl | cases h
theorem nth_map {α : Type} (f : α → V) : ∀ (xs : List α) (i : Nat) (h : i < xs.length), nth (xs.map f) i = f (xs[i])
  | x :: xs, 0, _ => rfl
  | x :: xs, i + 1, h => nth_map f xs i (by simpa using h)


attribute [go_sem] owner_undef owner_bool owner_int owner_str owner_slT owner_slF owner_agg owner_tup owner_ptr owner_rptr owner_box owner_bref owner_al owner_fn owner_ifc owner_nilIfc owner_iter lin_undef lin_bool lin_int lin_str lin_slT lin_slF lin_agg lin_tup lin_ptr lin_rptr lin_box lin_bref lin_al lin_fn lin_ifc lin_nilIfc lin_iter data_undef data_bool data_int data_str data_slT data_slF data_agg data_tup data_ptr data_rptr data_box data_bref data_al data_fn data_ifc data_nilIfc data_iter cells_undef sh_undef killb_undef killAt_undef cells_bool sh_bool killb_bool killAt_bool cells_int sh_int killb_int killAt_int cells_str sh_str killb_str killAt_str cells_slT sh_slT killb_slT killAt_slT cells_slF sh_slF killb_slF killAt_slF cells_agg sh_agg killb_agg killAt_agg cells_tup sh_tup killb_tup killAt_tup cells_ptr sh_ptr killb_ptr killAt_ptr cells_rptr sh_rptr killb_rptr killAt_rptr cells_box sh_box killb_box killAt_box cells_bref sh_bref killb_bref killAt_bref cells_al sh_al killb_al killAt_al cells_fn sh_fn killb_fn killAt_fn cells_ifc sh_ifc killb_ifc killAt_ifc cells_nilIfc sh_nilIfc killb_nilIfc killAt_nilIfc cells_iter sh_iter killb_iter killAt_iter nth_map

attribute [go_sem] one_undef one_bool one_int one_str one_slT one_slF one_agg one_tup one_ptr one_rptr one_box one_bref one_al one_fn one_ifc one_nilIfc one_iter isAl_undef isAl_bool isAl_int isAl_str isAl_sl isAl_agg isAl_tup isAl_ptr isAl_rptr isAl_box isAl_bref isAl_al isAl_fn isAl_ifc isAl_nilIfc isAl_iter pickOk

attribute [go_sem] run_seq run_reg run_dreg runN_nil runN_cons runSN_norm runSN_pan runSN_none runSN_ite runSN_split runO_nil runO_one runS_norm runS_pan runS_none runS_true runS_split run_skip run_exit run_cret run_pre run_blk run_endB run_exit_c run_exit_lp
  run_exit_endB run_nil run_ret run_pan run_condC runC_true runC_false runC_bool stepI_plain stepI_guarded guarded_bool guarded_tup stepR_none stepR_pan stepR_val0 stepR_val stepR_ite stepR_ite2
  nth_zero nth_succ upd_zero upd_succ hnth_zero hnth_succ hupd_zero hupd_succ callR_ret callR_pan
  opRes ev cpV dat mvUps place rdsl intOf memOf overlay fill fillE binV eq1 eqL unV pickV bound argsOf capsOf stVal ups ups1 killM nthB isU8 List.map_cons List.map_nil List.length_map Int.toNat_natCast Int.toNat_zero Bool.false_eq_true Bool.true_eq_false Bool.or_self Bool.or_false Bool.false_or Bool.or_true Bool.true_or List.take_succ_cons List.take_zero List.drop_succ_cons List.drop_zero List.all_cons List.all_nil Bool.and_self Bool.and_true Bool.true_and List.append_nil List.nil_append List.cons_append List.isEmpty_nil List.isEmpty_cons and_false false_and
   ite_true ite_false if_true if_false and_true true_and and_self List.length_cons List.length_nil decide_eq_true_eq decide_eq_false_iff_not beq_iff_eq
end Go.Am
