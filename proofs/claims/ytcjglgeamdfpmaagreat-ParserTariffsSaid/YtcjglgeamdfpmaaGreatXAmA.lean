/- The abstract machine. -/
import GoSem.Core.Code
import GoSem.Core.Utf8
import GoSem.Core.Lib
import Derived.Attr
import Derived.Below
import Derived.Calls
import Derived.Laws.World
import Derived.Laws.Cells
import Derived.Laws.CopyRow
import Derived.WalkKit
import Derived.Laws.IdiomCopy
import Derived.Laws.StructEq
import Derived.Laws.Concat
import Derived.Laws.BytesString
import Derived.Lib.SmallJoins
import Derived.Lib.Strings
import Derived.Laws.Append
namespace Go.Am
inductive V where
 | undef
 | bool (b : Bool)
 | int (k : IntKind) (n : Int)
 | str (s : List UInt8)
 | sl (own : Bool) (sz : Nat) (xs : List V)
 | agg (cs : List V)
 | tup (vs : List V)
 | ptr (id off : Nat)
 | rptr (cs : List V)
 | box (cs : List V)
 | bref (d off : Nat)
 | al (d : Nat)
 | fn (f : FuncId) (caps : List V)
 | ifc (t : TypeId) (v : V)
 | nilIfc
 | iter (s : List UInt8) (pos : Nat)
 deriving Inhabited
mutual
def V.beq : V → V → Bool
 | .undef, .undef => true
 | .bool a, .bool b => a == b
 | .int k a, .int k' b => decide (k = k') && a == b
 | .str a, .str b => a == b
 | .sl o n xs, .sl o' n' ys => o == o' && n == n' && V.beqL xs ys
 | .agg xs, .agg ys => V.beqL xs ys
 | .tup xs, .tup ys => V.beqL xs ys
 | .ptr a b, .ptr c d => a == c && b == d
 | .rptr xs, .rptr ys => V.beqL xs ys
 | .box xs, .box ys => V.beqL xs ys
 | .bref a b, .bref c d => a == c && b == d
 | .al a, .al b => a == b
 | .fn f xs, .fn g ys => decide (f = g) && V.beqL xs ys
 | .ifc t v, .ifc t' v' => decide (t = t') && V.beq v v'
 | .nilIfc, .nilIfc => true
 | .iter a n, .iter b m => a == b && n == m
 | _, _ => false
def V.beqL : List V → List V → Bool
 | [], [] => true
 | x :: xs, y :: ys => V.beq x y && V.beqL xs ys
 | _, _ => false
end
mutual
theorem V.beq_eq : ∀ {a b : V}, V.beq a b = true → a = b
 | .undef, b, h => by cases b <;> simp_all [V.beq]
 | .bool _, b, h => by cases b <;> simp_all [V.beq]
 | .int _ _, b, h => by cases b <;> simp_all [V.beq]
 | .str _, b, h => by cases b <;> simp_all [V.beq]
 | .sl o n xs, b, h => by
  cases b with
  | sl o' n' ys =>
   simp only [V.beq, Bool.and_eq_true, beq_iff_eq] at h
   obtain ⟨⟨rfl, rfl⟩, h3⟩ := h
   rw [V.beqL_eq h3]
  | _ => simp [V.beq] at h
 | .agg xs, b, h => by
  cases b with
  | agg ys => simp only [V.beq] at h; rw [V.beqL_eq h]
  | _ => simp [V.beq] at h
 | .tup xs, b, h => by
  cases b with
  | tup ys => simp only [V.beq] at h; rw [V.beqL_eq h]
  | _ => simp [V.beq] at h
 | .ptr _ _, b, h => by cases b <;> simp_all [V.beq]
 | .rptr xs, b, h => by
  cases b with
  | rptr ys => simp only [V.beq] at h; rw [V.beqL_eq h]
  | _ => simp [V.beq] at h
 | .box xs, b, h => by
  cases b with
  | box ys => simp only [V.beq] at h; rw [V.beqL_eq h]
  | _ => simp [V.beq] at h
 | .bref _ _, b, h => by cases b <;> simp_all [V.beq]
 | .al _, b, h => by cases b <;> simp_all [V.beq]
 | .fn f xs, b, h => by
  cases b with
  | fn g ys =>
   simp only [V.beq, Bool.and_eq_true, decide_eq_true_eq] at h
   obtain ⟨rfl, h3⟩ := h
   rw [V.beqL_eq h3]
  | _ => simp [V.beq] at h
 | .ifc t v, b, h => by
  cases b with
  | ifc t' v' =>
   simp only [V.beq, Bool.and_eq_true, decide_eq_true_eq] at h
   obtain ⟨rfl, h3⟩ := h
   rw [V.beq_eq h3]
  | _ => simp [V.beq] at h
 | .nilIfc, b, h => by cases b <;> simp_all [V.beq]
 | .iter _ _, b, h => by cases b <;> simp_all [V.beq]
theorem V.beqL_eq : ∀ {a b : List V}, V.beqL a b = true → a = b
 | [], b, h => by cases b <;> simp_all [V.beqL]
 | x :: xs, b, h => by
  cases b with
  | nil => simp [V.beqL] at h
  | cons y ys =>
   simp only [V.beqL, Bool.and_eq_true] at h
   rw [V.beq_eq h.1, V.beqL_eq h.2]
end
mutual
theorem V.beq_refl : ∀ a : V, V.beq a a = true
 | .undef => rfl
 | .bool _ => by simp [V.beq]
 | .int _ _ => by simp [V.beq]
 | .str _ => by simp [V.beq]
 | .sl _ _ xs => by simp [V.beq, V.beqL_refl xs]
 | .agg xs => by simp [V.beq, V.beqL_refl xs]
 | .tup xs => by simp [V.beq, V.beqL_refl xs]
 | .ptr _ _ => by simp [V.beq]
 | .rptr xs => by simp [V.beq, V.beqL_refl xs]
 | .box xs => by simp [V.beq, V.beqL_refl xs]
 | .bref _ _ => by simp [V.beq]
 | .al _ => by simp [V.beq]
 | .fn _ xs => by simp [V.beq, V.beqL_refl xs]
 | .ifc _ v => by simp [V.beq, V.beq_refl v]
 | .nilIfc => rfl
 | .iter _ _ => by simp [V.beq]
theorem V.beqL_refl : ∀ a : List V, V.beqL a a = true
 | [] => rfl
 | x :: xs => by simp [V.beqL, V.beq_refl x, V.beqL_refl xs]
end
def V.isUndef : V → Bool
 | .undef => true
 | _ => false
def V.cells : V → List V
 | .agg cs => cs
 | v => [v]
def V.owner : V → Bool
 | .box _ => true
 | .sl true _ _ => true
 | _ => false
def V.lin : V → Bool
 | .box _ => true
 | .sl true _ _ => true
 | .iter _ _ => true
 | .tup _ => true
 | _ => false
def V.data : V → Bool
 | .bool _ => true
 | .int _ _ => true
 | .str _ => true
 | .sl false _ _ => true
 | .agg _ => true
 | .ifc _ _ => true
 | .nilIfc => true
 | _ => false
def V.one : V → Bool
 | .bool _ => true
 | .int _ _ => true
 | .str _ => true
 | .sl false _ _ => true
 | .ifc _ _ => true
 | .nilIfc => true
 | _ => false
def V.sh : V → V
 | .sl _ sz xs => .sl false sz xs
 | v => v
def V.killb (d : Nat) : V → V
 | .bref d' o => if d' = d then .undef else .bref d' o
 | .al d' => if d' = d then .undef else .al d'
 | v => v
def nth : List V → Nat → V
 | [], _ => .undef
 | v :: _, 0 => v
 | _ :: l, n + 1 => nth l n
def upd : List V → Nat → V → List V
 | [], _, _ => []
 | _ :: l, 0, x => x :: l
 | v :: l, n + 1, x => v :: upd l n x
def overlay (cs : List V) (off : Nat) : List V → List V
 | [] => cs
 | v :: vs => overlay (upd cs off v) (off + 1) vs
abbrev Heap := List (List V)
def hbeq : Heap → Heap → Bool
 | [], [] => true
 | x :: xs, y :: ys => V.beqL x y && hbeq xs ys
 | _, _ => false
theorem hbeq_refl : ∀ a : Heap, hbeq a a = true
 | [] => rfl
 | x :: xs => by simp [hbeq, V.beqL_refl x, hbeq_refl xs]
theorem hbeq_eq : ∀ {a b : Heap}, hbeq a b = true → a = b
 | [], b, h => by cases b <;> simp_all [hbeq]
 | x :: xs, b, h => by
  cases b with
  | nil => simp [hbeq] at h
  | cons y ys =>
   simp only [hbeq, Bool.and_eq_true] at h
   rw [V.beqL_eq h.1, hbeq_eq h.2]
def hnth : Heap → Nat → List V
 | [], _ => []
 | v :: _, 0 => v
 | _ :: l, n + 1 => hnth l n
def hupd : Heap → Nat → List V → Heap
 | [], _, _ => []
 | _ :: l, 0, x => x :: l
 | v :: l, n + 1, x => v :: hupd l n x
structure St where
 t : List V
 h : Heap
inductive Src where
 | t (i : Nat)
 | c (v : V)
 | f (f : FuncId)
inductive AOp where
 | mv (x : Src)
 | cp (x : Src)
 | al (d : Nat)
 | pick (c a b : Src)
 | newbox (cs : List V)
 | newobj (cs : List V)
 | boxr (x : Src)
 | boxb (x : Src)
 | boxo (x : Src)
 | build (zero : List V) (parts : List (Nat × Nat × Src))
 | bsl (sz n : Nat) (z : V) (parts : List (Nat × Src))
 | bsf (sz n : Nat) (z : V) (parts : List (Nat × Src))
 | fa (x : Src) (off : Nat) (b : Option Nat)
 | ia (x i : Src) (sz : Nat) (len : Option Nat) (b : Option Nat)
 | ld (x : Src) (n : Option Nat) (tr : Bool) (b : Option Nat)
 | st (x v : Src) (n : Nat) (tr : Bool) (b : Option Nat)
 | nck (x : Src) (b : Option Nat)
 | bin (op : BinOp) (x y : Src)
 | beq (ne : Bool) (x y : Src)
 | eqs (ne : Bool) (ks : List Nat) (x y : Src)
 | un (op : UnOp) (x : Src)
 | cvi (k : IntKind) (x : Src)
 | cvid (x : Src)
 | cvs (x : Src) (b : Option Nat)
 | cvb (x : Src)
 | cvr (x : Src)
 | mki (t : TypeId) (x : Src)
 | mkf (f : FuncId) (caps : List Src)
 | mk (sz bytes : Nat) (z : V) (len cap : Src)
 | slc (sz : Option Nat) (x : Src) (lo hi mx : Option Src)
 | slb (d n : Nat) (lo hi : Option Src)
 | idx (x i : Src) (len : Option Nat) (sz : Nat) (ag : Bool)
 | fld (x : Src) (off n : Nat) (ag : Bool)
 | ext (j i : Nat)
 | tas (x : Src) (t : TypeId) (ok : Bool) (zero : V)
 | call (f : FuncId) (args : List (Src × Bool)) (useH : Bool)
 | callv (x : Src) (args : List (Src × Bool))
 | callr (f : FuncId) (args : List (Src × Bool))
 | len (st : Bool) (x : Src) (b : Option Nat)
 | app (sz bytes : Nat) (x y : Src) (b : Option Nat)
 | copy (d : Nat) (x y : Src) (b : Option Nat)
 | min (xs : List Src)
 | range (x : Src)
 | next (d : Nat)
 | pan (x : Src)
 | cm (d : Nat)
 | cmb (d : Nat)
 | cmh (x : Src)
structure AI where
 dst : Option Nat
 op : AOp
 g : Option (Nat × Bool) := none
inductive AC where
 | skip
 | reg (ops : List AI)
 | dreg (ops : List AI)
 | preg (ops : List AI)
 | shr (d : Nat) (a : AC)
 | seq (a b : AC)
 | cond (c : Src) (a b : AC)
 | blk (id : Nat) (a : AC)
 | loop (a : AC)
 | exit (id : Nat)
 | ret
 | pre (m : List Bool) (a : AC)
inductive Rs where
 | val (ups : List (Nat × V × Bool)) (v : V) (h : Heap)
 | pan (v : V) (h : Heap)
inductive Rt where
 | ret (v : V) (h : Heap)
 | pan (v : V) (h : Heap)
abbrev CallF := FuncId → List V → Heap → Option Rt
inductive Pl where
 | slot (d off : Nat)
 | obj (id off : Nat)
 | ro (cs : List V)
section
variable (ρ : Nat → V)
def ev : Src → V
 | .t i => ρ i
 | .c v => v
 | .f f => .fn f []
def isAl : V → Bool
 | .bref _ _ => true
 | .al _ => true
 | _ => false
def cpV : Src → Option V
 | .t i => if (ρ i).lin || isAl (ρ i) || (ρ i).isUndef then none else some (ρ i)
 | .c v => some v
 | .f f => some (.fn f [])
def dat (x : Src) : Option V := if (ev ρ x).data then some (ev ρ x) else none
def mvUps : Src → List (Nat × V × Bool)
 | .t i => if (ρ i).lin then [(i, .undef, (ρ i).owner)] else []
 | _ => []
def place (x : Src) (b : Option Nat) : Option Pl :=
 match ev ρ x with
 | .box _ => match x, b with
  | .t i, some d => if i = d then some (.slot i 0) else none
  | _, _ => none
 | .bref d o => match b with
  | some d' => if d = d' then some (.slot d o) else none
  | none => none
 | .ptr id o => match b with
  | none => some (.obj id o)
  | some _ => none
 | .rptr cs => match b with
  | none => some (.ro cs)
  | some _ => none
 | _ => none
def rdsl (x : Src) (b : Option Nat) : Option (Nat × List V) :=
 match ev ρ x with
 | .sl _ sz xs => some (sz, xs)
 | .al d => match b with
  | some d' => if d = d' then match ρ d with | .sl _ sz xs => some (sz, xs) | _ => none else none
  | none => none
 | _ => none
def intOf (x : Src) : Option Int := match ev ρ x with | .int _ n => some n | _ => none
end
def memOf : V → Option (List V)
 | .box cs => some cs
 | .sl true 1 xs => some xs
 | _ => none
def B (s : List UInt8) : List V := s.map fun b => .int .u8 b.toNat
def isU8 : V → Bool
 | .int .u8 _ => true
 | _ => false
def byteOf : V → UInt8
 | .int _ n => UInt8.ofNat n.toNat
 | _ => 0
def fill (cs : List V) (ρ : Nat → V) : List (Nat × Nat × Src) → Option (List V)
 | [] => some cs
 | (off, size, x) :: rest => match dat ρ x with
  | some v => if v.cells.length = size ∧ off + size ≤ cs.length then fill (overlay cs off v.cells) ρ rest else none
  | none => none
def fillE (sz : Nat) (xs : List V) (ρ : Nat → V) : List (Nat × Src) → Option (List V)
 | [] => some xs
 | (i, x) :: rest => match dat ρ x with
  | some v => if v.cells.length = sz ∧ i < xs.length then fillE sz (upd xs i v) ρ rest else none
  | none => none
def bits (op : BinOp) (k : IntKind) (x y : Int) : Int :=
 let a := BitVec.ofInt k.bits x
 let b := BitVec.ofInt k.bits y
 match op with
 | .and => k.wrap ((a &&& b).toNat)
 | .or => k.wrap ((a ||| b).toNat)
 | .xor => k.wrap ((a ^^^ b).toNat)
 | _ => k.wrap ((a &&& ~~~b).toNat)
def bless : List UInt8 → List UInt8 → Bool
 | _, [] => false
 | [], _ :: _ => true
 | a :: x, b :: y => a < b || (a == b && bless x y)
def binV (op : BinOp) : V → V → Option V
 | .int k a, .int k' b =>
  match op with
  | .shl => if 0 ≤ b then some (.int k (k.wrap (a * 2 ^ (min b.toNat k.bits)))) else none
  | .shr => if 0 ≤ b then some (.int k (a.fdiv (2 ^ (min b.toNat k.bits)))) else none
  | _ => if k = k' then
   match op with
   | .add => some (.int k (k.wrap (a + b)))
   | .sub => some (.int k (k.wrap (a - b)))
   | .mul => some (.int k (k.wrap (a * b)))
   | .quo => if b = 0 then none else some (.int k (k.wrap (a.tdiv b)))
   | .rem => if b = 0 then none else some (.int k (a.tmod b))
   | .and => some (.int k (bits .and k a b))
   | .or => some (.int k (bits .or k a b))
   | .xor => some (.int k (bits .xor k a b))
   | .andNot => some (.int k (bits .andNot k a b))
   | .eql => some (.bool (a == b))
   | .neq => some (.bool (a != b))
   | .lss => some (.bool (decide (a < b)))
   | .leq => some (.bool (decide (a ≤ b)))
   | .gtr => some (.bool (decide (b < a)))
   | .geq => some (.bool (decide (b ≤ a)))
   | _ => none
   else none
 | .str a, .str b =>
  match op with
  | .add => if a.length + b.length ≤ 9223372036854775807 then some (.str (a ++ b)) else none
  | .eql => some (.bool (a == b))
  | .neq => some (.bool (a != b))
  | .lss => some (.bool (bless a b))
  | .leq => some (.bool (bless a b || a == b))
  | .gtr => some (.bool (!(bless a b || a == b)))
  | .geq => some (.bool (!bless a b))
  | _ => none
 | _, _ => none
def eq1 : Nat → V → V → Option Bool
 | 0, .int k a, .int k' b => if k = k' then some (a == b) else none
 | 1, .bool a, .bool b => some (a == b)
 | 2, .str a, .str b => some (a == b)
 | _, _, _ => none
def eqL : List Nat → List V → List V → Option Bool
 | [], [], [] => some true
 | k :: ks, a :: as, b :: bs => match eq1 k a b, eqL ks as bs with
  | some x, some y => some (x && y)
  | _, _ => none
 | _, _, _ => none
def unV (op : UnOp) : V → Option V
 | .bool b => match op with | .not => some (.bool (!b)) | _ => none
 | .int k n => match op with
  | .neg => some (.int k (k.wrap (0 - n)))
  | .xor => some (.int k (bits .xor k (if k.signed then -1 else k.max) n))
  | _ => none
 | .ifc _ _ => match op with | .plus => some (.bool true) | _ => none
 | .nilIfc => match op with | .plus => some (.bool false) | _ => none
 | _ => none
def pickV (c : Bool) : V → V → V
 | .bool p, .bool q => .bool (if c then p else q)
 | x, y => if c then x else y
def pickOk (c : Bool) (x y : V) : Bool :=
 match x, y with
 | .bool _, .bool _ => true
 | x, y => if c then x.data else y.data
def bound (ρ : Nat → V) (x : Option Src) (d : Int) : Option Int :=
 match x with
 | none => some d
 | some x => intOf ρ x
def minL : List Int → Option Int
 | [] => none
 | x :: xs => some (xs.foldl (fun a b => if b < a then b else a) x)
def ints (ρ : Nat → V) : List Src → Option (IntKind × List Int)
 | [] => some (.i64, [])
 | [x] => match ev ρ x with | .int k n => some (k, [n]) | _ => none
 | x :: xs => match ev ρ x, ints ρ xs with
  | .int k n, some (k', ns) => if k = k' then some (k, n :: ns) else none
  | _, _ => none
def argsOf (ρ : Nat → V) (useH : Bool) : List (Src × Bool) → Option (List V × List (Nat × V × Bool))
 | [] => some ([], [])
 | (x, take) :: rest => match argsOf ρ useH rest with
  | none => none
  | some (vs, ups) =>
   match ev ρ x with
   | .sl true sz xs => if take then some (.sl true sz xs :: vs, mvUps ρ x ++ ups) else none
   | .ptr id o => if useH then some (.ptr id o :: vs, ups) else none
   | .fn f caps => if useH || caps.isEmpty then some (.fn f caps :: vs, ups) else none
   | v => if v.data then some (v :: vs, ups) else none
def ptrOnly : V → Bool
 | .ptr _ _ => true
 | _ => false
def capsOf (ρ : Nat → V) : List Src → Option (List V)
 | [] => some []
 | x :: rest => match ev ρ x, capsOf ρ rest with
  | .ptr id o, some vs => some (.ptr id o :: vs)
  | _, _ => none
def callR (useH : Bool) (h : Heap) (ups : List (Nat × V × Bool)) : Option Rt → Option Rs
 | some (.ret v h') => if isAl v then none else some (.val ups v (if useH then h' else h))
 | some (.pan v h') => some (.pan v (if useH then h' else h))
 | none => none
def callR' (h : Heap) (ups : List (Nat × V × Bool)) : Option Rt → Option Rs
 | some (.ret v h') => if hbeq h' h then (if isAl v then none else some (.val ups v h)) else none
 | _ => none
def stVal (ρ : Nat → V) (v : Src) (tr : Bool) : Option (V × List (Nat × V × Bool)) :=
 match ev ρ v with
 | .sl true sz xs => if tr then some (.sl true sz xs, mvUps ρ v) else none
 | w => if w.data then some (w, []) else none
def opRes (call : CallF) (ρ : Nat → V) (h : Heap) : AOp → Option Rs
  | .mv x => if isAl (ev ρ x) then none else some (.val (mvUps ρ x) (ev ρ x) h)
  | .cp x => match cpV ρ x with | some v => some (.val [] v h) | none => none
  | .al d => if (ρ d).owner then some (.val [] (.al d) h) else if (ρ d).lin || isAl (ρ d) then none else some (.val [] (ρ d) h)
  | .pick c a b => match ev ρ c with
    | .bool t => if pickOk t (ev ρ a) (ev ρ b) then some (.val [] (pickV t (ev ρ a) (ev ρ b)) h) else none
    | _ => none
  | .newbox cs => some (.val [] (.box cs) h)
  | .newobj cs => some (.val [] (.ptr h.length 0) (h ++ [cs]))
  | .boxr x => match dat ρ x with | some v => some (.val [] (.rptr v.cells) h) | none => none
  | .boxb x => match dat ρ x with | some v => some (.val [] (.box v.cells) h) | none => none
  | .boxo x => match dat ρ x with | some v => some (.val [] (.ptr h.length 0) (h ++ [v.cells])) | none => none
  | .build zero parts => match fill zero ρ parts with | some cs => some (.val [] (.agg cs) h) | none => none
  | .bsl sz n z parts => match fillE sz (List.replicate n z) ρ parts with | some xs => some (.val [] (.sl true sz xs) h) | none => none
  | .bsf sz n z parts => match fillE sz (List.replicate n z) ρ parts with | some xs => some (.val [] (.sl false sz xs) h) | none => none
  | .fa x off b => match place ρ x b with
    | some (.slot d o) => some (.val [] (.bref d (o + off)) h)
    | some (.obj id o) => some (.val [] (.ptr id (o + off)) h)
    | some (.ro cs) => if off ≤ cs.length then some (.val [] (.rptr (cs.drop off)) h) else none
    | none => none
  | .ia x i sz len b => match intOf ρ i with
    | none => none
    | some k => match len with
      | some n => if 0 ≤ k ∧ k < (n : Int) then
          match place ρ x b with
          | some (.slot d o) => some (.val [] (.bref d (o + k.toNat * sz)) h)
          | some (.obj id o) => some (.val [] (.ptr id (o + k.toNat * sz)) h)
          | some (.ro cs) => if k.toNat * sz ≤ cs.length then some (.val [] (.rptr (cs.drop (k.toNat * sz))) h) else none
          | none => none
        else none
      | none => match ev ρ x with
        | .sl false sz' xs => if sz' = sz ∧ 0 ≤ k ∧ k < (xs.length : Int) then some (.val [] (.rptr (nth xs k.toNat).cells) h) else none
        | .al d => match b with
          | some d' => match ρ d with
            | .sl true 1 xs => if d = d' ∧ sz = 1 ∧ 0 ≤ k ∧ k < (xs.length : Int) then some (.val [] (.bref d k.toNat) h) else none
            | _ => none
          | none => none
        | _ => none
  | .ld x n tr b => match place ρ x b with
    | some (.slot d o) => match memOf (ρ d) with
      | none => none
      | some cs => match n with
        | none => if o < cs.length then
            (if tr then (match ρ d with | .box _ => some (.val [(d, .box (upd cs o .undef), false)] (nth cs o) h) | _ => none)
             else if (nth cs o).one then some (.val [] (nth cs o) h) else none)
          else none
        | some m => if o + m ≤ cs.length then (if ((cs.drop o).take m).all V.one then some (.val [] (.agg ((cs.drop o).take m)) h) else none) else none
    | some (.obj id o) => match n with
        | none => if o < (hnth h id).length then
            (if tr then some (.val [] (nth (hnth h id) o) (hupd h id (upd (hnth h id) o .undef)))
             else if (nth (hnth h id) o).one then some (.val [] (nth (hnth h id) o) h) else none)
          else none
        | some m => if o + m ≤ (hnth h id).length then (if (((hnth h id).drop o).take m).all V.one then some (.val [] (.agg (((hnth h id).drop o).take m)) h) else none) else none
    | some (.ro cs) => match n with
      | none => match cs with | c :: _ => if c.one then some (.val [] c h) else none | [] => none
      | some m => if m ≤ cs.length then some (.val [] (.agg (cs.take m)) h) else none
    | none => none
  | .st x v n tr b =>
    match stVal ρ v tr with
    | none => none
    | some (w, ups) => if w.cells.length = n then
        match place ρ x b with
        | some (.slot d o) => match ρ d with
          | .box cs => if o + n ≤ cs.length then some (.val (ups ++ [(d, .box (overlay cs o w.cells), false)]) (.tup []) h) else none
          | .sl true 1 cs => if tr = false ∧ n = 1 ∧ w.one = true ∧ o < cs.length then some (.val [(d, .sl true 1 (upd cs o w), false)] (.tup []) h) else none
          | _ => none
        | some (.obj id o) => if o + n ≤ (hnth h id).length then some (.val ups (.tup []) (hupd h id (overlay (hnth h id) o w.cells))) else none
        | _ => none
      else none
  | .nck x b => match place ρ x b with
    | some (.slot d o) => some (.val [] (.bref d o) h)
    | some (.obj id o) => some (.val [] (.ptr id o) h)
    | some (.ro cs) => some (.val [] (.rptr cs) h)
    | none => match ev ρ x with
      | .fn f caps => some (.val [] (.fn f caps) h)
      | _ => none
  | .bin op x y => match binV op (ev ρ x) (ev ρ y) with | some v => some (.val [] v h) | none => none
  | .beq ne x y => match ev ρ x, ev ρ y with
    | .bool a, .bool b => some (.val [] (.bool (if ne then !(a == b) else a == b)) h)
    | _, _ => none
  | .eqs ne ks x y => match ev ρ x, ev ρ y with
    | .agg a, .agg b => match eqL ks a b with | some r => some (.val [] (.bool (if ne then !r else r)) h) | none => none
    | _, _ => none
  | .un op x => match unV op (ev ρ x) with | some v => some (.val [] v h) | none => none
  | .cvi k x => match ev ρ x with | .int _ n => some (.val [] (.int k (k.wrap n)) h) | _ => none
  | .cvid x => match ev ρ x with | .str s => some (.val [] (.str s) h) | _ => none
  | .cvs x b => match rdsl ρ x b with | some (1, xs) => if xs.all isU8 then some (.val [] (.str (xs.map byteOf)) h) else none | _ => none
  | .cvb x => match ev ρ x with | .str s => if s.length ≤ 140737488355328 then some (.val [] (.sl true 1 (B s)) h) else none | _ => none
  | .cvr x => match ev ρ x with | .int _ n => some (.val [] (.str (Utf8.encode n).data.toList) h) | _ => none
  | .mki t x => match dat ρ x with | some v => some (.val [] (.ifc t v) h) | none => none
  | .mkf f caps => match capsOf ρ caps with | some vs => some (.val [] (.fn f vs) h) | none => none
  | .mk sz bytes z len cap => match intOf ρ len, intOf ρ cap with
    | some l, some c => if 0 ≤ l ∧ l ≤ c ∧ (bytes : Int) * c ≤ 281474976710656 ∧ c ≤ 9223372036854775807 then some (.val [] (.sl true sz (List.replicate l.toNat z)) h) else none
    | _, _ => none
  | .slc sz x lo hi mx => match ev ρ x, sz with
    | .str s, none => match bound ρ lo 0, bound ρ hi s.length, mx with
      | some l, some r, none => if 0 ≤ l ∧ l ≤ r ∧ r ≤ (s.length : Int) then some (.val [] (.str ((s.take r.toNat).drop l.toNat)) h) else none
      | _, _, _ => none
    | .sl false sz' xs, some sz => match bound ρ lo 0, bound ρ hi xs.length, bound ρ mx xs.length with
      | some l, some r, some m => if sz' = sz ∧ 0 ≤ l ∧ l ≤ r ∧ r ≤ m ∧ m ≤ (xs.length : Int) ∧ (hi = none → mx = none) then some (.val [] (.sl false sz ((xs.take r.toNat).drop l.toNat)) h) else none
      | _, _, _ => none
    | _, _ => none
  | .slb d n lo hi => match ρ d with
    | .box cs => match bound ρ lo 0, bound ρ hi n with
      | some l, some r => if n = cs.length ∧ 0 ≤ l ∧ l ≤ r ∧ r ≤ (n : Int) ∧ cs.all V.one then some (.val [(d, .rptr cs, true)] (.sl false 1 ((cs.take r.toNat).drop l.toNat)) h) else none
      | _, _ => none
    | _ => none
  | .idx x i len sz ag => match intOf ρ i with
    | none => none
    | some k => match ev ρ x, len with
      | .agg cs, some m => if 0 ≤ k ∧ k < (m : Int) ∧ (k.toNat + 1) * sz ≤ cs.length then
          (if ag then some (.val [] (.agg ((cs.drop (k.toNat * sz)).take sz)) h) else if sz = 1 then some (.val [] (nth cs k.toNat) h) else none) else none
      | .str s, none => if 0 ≤ k ∧ k < (s.length : Int) then some (.val [] (.int .u8 (s[k.toNat]?.getD 0).toNat) h) else none
      | _, _ => none
  | .fld x off n ag => match ev ρ x with
    | .agg cs => if off + n ≤ cs.length then (if ag then some (.val [] (.agg ((cs.drop off).take n)) h) else if n = 1 then some (.val [] (nth cs off) h) else none) else none
    | _ => none
  | .ext j i => match ρ j with
    | .tup vs => if i < vs.length then
        (if (nth vs i).lin then some (.val [(j, .tup (upd vs i .undef), false)] (nth vs i) h) else some (.val [] (nth vs i) h)) else none
    | _ => none
  | .tas x t ok zero => match ev ρ x with
    | .ifc t' v => if t' = t then some (.val [] (if ok then .tup [v, .bool true] else v) h) else if ok then some (.val [] (.tup [zero, .bool false]) h) else none
    | _ => none
  | .call f args useH => match argsOf ρ useH args with
    | some (vs, ups) => callR useH h ups (call f vs (if useH then h else []))
    | none => none
  | .callr f args => match argsOf ρ true args with
    | some (vs, ups) => callR' h ups (call f vs h)
    | none => none
  | .callv x args => match ev ρ x, argsOf ρ true args with
    | .fn f caps, some (vs, ups) => callR true h ups (call f (vs ++ caps) h)
    | _, _ => none
  | .len st x b => if st then (match ev ρ x with
      | .str s => some (.val [] (.int .i64 s.length) h)
      | _ => none)
    else match rdsl ρ x b with | some (_, xs) => some (.val [] (.int .i64 xs.length) h) | none => none
  | .app sz bytes x y b => match ev ρ x with
    | .sl own sz' xs => match (match ev ρ y with | .str s => some (1, B s) | _ => rdsl ρ y b) with
      | some (sz'', ys) => if (own = true ∧ sz' = sz ∨ own = false ∧ sz' = 0 ∧ xs.isEmpty = true ∧ ys.isEmpty = false) ∧ sz'' = sz ∧ (xs.length + ys.length) * bytes ≤ 140737488355328 ∧ bytes ≠ 0 then
          some (.val (mvUps ρ x) (.sl true sz (xs ++ ys)) h) else none
      | none => none
    | _ => none
  | .copy d x y b => match ev ρ x, ρ d with
    | .al d', .sl true sz xs => match (match ev ρ y with | .str s => some (1, B s) | _ => rdsl ρ y b) with
      | some (sz', ys) => if d = d' ∧ sz' = sz ∧ sz = 1 then
          some (.val [(d, .sl true sz (ys.take xs.length ++ xs.drop ys.length), false)] (.int .i64 (min ys.length xs.length : Nat)) h) else none
      | none => none
    | _, _ => none
  | .min xs => match ints ρ xs with
    | some (k, ns) => match minL ns with | some m => some (.val [] (.int k m) h) | none => none
    | none => none
  | .range x => match ev ρ x with | .str s => some (.val [] (.iter s 0) h) | _ => none
  | .next d => match ρ d with
    | .iter s pos => if pos < s.length then
        some (.val [(d, .iter s (pos + (Utf8.decode ⟨s.toArray⟩ pos).2), false)] (.tup [.bool true, .int .i64 pos, .int .i32 (Utf8.decode ⟨s.toArray⟩ pos).1]) h)
      else some (.val [] (.tup [.bool false]) h)
    | _ => none
  | .pan x => match ev ρ x with | .ifc t v => some (.pan (.ifc t v) h) | _ => none
  | .cm d => some (.val [(d, (ρ d).sh, (ρ d).owner)] .undef h)
  | .cmb d => match ρ d with | .box cs => some (.val [(d, .box (cs.map V.sh), false)] .undef h) | _ => none
  | .cmh x => match ev ρ x with | .ptr id _ => some (.val [] .undef (hupd h id ((hnth h id).map V.sh))) | _ => none
def ups1 (t : List V) : Nat × V × Bool → List V
 | (d, v, false) => upd t d v
 | (d, v, true) => upd (t.map (V.killb d)) d v
def ups : List V → List (Nat × V × Bool) → List V
 | t, [] => t
 | t, u :: us => ups (ups1 t u) us
inductive Ex where
 | norm
 | exit (id : Nat)
 | ret
 | pan (v : V)
def put (t : List V) (dst : Option Nat) (v : V) : Option (List V) :=
 match dst with
 | none => some t
 | some d => if (nth t d).owner then none else some (upd t d v)
def stepR (dst : Option Nat) (s : St) : Option Rs → Option (Ex × St)
 | none => none
 | some (.pan v h) => some (.pan v, ⟨s.t, h⟩)
 | some (.val us v h) => match put (ups s.t us) dst v with
  | some t => some (.norm, ⟨t, h⟩)
  | none => none
def stepI (call : CallF) (i : AI) (s : St) : Option (Ex × St) :=
 match i.g with
 | none => stepR i.dst s (opRes call (nth s.t) s.h i.op)
 | some (g, want) => match nth s.t g with
  | .bool b => if b = want then stepR i.dst s (opRes call (nth s.t) s.h i.op) else stepR i.dst s (some (.val [] (.tup []) s.h))
  | .tup [] => stepR i.dst s (some (.val [] (.tup []) s.h))
  | _ => none
def runOps (call : CallF) : List AI → St → Option (Ex × St)
 | [], s => some (.norm, s)
 | i :: rest, s => match stepI call i s with
  | some (.norm, s') => runOps call rest s'
  | r => r
def iterA (f : St → Option (Ex × St)) : Nat → St → Option (Ex × St)
 | 0, _ => none
 | n + 1, s => match f s with
  | some (.norm, s') => iterA f n s'
  | r => r
def nthB : List Bool → Nat → Bool
 | [], _ => false
 | b :: _, 0 => b
 | _ :: l, n + 1 => nthB l n
def killAt (m : List Bool) : V → V
 | .bref d o => if nthB m d then .undef else .bref d o
 | .al d => if nthB m d then .undef else .al d
 | v => v
def killM (m : List Bool) : List Bool → List V → List V
 | _, [] => []
 | [], v :: l => killAt m v :: killM m [] l
 | b :: bs, v :: l => (if b then .undef else killAt m v) :: killM m bs l
def eraseT (s : St) : St := ⟨s.t.map fun _ => .undef, s.h⟩
def evC (call : CallF) (n : Nat) : AC → St → Option (Ex × St)
 | .skip, s => some (.norm, s)
 | .reg ops, s => runOps call ops s
 | .dreg ops, s => match runOps call ops s with
  | some (.norm, s') => some (.norm, s')
  | _ => none
 | .preg ops, s => match runOps call ops s with
  | some (.norm, s') => some (.norm, s')
  | some (.pan v, s') => some (.pan v, eraseT s')
  | _ => none
 | .shr d a, s => evC call n a { s with t := ups s.t [(d, (nth s.t d).sh, (nth s.t d).owner)] }
 | .seq a b, s => match evC call n a s with
  | some (.norm, s') => evC call n b s'
  | r => r
 | .cond c a b, s => match ev (nth s.t) c with
  | .bool t => if t then evC call n a s else evC call n b s
  | _ => none
 | .blk id a, s => match evC call n a s with
  | some (.exit id', s') => if id' = id then some (.norm, s') else some (.exit id', s')
  | r => r
 | .loop a, s => iterA (evC call n a) n s
 | .exit id, s => some (.exit id, s)
 | .ret, s => some (.ret, s)
 | .pre m a, s => evC call n a { s with t := killM m m s.t }
inductive ARes where
 | tmp (t : Nat)
 | cell (a : Nat) (n : Option Nat)
structure AF where
 ntmps : Nat
 body : AC
 res : List ARes
structure AFD where
 ntmps : Nat
 pres : List AC
 d : Nat
 g : FuncId
 caps : List Src
 post : AC
 res : List ARes
 gn : Nat
 rd : Nat
 r2 : Nat
 gbody : AC
def resV (s : St) : ARes → Option V
 | .tmp t => match nth s.t t with
  | .sl true sz xs => some (.sl true sz xs)
  | v => if v.data then some v else none
 | .cell a n => match opRes (fun _ _ _ => none) (nth s.t) s.h (.ld (.t a) n true (match nth s.t a with | .box _ => some a | _ => none)) with
  | some (.val _ v _) => if v.data then some v else none
  | _ => none
def resL (s : St) : List ARes → Option (List V)
 | [] => some []
 | r :: rs => match resV s r, resL s rs with
  | some v, some vs => some (v :: vs)
  | _, _ => none
def finish (af : AF) (n0 : Nat) : Option (Ex × St) → Option Rt
 | some (.norm, s) | some (.ret, s) => match resL s af.res with
  | some [v] => some (.ret v (s.h.take n0))
  | some vs => some (.ret (.tup vs) (s.h.take n0))
  | none => none
 | some (.pan v, s) => if v.data then some (.pan v (s.h.take n0)) else none
 | _ => none
def frame (af : AF) (args : List V) : List V := args ++ List.replicate (af.ntmps - args.length) .undef
end Go.Am
namespace Go.Am
structure Mach where
 ft : FuncId → Option AF
 ext : CallF
def callN (M : Mach) : Nat → CallF
 | 0 => M.ext
 | n + 1 => fun f args h => match M.ext f args h with
  | some r => some r
  | none => match M.ft f with
   | none => none
   | some af => finish af h.length (evC (callN M n) n af.body ⟨frame af args, h⟩)
def callLe (c c' : CallF) : Prop := ∀ f args h r, c f args h = some r → c' f args h = some r
theorem callR_some {useH : Bool} {h : Heap} {us : List (Nat × V × Bool)} {o : Option Rt} {r : Rs} (H : callR useH h us o = some r) : ∃ q, o = some q := by
 cases o with
 | none => simp [callR] at H
 | some q => exact ⟨q, rfl⟩
theorem callR'_some {h : Heap} {us : List (Nat × V × Bool)} {o : Option Rt} {r : Rs} (H : callR' h us o = some r) : ∃ q, o = some q := by
 cases o with
 | none => simp [callR'] at H
 | some q => exact ⟨q, rfl⟩
theorem opRes_mono {c c' : CallF} (hc : callLe c c') {ρ : Nat → V} {h : Heap} {op : AOp} {r : Rs} (H : opRes c ρ h op = some r) : opRes c' ρ h op = some r := by
 cases op with
 | call f args useH =>
  simp only [opRes] at H ⊢
  split at H
  ·obtain ⟨q, hq⟩ := callR_some H
   rw [hq] at H
   rw [hc _ _ _ _ hq]
   exact H
  ·cases H
 | callr f args =>
  simp only [opRes] at H ⊢
  split at H
  ·obtain ⟨q, hq⟩ := callR'_some H
   rw [hq] at H
   rw [hc _ _ _ _ hq]
   exact H
  ·cases H
 | callv x args =>
  simp only [opRes] at H ⊢
  split at H
  ·obtain ⟨q, hq⟩ := callR_some H
   rw [hq] at H
   rw [hc _ _ _ _ hq]
   exact H
  ·cases H
 | _ => exact H
theorem stepR_some {dst : Option Nat} {s : St} {o : Option Rs} {r : Ex × St} (H : stepR dst s o = some r) : ∃ q, o = some q := by
 cases o with
 | none => simp [stepR] at H
 | some q => exact ⟨q, rfl⟩
theorem stepI_mono {c c' : CallF} (hc : callLe c c') {i : AI} {s : St} {r : Ex × St} (H : stepI c i s = some r) : stepI c' i s = some r := by
 unfold stepI at H ⊢
 have key : ∀ {r}, stepR i.dst s (opRes c (nth s.t) s.h i.op) = some r → stepR i.dst s (opRes c' (nth s.t) s.h i.op) = some r := by
  intro r H
  obtain ⟨q, hq⟩ := stepR_some H
  rw [hq] at H
  rw [opRes_mono hc hq]
  exact H
 cases hg : i.g with
 | none => rw [hg] at H; exact key H
 | some gw =>
  obtain ⟨g, want⟩ := gw
  rw [hg] at H
  simp only at H ⊢
  split at H
  ·split at H
   ·rename_i hb; rw [if_pos hb]; exact key H
   ·rename_i hb; rw [if_neg hb]; exact H
  ·exact H
  ·cases H
theorem runOps_mono {c c' : CallF} (hc : callLe c c') : ∀ {ops : List AI} {s : St} {r : Ex × St}, runOps c ops s = some r → runOps c' ops s = some r := by
 intro ops
 induction ops with
 | nil => intro s r H; exact H
 | cons i ops ih =>
  intro s r H
  unfold runOps at H ⊢
  cases hs : stepI c i s with
  | none => rw [hs] at H; cases H
  | some q =>
   rw [hs] at H
   rw [stepI_mono hc hs]
   obtain ⟨e, s'⟩ := q
   cases e with
   | norm => exact ih H
   | _ => exact H
theorem iterA_mono {f g : St → Option (Ex × St)} (hf : ∀ s r, f s = some r → g s = some r) : ∀ (n m : Nat), n ≤ m → ∀ s r, iterA f n s = some r → iterA g m s = some r := by
 intro n
 induction n with
 | zero => intro m _ s r H; cases H
 | succ n ih =>
  intro m hm s r H
  obtain ⟨m, rfl⟩ : ∃ k, m = k + 1 := ⟨m - 1, by omega⟩
  unfold iterA at H ⊢
  cases hs : f s with
  | none => rw [hs] at H; cases H
  | some q =>
   rw [hs] at H
   rw [hf _ _ hs]
   obtain ⟨e, s'⟩ := q
   cases e with
   | norm => exact ih m (by omega) s' r H
   | _ => exact H
theorem evC_mono {c c' : CallF} (hc : callLe c c') {n m : Nat} (hm : n ≤ m) : ∀ (a : AC) (s : St) (r : Ex × St), evC c n a s = some r → evC c' m a s = some r := by
 intro a
 induction a with
 | skip => intro s r H; exact H
 | reg ops => intro s r H; exact runOps_mono hc H
 | dreg ops =>
  intro s r H
  unfold evC at H ⊢
  cases hs : runOps c ops s with
  | none => rw [hs] at H; cases H
  | some q =>
   rw [hs] at H
   rw [runOps_mono hc hs]
   exact H
 | preg ops =>
  intro s r H
  unfold evC at H ⊢
  cases hs : runOps c ops s with
  | none => rw [hs] at H; cases H
  | some q =>
   rw [hs] at H
   rw [runOps_mono hc hs]
   exact H
 | shr d a ih => intro s r H; exact ih _ _ H
 | seq a b iha ihb =>
  intro s r H
  unfold evC at H ⊢
  cases hs : evC c n a s with
  | none => rw [hs] at H; cases H
  | some q =>
   rw [hs] at H
   rw [iha _ _ hs]
   obtain ⟨e, s'⟩ := q
   cases e with
   | norm => exact ihb _ _ H
   | _ => exact H
 | cond x a b iha ihb =>
  intro s r H
  unfold evC at H ⊢
  split at H
  ·split at H
   ·rename_i ht; simp only [ht, if_true]; exact iha _ _ H
   ·rename_i ht; simp only [ht]; exact ihb _ _ H
  ·cases H
 | blk id a ih =>
  intro s r H
  unfold evC at H ⊢
  cases hs : evC c n a s with
  | none => rw [hs] at H; cases H
  | some q => rw [hs] at H; rw [ih _ _ hs]; exact H
 | loop a ih => intro s r H; exact iterA_mono (fun s r => ih s r) n m hm s r H
 | exit id => intro s r H; exact H
 | ret => intro s r H; exact H
 | pre ds a ih => intro s r H; exact ih _ _ H
theorem finish_some {af : AF} {n : Nat} {o : Option (Ex × St)} {r : Rt} (H : finish af n o = some r) : ∃ q, o = some q := by
 cases o with
 | none => simp [finish] at H
 | some q => exact ⟨q, rfl⟩
section
variable (M : Mach)
theorem callN_step (n : Nat) (f : FuncId) (args : List V) (h : Heap) : callN M (n + 1) f args h = match M.ext f args h with
  | some r => some r
  | none => match M.ft f with
   | none => none
   | some af => finish af h.length (evC (callN M n) n af.body ⟨frame af args, h⟩) := rfl
theorem callN_succ : ∀ n, callLe (callN M n) (callN M (n + 1)) := by
 intro n
 induction n with
 | zero => intro f args h r H; simp only [callN] at H ⊢; rw [H]
 | succ n ih =>
  intro f args h r H
  rw [callN_step] at H ⊢
  cases he : M.ext f args h with
  | some q => rw [he] at H; exact H
  | none =>
   rw [he] at H
   simp only at H ⊢
   cases hf : M.ft f with
   | none => rw [hf] at H; cases H
   | some af =>
    rw [hf] at H
    simp only at H ⊢
    obtain ⟨q, hq⟩ := finish_some H
    rw [hq] at H
    rw [evC_mono ih (Nat.le_succ n) _ _ _ hq]
    exact H
theorem callN_le {n m : Nat} (h : n ≤ m) : callLe (callN M n) (callN M m) := by
  induction m with
  | zero => obtain rfl : n = 0 := by omega
            intro f args h r H; exact H
  | succ m ih =>
    by_cases hn : n = m + 1
    · subst hn; intro f args h r H; exact H
    · intro f args h' r H
      exact callN_succ M m f args h' r (ih (by omega) f args h' r H)
open Classical in
noncomputable def acall : CallF := fun f args h => if H : ∃ n, (callN M n f args h).isSome = true then callN M (Classical.choose H) f args h else none
theorem acall_iff {f : FuncId} {args : List V} {h : Heap} {r : Rt} : acall M f args h = some r ↔ ∃ n, callN M n f args h = some r := by
 constructor
 ·intro H
  unfold acall at H
  split at H
  ·exact ⟨_, H⟩
  ·cases H
 ·rintro ⟨n, hn⟩
  have hex : ∃ n, (callN M n f args h).isSome = true := ⟨n, by rw [hn]; rfl⟩
  unfold acall
  rw [dif_pos hex]
  have h1 := Classical.choose_spec hex
  obtain ⟨q, hq⟩ := Option.isSome_iff_exists.1 h1
  rw [hq]
  have h2 := callN_le M (Nat.le_max_left n (Classical.choose hex)) _ _ _ _ hn
  have h3 := callN_le M (Nat.le_max_right n (Classical.choose hex)) _ _ _ _ hq
  rw [h2] at h3
  exact h3.symm
theorem callN_acall (n : Nat) : callLe (callN M n) (acall M) := fun _ _ _ _ H => (acall_iff M).2 ⟨n, H⟩
theorem opRes_acall {ρ : Nat → V} {h : Heap} {op : AOp} {r : Rs} : opRes (acall M) ρ h op = some r ↔ ∃ n, opRes (callN M n) ρ h op = some r := by
 constructor
 ·intro H
  cases op with
  | call f args useH =>
   simp only [opRes] at H ⊢
   cases ha : argsOf ρ useH args with
   | none => rw [ha] at H; cases H
   | some q =>
    rw [ha] at H
    simp only at H ⊢
    obtain ⟨q', hq⟩ := callR_some H
    obtain ⟨n, hn⟩ := (acall_iff M).1 hq
    exact ⟨n, by rw [hn]; rw [hq] at H; exact H⟩
  | callr f args =>
   simp only [opRes] at H ⊢
   cases ha : argsOf ρ true args with
   | none => rw [ha] at H; cases H
   | some q =>
    rw [ha] at H
    simp only at H ⊢
    obtain ⟨q', hq⟩ := callR'_some H
    obtain ⟨n, hn⟩ := (acall_iff M).1 hq
    exact ⟨n, by rw [hn]; rw [hq] at H; exact H⟩
  | callv x args =>
   simp only [opRes] at H ⊢
   split at H
   ·obtain ⟨q', hq⟩ := callR_some H
    obtain ⟨n, hn⟩ := (acall_iff M).1 hq
    exact ⟨n, by rw [hn]; rw [hq] at H; exact H⟩
   ·cases H
  | _ => exact ⟨0, H⟩
 ·rintro ⟨n, H⟩
  exact opRes_mono (callN_acall M n) H
theorem stepI_acall {i : AI} {s : St} {r : Ex × St} : stepI (acall M) i s = some r ↔ ∃ n, stepI (callN M n) i s = some r := by
 constructor
 ·intro H
  have key : ∀ {r}, stepR i.dst s (opRes (acall M) (nth s.t) s.h i.op) = some r → ∃ n, stepR i.dst s (opRes (callN M n) (nth s.t) s.h i.op) = some r := by
   intro r H
   obtain ⟨q, hq⟩ := stepR_some H
   obtain ⟨n, hn⟩ := (opRes_acall M).1 hq
   exact ⟨n, by rw [hn]; rw [hq] at H; exact H⟩
  unfold stepI at H ⊢
  cases hg : i.g with
  | none => rw [hg] at H; exact key H
  | some gw =>
   obtain ⟨g, want⟩ := gw
   rw [hg] at H
   simp only at H ⊢
   split at H
   ·split at H
    ·rename_i hb; simp only [if_pos hb]; exact key H
    ·rename_i hb; simp only [if_neg hb]; exact ⟨0, H⟩
   ·exact ⟨0, H⟩
   ·cases H
 ·rintro ⟨n, H⟩
  exact stepI_mono (callN_acall M n) H
def Ev (a : AC) (s : St) (e : Ex) (s' : St) : Prop := ∃ n, evC (callN M n) n a s = some (e, s')
def EvOps (ops : List AI) (s : St) (e : Ex) (s' : St) : Prop := ∃ n, runOps (callN M n) ops s = some (e, s')
inductive It where
 | c (a : AC)
 | endB (id : Nat)
 | lp (a : AC)
def Run : List It → Ex → St → (Ex → St → Prop) → Prop
 | [], e, s, Q => Q e s
 | .c a :: k, .norm, s, Q => ∃ e s', Ev M a s e s' ∧ Run k e s' Q
 | .lp a :: k, .norm, s, Q => ∃ e s', Ev M (.loop a) s e s' ∧ Run k e s' Q
 | .endB _ :: k, .norm, s, Q => Run k .norm s Q
 | .endB id :: k, .exit id', s, Q => if id' = id then Run k .norm s Q else Run k (.exit id') s Q
 | _ :: k, e, s, Q => Run k e s Q
def RunO (ops : List AI) (k : List It) (s : St) (Q : Ex → St → Prop) : Prop := ∃ e s', EvOps M ops s e s' ∧ Run M k e s' Q
def RunS (r : Option (Ex × St)) (ops : List AI) (k : List It) (Q : Ex → St → Prop) : Prop :=
 match r with
 | some (.norm, s) => RunO M ops k s Q
 | some (e, s) => Run M k e s Q
 | none => False
variable {M} {k : List It} {s : St} {Q : Ex → St → Prop}
theorem run_nil {e : Ex} : Run M [] e s Q ↔ Q e s := Iff.rfl
theorem run_c {a : AC} : Run M (.c a :: k) .norm s Q ↔ ∃ e s', Ev M a s e s' ∧ Run M k e s' Q := Iff.rfl
theorem run_ret_cons {i : It} : Run M (i :: k) .ret s Q ↔ Run M k .ret s Q := by cases i <;> exact Iff.rfl
theorem run_pan_cons {i : It} {v : V} : Run M (i :: k) (.pan v) s Q ↔ Run M k (.pan v) s Q := by cases i <;> exact Iff.rfl
theorem run_exit_c {a : AC} {id : Nat} : Run M (.c a :: k) (.exit id) s Q ↔ Run M k (.exit id) s Q := Iff.rfl
theorem run_exit_lp {a : AC} {id : Nat} : Run M (.lp a :: k) (.exit id) s Q ↔ Run M k (.exit id) s Q := Iff.rfl
theorem run_exit_endB {id id' : Nat} : Run M (.endB id' :: k) (.exit id) s Q ↔ if id = id' then Run M k .norm s Q else Run M k (.exit id) s Q := Iff.rfl
theorem run_endB {id : Nat} : Run M (.endB id :: k) .norm s Q ↔ Run M k .norm s Q := Iff.rfl
theorem run_ret : Run M k .ret s Q ↔ Q .ret s := by
 induction k with
 | nil => exact Iff.rfl
 | cons i k ih => rw [run_ret_cons]; exact ih
theorem run_pan {v : V} : Run M k (.pan v) s Q ↔ Q (.pan v) s := by
 induction k with
 | nil => exact Iff.rfl
 | cons i k ih => rw [run_pan_cons]; exact ih
theorem Ev.det {a : AC} {e e' : Ex} {s1 s2 : St} (h1 : Ev M a s e s1) (h2 : Ev M a s e' s2) : e = e' ∧ s1 = s2 := by
 obtain ⟨n, hn⟩ := h1
 obtain ⟨m, hm⟩ := h2
 have h3 := evC_mono (callN_le M (Nat.le_max_left n m)) (Nat.le_max_left n m) _ _ _ hn
 have h4 := evC_mono (callN_le M (Nat.le_max_right n m)) (Nat.le_max_right n m) _ _ _ hm
 rw [h3] at h4
 simpa using h4
theorem run_skip : Run M (.c .skip :: k) .norm s Q ↔ Run M k .norm s Q := by
 rw [run_c]
 constructor
 ·rintro ⟨e, s', ⟨n, hn⟩, h⟩
  simp only [evC, Option.some.injEq, Prod.mk.injEq] at hn
  obtain ⟨rfl, rfl⟩ := hn
  exact h
 ·intro h; exact ⟨.norm, s, ⟨0, rfl⟩, h⟩
theorem run_exit {id : Nat} : Run M (.c (.exit id) :: k) .norm s Q ↔ Run M k (.exit id) s Q := by
 rw [run_c]
 constructor
 ·rintro ⟨e, s', ⟨n, hn⟩, h⟩
  simp only [evC, Option.some.injEq, Prod.mk.injEq] at hn
  obtain ⟨rfl, rfl⟩ := hn
  exact h
 ·intro h; exact ⟨.exit id, s, ⟨0, rfl⟩, h⟩
theorem run_cret : Run M (.c .ret :: k) .norm s Q ↔ Q .ret s := by
 rw [run_c]
 constructor
 ·rintro ⟨e, s', ⟨n, hn⟩, h⟩
  simp only [evC, Option.some.injEq, Prod.mk.injEq] at hn
  obtain ⟨rfl, rfl⟩ := hn
  exact run_ret.1 h
 ·intro h; exact ⟨.ret, s, ⟨0, rfl⟩, run_ret.2 h⟩
theorem run_pre {m : List Bool} {a : AC} : Run M (.c (.pre m a) :: k) .norm s Q ↔ Run M (.c a :: k) .norm { s with t := killM m m s.t } Q := by
 rw [run_c, run_c]
 exact Iff.rfl
theorem run_shr {d : Nat} {a : AC} : Run M (.c (.shr d a) :: k) .norm s Q ↔ Run M (.c a :: k) .norm { s with t := ups s.t [(d, (nth s.t d).sh, (nth s.t d).owner)] } Q := by
 rw [run_c, run_c]
 exact Iff.rfl
theorem run_seq {a b : AC} : Run M (.c (.seq a b) :: k) .norm s Q ↔ Run M (.c a :: .c b :: k) .norm s Q := by
 rw [run_c, run_c]
 constructor
 ·rintro ⟨e, s', ⟨n, hn⟩, h⟩
  unfold evC at hn
  cases hs : evC (callN M n) n a s with
  | none => rw [hs] at hn; cases hn
  | some q =>
   obtain ⟨e1, s1⟩ := q
   rw [hs] at hn
   refine ⟨e1, s1, ⟨n, hs⟩, ?_⟩
   cases e1 with
   | norm => exact ⟨e, s', ⟨n, hn⟩, h⟩
   | exit id => simp only [Option.some.injEq, Prod.mk.injEq] at hn; obtain ⟨rfl, rfl⟩ := hn; exact h
   | ret => simp only [Option.some.injEq, Prod.mk.injEq] at hn; obtain ⟨rfl, rfl⟩ := hn; exact run_ret_cons.2 h
   | pan v => simp only [Option.some.injEq, Prod.mk.injEq] at hn; obtain ⟨rfl, rfl⟩ := hn; exact run_pan_cons.2 h
 ·rintro ⟨e1, s1, ⟨n, hn⟩, h⟩
  cases e1 with
  | norm =>
   obtain ⟨e, s', ⟨m, hm⟩, h'⟩ := h
   refine ⟨e, s', ⟨max n m, ?_⟩, h'⟩
   unfold evC
   rw [evC_mono (callN_le M (Nat.le_max_left n m)) (Nat.le_max_left n m) _ _ _ hn]
   exact evC_mono (callN_le M (Nat.le_max_right n m)) (Nat.le_max_right n m) _ _ _ hm
  | exit id => exact ⟨.exit id, s1, ⟨n, by unfold evC; rw [hn]⟩, h⟩
  | ret => exact ⟨.ret, s1, ⟨n, by unfold evC; rw [hn]⟩, run_ret_cons.1 h⟩
  | pan v => exact ⟨.pan v, s1, ⟨n, by unfold evC; rw [hn]⟩, run_pan_cons.1 h⟩
theorem run_cond {c : Src} {a b : AC} {t : Bool} (hc : ev (nth s.t) c = .bool t) : Run M (.c (.cond c a b) :: k) .norm s Q ↔ if t = true then Run M (.c a :: k) .norm s Q else Run M (.c b :: k) .norm s Q := by
 rw [run_c, run_c, run_c]
 have h1 : ∀ e s', Ev M (.cond c a b) s e s' ↔ (if t = true then Ev M a s e s' else Ev M b s e s') := by
  intro e s'
  unfold Ev
  simp only [evC, hc]
  cases t <;> simp
 cases t <;> simp [h1]
theorem run_blk {id : Nat} {a : AC} : Run M (.c (.blk id a) :: k) .norm s Q ↔ Run M (.c a :: .endB id :: k) .norm s Q := by
 rw [run_c, run_c]
 constructor
 ·rintro ⟨e, s', ⟨n, hn⟩, h⟩
  unfold evC at hn
  cases hs : evC (callN M n) n a s with
  | none => rw [hs] at hn; cases hn
  | some q =>
   obtain ⟨e1, s1⟩ := q
   rw [hs] at hn
   refine ⟨e1, s1, ⟨n, hs⟩, ?_⟩
   cases e1 with
   | norm => simp only [Option.some.injEq, Prod.mk.injEq] at hn; obtain ⟨rfl, rfl⟩ := hn; exact h
   | exit id' =>
    rw [run_exit_endB]
    simp only at hn
    split at hn
    ·rename_i hid; simp only [Option.some.injEq, Prod.mk.injEq] at hn; obtain ⟨rfl, rfl⟩ := hn; rw [if_pos hid]; exact h
    ·rename_i hid; simp only [Option.some.injEq, Prod.mk.injEq] at hn; obtain ⟨rfl, rfl⟩ := hn; rw [if_neg hid]; exact h
   | ret => simp only [Option.some.injEq, Prod.mk.injEq] at hn; obtain ⟨rfl, rfl⟩ := hn; exact run_ret_cons.2 h
   | pan v => simp only [Option.some.injEq, Prod.mk.injEq] at hn; obtain ⟨rfl, rfl⟩ := hn; exact run_pan_cons.2 h
 ·rintro ⟨e1, s1, ⟨n, hn⟩, h⟩
  cases e1 with
  | norm => exact ⟨.norm, s1, ⟨n, by unfold evC; rw [hn]⟩, h⟩
  | exit id' =>
   rw [run_exit_endB] at h
   split at h
   ·rename_i hid; exact ⟨.norm, s1, ⟨n, by unfold evC; rw [hn]; simp [hid]⟩, h⟩
   ·rename_i hid; exact ⟨.exit id', s1, ⟨n, by unfold evC; rw [hn]; simp [hid]⟩, h⟩
  | ret => exact ⟨.ret, s1, ⟨n, by unfold evC; rw [hn]⟩, run_ret_cons.1 h⟩
  | pan v => exact ⟨.pan v, s1, ⟨n, by unfold evC; rw [hn]⟩, run_pan_cons.1 h⟩
theorem run_loop {a : AC} : Run M (.c (.loop a) :: k) .norm s Q ↔ Run M (.c a :: .lp a :: k) .norm s Q := by
 rw [run_c, run_c]
 constructor
 ·rintro ⟨e, s', ⟨n, hn⟩, h⟩
  unfold evC at hn
  cases n with
  | zero => cases hn
  | succ n =>
   unfold iterA at hn
   cases hs : evC (callN M (n + 1)) (n + 1) a s with
   | none => rw [hs] at hn; cases hn
   | some q =>
    obtain ⟨e1, s1⟩ := q
    rw [hs] at hn
    refine ⟨e1, s1, ⟨n + 1, hs⟩, ?_⟩
    cases e1 with
    | norm =>
     refine ⟨e, s', ⟨n + 1, ?_⟩, h⟩
     unfold evC
     exact iterA_mono (fun s r H => H) n (n + 1) (Nat.le_succ n) _ _ hn
    | exit id => simp only [Option.some.injEq, Prod.mk.injEq] at hn; obtain ⟨rfl, rfl⟩ := hn; exact h
    | ret => simp only [Option.some.injEq, Prod.mk.injEq] at hn; obtain ⟨rfl, rfl⟩ := hn; exact run_ret_cons.2 h
    | pan v => simp only [Option.some.injEq, Prod.mk.injEq] at hn; obtain ⟨rfl, rfl⟩ := hn; exact run_pan_cons.2 h
 ·rintro ⟨e1, s1, ⟨n, hn⟩, h⟩
  have lift : ∀ m, n ≤ m → evC (callN M m) m a s = some (e1, s1) := fun m hm => evC_mono (callN_le M hm) hm _ _ _ hn
  cases e1 with
  | norm =>
   obtain ⟨e, s', ⟨m, hm⟩, h'⟩ := h
   refine ⟨e, s', ⟨max n m + 1, ?_⟩, h'⟩
   unfold evC iterA
   rw [lift (max n m + 1) (by omega)]
   unfold evC at hm
   exact iterA_mono (fun s r H => evC_mono (callN_le M (by omega)) (by omega) _ _ _ H) m (max n m) (by omega) _ _ hm
  | exit id => exact ⟨.exit id, s1, ⟨n + 1, by unfold evC iterA; rw [lift (n + 1) (by omega)]⟩, h⟩
  | ret => exact ⟨.ret, s1, ⟨n + 1, by unfold evC iterA; rw [lift (n + 1) (by omega)]⟩, run_ret_cons.1 h⟩
  | pan v => exact ⟨.pan v, s1, ⟨n + 1, by unfold evC iterA; rw [lift (n + 1) (by omega)]⟩, run_pan_cons.1 h⟩
theorem run_reg {ops : List AI} : Run M (.c (.reg ops) :: k) .norm s Q ↔ RunO M ops k s Q := Iff.rfl
theorem runO_nil : RunO M [] k s Q ↔ Run M k .norm s Q := by
 constructor
 ·rintro ⟨e, s', ⟨n, hn⟩, h⟩
  simp only [runOps, Option.some.injEq, Prod.mk.injEq] at hn
  obtain ⟨rfl, rfl⟩ := hn
  exact h
 ·intro h; exact ⟨.norm, s, ⟨0, rfl⟩, h⟩
theorem runO_cons {i : AI} {ops : List AI} : RunO M (i :: ops) k s Q ↔ RunS M (stepI (acall M) i s) ops k Q := by
 constructor
 ·rintro ⟨e, s', ⟨n, hn⟩, h⟩
  unfold runOps at hn
  cases hs : stepI (callN M n) i s with
  | none => rw [hs] at hn; cases hn
  | some q =>
   obtain ⟨e1, s1⟩ := q
   rw [hs] at hn
   rw [(stepI_acall M).2 ⟨n, hs⟩]
   cases e1 with
   | norm => exact ⟨e, s', ⟨n, hn⟩, h⟩
   | exit id => simp only [Option.some.injEq, Prod.mk.injEq] at hn; obtain ⟨rfl, rfl⟩ := hn; exact h
   | ret => simp only [Option.some.injEq, Prod.mk.injEq] at hn; obtain ⟨rfl, rfl⟩ := hn; exact h
   | pan v => simp only [Option.some.injEq, Prod.mk.injEq] at hn; obtain ⟨rfl, rfl⟩ := hn; exact h
 ·intro h
  cases hs : stepI (acall M) i s with
  | none => rw [hs] at h; exact h.elim
  | some q =>
   obtain ⟨e1, s1⟩ := q
   rw [hs] at h
   obtain ⟨n, hn⟩ := (stepI_acall M).1 hs
   cases e1 with
   | norm =>
    obtain ⟨e, s', ⟨m, hm⟩, h'⟩ := h
    refine ⟨e, s', ⟨max n m, ?_⟩, h'⟩
    unfold runOps
    rw [stepI_mono (callN_le M (Nat.le_max_left n m)) hn]
    exact runOps_mono (callN_le M (Nat.le_max_right n m)) hm
   | exit id => exact ⟨.exit id, s1, ⟨n, by unfold runOps; rw [hn]⟩, h⟩
   | ret => exact ⟨.ret, s1, ⟨n, by unfold runOps; rw [hn]⟩, h⟩
   | pan v => exact ⟨.pan v, s1, ⟨n, by unfold runOps; rw [hn]⟩, h⟩
theorem runS_norm {ops : List AI} : RunS M (some (.norm, s)) ops k Q ↔ RunO M ops k s Q := Iff.rfl
theorem runS_pan {ops : List AI} {v : V} : RunS M (some (.pan v, s)) ops k Q ↔ Q (.pan v) s := run_pan
theorem runS_none {ops : List AI} : RunS M none ops k Q ↔ False := Iff.rfl
theorem runS_ite {ops : List AI} {c : Prop} [Decidable c] {x : Option (Ex × St)} : RunS M (if c then x else none) ops k Q ↔ c ∧ RunS M x ops k Q := by
 split
 ·rename_i h; exact ⟨fun x => ⟨h, x⟩, fun x => x.2⟩
 ·rename_i h; exact ⟨fun x => x.elim, fun x => (h x.1).elim⟩
def RunN (ops : List AI) (k : List It) (s : St) (Q : Ex → St → Prop) : Prop := ∃ s', EvOps M ops s .norm s' ∧ Run M k .norm s' Q
def RunSN (r : Option (Ex × St)) (ops : List AI) (k : List It) (Q : Ex → St → Prop) : Prop :=
 match r with
 | some (.norm, s) => RunN (M := M) ops k s Q
 | _ => False
theorem run_dreg {ops : List AI} : Run M (.c (.dreg ops) :: k) .norm s Q ↔ RunN (M := M) ops k s Q := by
 rw [run_c]
 constructor
 ·rintro ⟨e, s', ⟨n, hn⟩, h⟩
  unfold evC at hn
  cases hs : runOps (callN M n) ops s with
  | none => rw [hs] at hn; cases hn
  | some q =>
   obtain ⟨e1, s1⟩ := q
   rw [hs] at hn
   cases e1 with
   | norm => simp only [Option.some.injEq, Prod.mk.injEq] at hn; obtain ⟨rfl, rfl⟩ := hn; exact ⟨_, ⟨n, hs⟩, h⟩
   | _ => cases hn
 ·rintro ⟨s', ⟨n, hn⟩, h⟩
  exact ⟨.norm, s', ⟨n, by unfold evC; rw [hn]⟩, h⟩
theorem runN_nil : RunN (M := M) [] k s Q ↔ Run M k .norm s Q := by
 constructor
 ·rintro ⟨s', ⟨n, hn⟩, h⟩
  simp only [runOps, Option.some.injEq, Prod.mk.injEq] at hn
  obtain ⟨_, rfl⟩ := hn
  exact h
 ·intro h; exact ⟨s, ⟨0, rfl⟩, h⟩
theorem runN_cons {i : AI} {ops : List AI} : RunN (M := M) (i :: ops) k s Q ↔ RunSN (M := M) (stepI (acall M) i s) ops k Q := by
 constructor
 ·rintro ⟨s', ⟨n, hn⟩, h⟩
  unfold runOps at hn
  cases hs : stepI (callN M n) i s with
  | none => rw [hs] at hn; cases hn
  | some q =>
   obtain ⟨e1, s1⟩ := q
   rw [hs] at hn
   rw [(stepI_acall M).2 ⟨n, hs⟩]
   cases e1 with
   | norm => exact ⟨s', ⟨n, hn⟩, h⟩
   | _ => simp only [Option.some.injEq, Prod.mk.injEq] at hn; cases hn.1
 ·intro h
  cases hs : stepI (acall M) i s with
  | none => rw [hs] at h; exact h.elim
  | some q =>
   rw [hs] at h
   obtain ⟨e1, s1⟩ := q
   obtain ⟨n, hn⟩ := (stepI_acall M).1 hs
   cases e1 with
   | norm =>
    obtain ⟨s', ⟨m, hm⟩, h'⟩ := h
    refine ⟨s', ⟨max n m, ?_⟩, h'⟩
    unfold runOps
    rw [stepI_mono (callN_le M (Nat.le_max_left n m)) hn]
    exact runOps_mono (callN_le M (Nat.le_max_right n m)) hm
   | _ => exact h.elim
theorem runSN_norm {ops : List AI} : RunSN (M := M) (some (.norm, s)) ops k Q ↔ RunN (M := M) ops k s Q := Iff.rfl
theorem runSN_pan {ops : List AI} {v : V} : RunSN (M := M) (some (.pan v, s)) ops k Q ↔ False := Iff.rfl
theorem runSN_none {ops : List AI} : RunSN (M := M) none ops k Q ↔ False := Iff.rfl
theorem runSN_ite {ops : List AI} {c : Prop} [Decidable c] {x : Option (Ex × St)} : RunSN (M := M) (if c then x else none) ops k Q ↔ c ∧ RunSN (M := M) x ops k Q := by
 split
 ·rename_i h; exact ⟨fun x => ⟨h, x⟩, fun x => x.2⟩
 ·rename_i h; exact ⟨fun x => x.elim, fun x => (h x.1).elim⟩
theorem runSN_split {ops : List AI} {c : Prop} [Decidable c] {x y : Option (Ex × St)} : RunSN (M := M) (if c then x else y) ops k Q ↔ (if c then RunSN (M := M) x ops k Q else RunSN (M := M) y ops k Q) := by split <;> exact Iff.rfl
def RunP (ops : List AI) (k : List It) (s : St) (Q : Ex → St → Prop) : Prop := (∃ s', EvOps M ops s .norm s' ∧ Run M k .norm s' Q) ∨ (∃ v s', EvOps M ops s (.pan v) s' ∧ Run M k (.pan v) (eraseT s') Q)
def RunSP (r : Option (Ex × St)) (ops : List AI) (k : List It) (Q : Ex → St → Prop) : Prop :=
 match r with
 | some (.norm, s) => RunP (M := M) ops k s Q
 | some (.pan v, s) => Run M k (.pan v) (eraseT s) Q
 | _ => False
theorem run_preg {ops : List AI} : Run M (.c (.preg ops) :: k) .norm s Q ↔ RunP (M := M) ops k s Q := by
 rw [run_c]
 constructor
 ·rintro ⟨e, s', ⟨n, hn⟩, h⟩
  unfold evC at hn
  cases hs : runOps (callN M n) ops s with
  | none => rw [hs] at hn; cases hn
  | some q =>
   obtain ⟨e1, s1⟩ := q
   rw [hs] at hn
   cases e1 with
   | norm => simp only [Option.some.injEq, Prod.mk.injEq] at hn; obtain ⟨rfl, rfl⟩ := hn; exact .inl ⟨_, ⟨n, hs⟩, h⟩
   | pan v => simp only [Option.some.injEq, Prod.mk.injEq] at hn; obtain ⟨rfl, rfl⟩ := hn; exact .inr ⟨v, _, ⟨n, hs⟩, h⟩
   | _ => cases hn
 ·rintro (⟨s', ⟨n, hn⟩, h⟩ | ⟨v, s', ⟨n, hn⟩, h⟩)
  ·exact ⟨.norm, s', ⟨n, by unfold evC; rw [hn]⟩, h⟩
  ·exact ⟨.pan v, eraseT s', ⟨n, by unfold evC; rw [hn]⟩, h⟩
theorem runP_nil : RunP (M := M) [] k s Q ↔ Run M k .norm s Q := by
 constructor
 ·rintro (⟨s', ⟨n, hn⟩, h⟩ | ⟨v, s', ⟨n, hn⟩, h⟩)
  ·simp only [runOps, Option.some.injEq, Prod.mk.injEq] at hn
   obtain ⟨_, rfl⟩ := hn
   exact h
  ·simp only [runOps, Option.some.injEq, Prod.mk.injEq] at hn
   cases hn.1
 ·intro h; exact .inl ⟨s, ⟨0, rfl⟩, h⟩
theorem runP_cons {i : AI} {ops : List AI} : RunP (M := M) (i :: ops) k s Q ↔ RunSP (M := M) (stepI (acall M) i s) ops k Q := by
 constructor
 ·intro hh
  have main : ∀ e s', EvOps M (i :: ops) s e s' → (e = .norm ∧ Run M k .norm s' Q ∨ (∃ v, e = .pan v ∧ Run M k (.pan v) (eraseT s') Q)) → RunSP (M := M) (stepI (acall M) i s) ops k Q := by
   rintro e s' ⟨n, hn⟩ h
   unfold runOps at hn
   cases hs : stepI (callN M n) i s with
   | none => rw [hs] at hn; cases hn
   | some q =>
    obtain ⟨e1, s1⟩ := q
    rw [hs] at hn
    rw [(stepI_acall M).2 ⟨n, hs⟩]
    cases e1 with
    | norm =>
     rcases h with ⟨rfl, h⟩ | ⟨v, rfl, h⟩
     ·exact .inl ⟨s', ⟨n, hn⟩, h⟩
     ·exact .inr ⟨v, s', ⟨n, hn⟩, h⟩
    | exit id =>
     simp only [Option.some.injEq, Prod.mk.injEq] at hn
     obtain ⟨rfl, rfl⟩ := hn
     rcases h with ⟨h1, _⟩ | ⟨v, h1, _⟩ <;> cases h1
    | ret =>
     simp only [Option.some.injEq, Prod.mk.injEq] at hn
     obtain ⟨rfl, rfl⟩ := hn
     rcases h with ⟨h1, _⟩ | ⟨v, h1, _⟩ <;> cases h1
    | pan v =>
     simp only [Option.some.injEq, Prod.mk.injEq] at hn
     obtain ⟨rfl, rfl⟩ := hn
     rcases h with ⟨h1, _⟩ | ⟨v', h1, h⟩
     ·cases h1
     ·cases h1; exact h
  rcases hh with ⟨s', h1, h2⟩ | ⟨v, s', h1, h2⟩
  ·exact main _ _ h1 (.inl ⟨rfl, h2⟩)
  ·exact main _ _ h1 (.inr ⟨v, rfl, h2⟩)
 ·intro h
  cases hs : stepI (acall M) i s with
  | none => rw [hs] at h; exact h.elim
  | some q =>
   rw [hs] at h
   obtain ⟨e1, s1⟩ := q
   obtain ⟨n, hn⟩ := (stepI_acall M).1 hs
   have up : ∀ {e s'} , EvOps M ops s1 e s' → e1 = .norm → EvOps M (i :: ops) s e s' := by
    rintro e s' ⟨m, hm⟩ rfl
    refine ⟨max n m, ?_⟩
    unfold runOps
    rw [stepI_mono (callN_le M (Nat.le_max_left n m)) hn]
    exact runOps_mono (callN_le M (Nat.le_max_right n m)) hm
   cases e1 with
   | norm =>
    rcases h with ⟨s', h1, h2⟩ | ⟨v, s', h1, h2⟩
    ·exact .inl ⟨s', up h1 rfl, h2⟩
    ·exact .inr ⟨v, s', up h1 rfl, h2⟩
   | pan v => exact .inr ⟨v, s1, ⟨n, by unfold runOps; rw [hn]⟩, h⟩
   | _ => exact h.elim
theorem runSP_norm {ops : List AI} : RunSP (M := M) (some (.norm, s)) ops k Q ↔ RunP (M := M) ops k s Q := Iff.rfl
theorem runSP_pan {ops : List AI} {v : V} : RunSP (M := M) (some (.pan v, s)) ops k Q ↔ Q (.pan v) (eraseT s) := run_pan
theorem runSP_none {ops : List AI} : RunSP (M := M) none ops k Q ↔ False := Iff.rfl
theorem runSP_ite {ops : List AI} {c : Prop} [Decidable c] {x : Option (Ex × St)} : RunSP (M := M) (if c then x else none) ops k Q ↔ c ∧ RunSP (M := M) x ops k Q := by
 split
 ·rename_i h; exact ⟨fun x => ⟨h, x⟩, fun x => x.2⟩
 ·rename_i h; exact ⟨fun x => x.elim, fun x => (h x.1).elim⟩
theorem runSP_split {ops : List AI} {c : Prop} [Decidable c] {x y : Option (Ex × St)} : RunSP (M := M) (if c then x else y) ops k Q ↔ (if c then RunSP (M := M) x ops k Q else RunSP (M := M) y ops k Q) := by split <;> exact Iff.rfl
theorem Run.mono {k : List It} {Q Q' : Ex → St → Prop} (hq : ∀ e s, Q e s → Q' e s) : ∀ {e : Ex} {s : St}, Run M k e s Q → Run M k e s Q' := by
 induction k with
 | nil => intro e s h; exact hq _ _ h
 | cons i k ih =>
  intro e s h
  cases i with
  | c a => cases e with
   | norm => obtain ⟨e, s', h1, h2⟩ := h; exact ⟨e, s', h1, ih h2⟩
   | _ => exact ih h
  | lp a => cases e with
   | norm => obtain ⟨e, s', h1, h2⟩ := h; exact ⟨e, s', h1, ih h2⟩
   | _ => exact ih h
  | endB id => cases e with
   | norm => exact ih h
   | exit id' =>
    rw [run_exit_endB] at h ⊢
    split
    ·rename_i hid; rw [if_pos hid] at h; exact ih h
    ·rename_i hid; rw [if_neg hid] at h; exact ih h
   | ret => exact ih h
   | pan v => exact ih h
theorem acall_of_run {f : FuncId} {af : AF} {args : List V} {h : Heap} {r : Rt} (he : M.ext f args h = none) (hf : M.ft f = some af)
    (H : Run M [.c af.body] .norm ⟨frame af args, h⟩ (fun e s => finish af h.length (some (e, s)) = some r)) : acall M f args h = some r := by
  obtain ⟨e, s', ⟨n, hn⟩, h'⟩ := H
  refine (acall_iff M).2 ⟨n + 1, ?_⟩
  simp only [callN, he, hf]
  rw [hn]
  exact h'
end
end Go.Am
namespace Go.Am
section
variable {M : Mach} {k : List It} {s : St} {Q : Ex → St → Prop}
theorem run_loop_pre {m : List Bool} {a : AC} : Run M (.c (.loop (.pre m a)) :: k) .norm s Q ↔ Run M (.c a :: .lp (.pre m a) :: k) .norm { s with t := killM m m s.t } Q := by
 rw [run_loop, run_pre]
abbrev LoopRule (l b : AC) (m : List Bool) : Prop := ∀ (M : Mach) (k : List It) (s : St) (Q : Ex → St → Prop), Run M (.c (.loop l) :: k) .norm s Q ↔ Run M (.c b :: .lp l :: k) .norm { s with t := killM m m s.t } Q
abbrev LpRule (l b : AC) (m : List Bool) : Prop := ∀ (M : Mach) (k : List It) (s : St) (Q : Ex → St → Prop), Run M (.lp l :: k) .norm s Q ↔ Run M (.c b :: .lp l :: k) .norm { s with t := killM m m s.t } Q
theorem loopRule {m : List Bool} {a : AC} : LoopRule (.pre m a) a m := fun _ _ _ _ => run_loop_pre
theorem lpRule {m : List Bool} {a : AC} : LpRule (.pre m a) a m := fun _ _ _ _ => run_loop_pre
def K1 : Bool := true
def K0 : Bool := false
theorem K1_eq : K1 = true := rfl
theorem K0_eq : K0 = false := rfl
def RunC (M : Mach) (v : V) (a b : AC) (k : List It) (s : St) (Q : Ex → St → Prop) : Prop :=
 match v with
 | .bool t => if t = true then Run M (.c a :: k) .norm s Q else Run M (.c b :: k) .norm s Q
 | _ => False
theorem run_condC {c : Src} {a b : AC} : Run M (.c (.cond c a b) :: k) .norm s Q ↔ RunC M (ev (nth s.t) c) a b k s Q := by
 cases h : ev (nth s.t) c with
 | bool t => exact run_cond h
 | _ =>
  unfold RunC
  rw [run_c]
  constructor
  ·rintro ⟨e, s', ⟨n, hn⟩, -⟩
   simp [evC, h] at hn
  ·exact False.elim
theorem runC_bool {t : Bool} {a b : AC} : RunC M (.bool t) a b k s Q ↔ if t = true then Run M (.c a :: k) .norm s Q else Run M (.c b :: k) .norm s Q := Iff.rfl
theorem runC_true {a b : AC} : RunC M (.bool true) a b k s Q ↔ Run M (.c a :: k) .norm s Q := Iff.rfl
theorem runC_false {a b : AC} : RunC M (.bool false) a b k s Q ↔ Run M (.c b :: k) .norm s Q := by simp [runC_bool]
theorem runO_one {i : AI} {ops : List AI} : RunO M (i :: ops) k s Q ↔ RunS M (stepI (acall M) i s) ops k Q := runO_cons
theorem stepI_plain {c : CallF} {d : Option Nat} {op : AOp} : stepI c ⟨d, op, none⟩ s = stepR d s (opRes c (nth s.t) s.h op) := rfl
def guarded (c : CallF) (v : V) (d : Option Nat) (op : AOp) (want : Bool) (s : St) : Option (Ex × St) :=
 match v with
 | .bool b => if b = want then stepR d s (opRes c (nth s.t) s.h op) else stepR d s (some (.val [] (.tup []) s.h))
 | .tup [] => stepR d s (some (.val [] (.tup []) s.h))
 | _ => none
theorem stepI_guarded {c : CallF} {d : Option Nat} {op : AOp} {g : Nat} {want : Bool} : stepI c ⟨d, op, some (g, want)⟩ s = guarded c (nth s.t g) d op want s := rfl
theorem guarded_bool {c : CallF} {d : Option Nat} {op : AOp} {b want : Bool} : guarded c (.bool b) d op want s = if b = want then stepR d s (opRes c (nth s.t) s.h op) else stepR d s (some (.val [] (.tup []) s.h)) := rfl
theorem guarded_tup {c : CallF} {d : Option Nat} {op : AOp} {want : Bool} : guarded c (.tup []) d op want s = stepR d s (some (.val [] (.tup []) s.h)) := rfl
theorem stepR_none {d : Option Nat} : stepR d s none = none := rfl
theorem stepR_pan {d : Option Nat} {v : V} {h : Heap} : stepR d s (some (.pan v h)) = some (.pan v, ⟨s.t, h⟩) := rfl
theorem stepR_val0 {us : List (Nat × V × Bool)} {v : V} {h : Heap} : stepR none s (some (.val us v h)) = some (.norm, ⟨ups s.t us, h⟩) := rfl
theorem stepR_val {d : Nat} {us : List (Nat × V × Bool)} {v : V} {h : Heap} : stepR (some d) s (some (.val us v h)) = if (nth (ups s.t us) d).owner = false then some (.norm, ⟨upd (ups s.t us) d v, h⟩) else none := by
 unfold stepR put
 cases h : (nth (ups s.t us) d).owner <;> simp [h]
theorem stepR_ite {d : Option Nat} {c : Prop} [Decidable c] {x : Option Rs} : stepR d s (if c then x else none) = if c then stepR d s x else none := by split <;> rfl
theorem stepR_ite2 {d : Option Nat} {c : Prop} [Decidable c] {x y : Option Rs} : stepR d s (if c then x else y) = if c then stepR d s x else stepR d s y := by split <;> rfl
theorem runS_true {ops : List AI} {c : Prop} [Decidable c] {x : Option (Ex × St)} : RunS M (if c then x else none) ops k Q ↔ c ∧ RunS M x ops k Q := runS_ite
theorem runS_split {ops : List AI} {c : Prop} [Decidable c] {x y : Option (Ex × St)} : RunS M (if c then x else y) ops k Q ↔ (if c then RunS M x ops k Q else RunS M y ops k Q) := by split <;> exact Iff.rfl
theorem nth_zero {v : V} {l : List V} : nth (v :: l) 0 = v := rfl
theorem nth_succ {v : V} {l : List V} {n : Nat} : nth (v :: l) (n + 1) = nth l n := rfl
theorem upd_zero {v x : V} {l : List V} : upd (v :: l) 0 x = x :: l := rfl
theorem upd_succ {v x : V} {l : List V} {n : Nat} : upd (v :: l) (n + 1) x = v :: upd l n x := rfl
theorem hnth_zero {v : List V} {l : Heap} : hnth (v :: l) 0 = v := rfl
theorem hnth_succ {v : List V} {l : Heap} {n : Nat} : hnth (v :: l) (n + 1) = hnth l n := rfl
theorem hupd_zero {v x : List V} {l : Heap} : hupd (v :: l) 0 x = x :: l := rfl
theorem hupd_succ {v x : List V} {l : Heap} {n : Nat} : hupd (v :: l) (n + 1) x = v :: hupd l n x := rfl
theorem callR_ret {useH : Bool} {h h' : Heap} {us : List (Nat × V × Bool)} {v : V} : callR useH h us (some (.ret v h')) = if isAl v = true then none else some (.val us v (if useH then h' else h)) := rfl
theorem callR_pan {useH : Bool} {h h' : Heap} {us : List (Nat × V × Bool)} {v : V} : callR useH h us (some (.pan v h')) = some (.pan v (if useH then h' else h)) := rfl
theorem callR'_ret {h h' : Heap} {us : List (Nat × V × Bool)} {v : V} : callR' h us (some (.ret v h')) = if hbeq h' h = true then (if isAl v = true then none else some (.val us v h)) else none := rfl
theorem wrap_i64 {n : Int} (h : -9223372036854775808 ≤ n ∧ n ≤ 9223372036854775807) : IntKind.wrap .i64 n = n := by
 obtain ⟨h1, h2⟩ := h
 simp only [IntKind.wrap, IntKind.signed, IntKind.bits]
 simp
 omega
end
theorem owner_undef  : V.owner (.undef ) = false := rfl
theorem owner_bool (b : Bool) : V.owner (.bool b) = false := rfl
theorem owner_int (k : IntKind) (n : Int) : V.owner (.int k n) = false := rfl
theorem owner_str (s : List UInt8) : V.owner (.str s) = false := rfl
theorem owner_slT (sz : Nat) (xs : List V) : V.owner (.sl true sz xs) = true := rfl
theorem owner_slF (sz : Nat) (xs : List V) : V.owner (.sl false sz xs) = false := rfl
theorem owner_agg (cs : List V) : V.owner (.agg cs) = false := rfl
theorem owner_tup (vs : List V) : V.owner (.tup vs) = false := rfl
theorem owner_ptr (i o : Nat) : V.owner (.ptr i o) = false := rfl
theorem owner_rptr (cs : List V) : V.owner (.rptr cs) = false := rfl
theorem owner_box (cs : List V) : V.owner (.box cs) = true := rfl
theorem owner_bref (d o : Nat) : V.owner (.bref d o) = false := rfl
theorem owner_al (d : Nat) : V.owner (.al d) = false := rfl
theorem owner_fn (f : FuncId) (cs : List V) : V.owner (.fn f cs) = false := rfl
theorem owner_ifc (t : TypeId) (v : V) : V.owner (.ifc t v) = false := rfl
theorem owner_nilIfc  : V.owner (.nilIfc ) = false := rfl
theorem owner_iter (s : List UInt8) (n : Nat) : V.owner (.iter s n) = false := rfl
theorem lin_undef  : V.lin (.undef ) = false := rfl
theorem lin_bool (b : Bool) : V.lin (.bool b) = false := rfl
theorem lin_int (k : IntKind) (n : Int) : V.lin (.int k n) = false := rfl
theorem lin_str (s : List UInt8) : V.lin (.str s) = false := rfl
theorem lin_slT (sz : Nat) (xs : List V) : V.lin (.sl true sz xs) = true := rfl
theorem lin_slF (sz : Nat) (xs : List V) : V.lin (.sl false sz xs) = false := rfl
theorem lin_agg (cs : List V) : V.lin (.agg cs) = false := rfl
theorem lin_tup (vs : List V) : V.lin (.tup vs) = true := rfl
theorem lin_ptr (i o : Nat) : V.lin (.ptr i o) = false := rfl
theorem lin_rptr (cs : List V) : V.lin (.rptr cs) = false := rfl
theorem lin_box (cs : List V) : V.lin (.box cs) = true := rfl
theorem lin_bref (d o : Nat) : V.lin (.bref d o) = false := rfl
theorem lin_al (d : Nat) : V.lin (.al d) = false := rfl
theorem lin_fn (f : FuncId) (cs : List V) : V.lin (.fn f cs) = false := rfl
theorem lin_ifc (t : TypeId) (v : V) : V.lin (.ifc t v) = false := rfl
theorem lin_nilIfc  : V.lin (.nilIfc ) = false := rfl
theorem lin_iter (s : List UInt8) (n : Nat) : V.lin (.iter s n) = true := rfl
theorem data_undef  : V.data (.undef ) = false := rfl
theorem data_bool (b : Bool) : V.data (.bool b) = true := rfl
theorem data_int (k : IntKind) (n : Int) : V.data (.int k n) = true := rfl
theorem data_str (s : List UInt8) : V.data (.str s) = true := rfl
theorem data_slT (sz : Nat) (xs : List V) : V.data (.sl true sz xs) = false := rfl
theorem data_slF (sz : Nat) (xs : List V) : V.data (.sl false sz xs) = true := rfl
theorem data_agg (cs : List V) : V.data (.agg cs) = true := rfl
theorem data_tup (vs : List V) : V.data (.tup vs) = false := rfl
theorem data_ptr (i o : Nat) : V.data (.ptr i o) = false := rfl
theorem data_rptr (cs : List V) : V.data (.rptr cs) = false := rfl
theorem data_box (cs : List V) : V.data (.box cs) = false := rfl
theorem data_bref (d o : Nat) : V.data (.bref d o) = false := rfl
theorem data_al (d : Nat) : V.data (.al d) = false := rfl
theorem data_fn (f : FuncId) (cs : List V) : V.data (.fn f cs) = false := rfl
theorem data_ifc (t : TypeId) (v : V) : V.data (.ifc t v) = true := rfl
theorem data_nilIfc  : V.data (.nilIfc ) = true := rfl
theorem data_iter (s : List UInt8) (n : Nat) : V.data (.iter s n) = false := rfl
theorem cells_undef  : V.cells (.undef ) = [.undef ] := rfl
theorem sh_undef  : V.sh (.undef ) = .undef  := rfl
theorem killb_undef (e : Nat)  : V.killb e (.undef ) = .undef  := rfl
theorem killAt_undef (m : List Bool)  : killAt m (.undef ) = .undef  := rfl
theorem cells_bool (b : Bool) : V.cells (.bool b) = [.bool b] := rfl
theorem sh_bool (b : Bool) : V.sh (.bool b) = .bool b := rfl
theorem killb_bool (e : Nat) (b : Bool) : V.killb e (.bool b) = .bool b := rfl
theorem killAt_bool (m : List Bool) (b : Bool) : killAt m (.bool b) = .bool b := rfl
theorem cells_int (k : IntKind) (n : Int) : V.cells (.int k n) = [.int k n] := rfl
theorem sh_int (k : IntKind) (n : Int) : V.sh (.int k n) = .int k n := rfl
theorem killb_int (e : Nat) (k : IntKind) (n : Int) : V.killb e (.int k n) = .int k n := rfl
theorem killAt_int (m : List Bool) (k : IntKind) (n : Int) : killAt m (.int k n) = .int k n := rfl
theorem cells_str (s : List UInt8) : V.cells (.str s) = [.str s] := rfl
theorem sh_str (s : List UInt8) : V.sh (.str s) = .str s := rfl
theorem killb_str (e : Nat) (s : List UInt8) : V.killb e (.str s) = .str s := rfl
theorem killAt_str (m : List Bool) (s : List UInt8) : killAt m (.str s) = .str s := rfl
theorem cells_slT (sz : Nat) (xs : List V) : V.cells (.sl true sz xs) = [.sl true sz xs] := rfl
theorem sh_slT (sz : Nat) (xs : List V) : V.sh (.sl true sz xs) = .sl false sz xs := rfl
theorem killb_slT (e : Nat) (sz : Nat) (xs : List V) : V.killb e (.sl true sz xs) = .sl true sz xs := rfl
theorem killAt_slT (m : List Bool) (sz : Nat) (xs : List V) : killAt m (.sl true sz xs) = .sl true sz xs := rfl
theorem cells_slF (sz : Nat) (xs : List V) : V.cells (.sl false sz xs) = [.sl false sz xs] := rfl
theorem sh_slF (sz : Nat) (xs : List V) : V.sh (.sl false sz xs) = .sl false sz xs := rfl
theorem killb_slF (e : Nat) (sz : Nat) (xs : List V) : V.killb e (.sl false sz xs) = .sl false sz xs := rfl
theorem killAt_slF (m : List Bool) (sz : Nat) (xs : List V) : killAt m (.sl false sz xs) = .sl false sz xs := rfl
theorem cells_agg (cs : List V) : V.cells (.agg cs) = cs := rfl
theorem sh_agg (cs : List V) : V.sh (.agg cs) = .agg cs := rfl
theorem killb_agg (e : Nat) (cs : List V) : V.killb e (.agg cs) = .agg cs := rfl
theorem killAt_agg (m : List Bool) (cs : List V) : killAt m (.agg cs) = .agg cs := rfl
theorem cells_tup (vs : List V) : V.cells (.tup vs) = [.tup vs] := rfl
theorem sh_tup (vs : List V) : V.sh (.tup vs) = .tup vs := rfl
theorem killb_tup (e : Nat) (vs : List V) : V.killb e (.tup vs) = .tup vs := rfl
theorem killAt_tup (m : List Bool) (vs : List V) : killAt m (.tup vs) = .tup vs := rfl
theorem cells_ptr (i o : Nat) : V.cells (.ptr i o) = [.ptr i o] := rfl
theorem sh_ptr (i o : Nat) : V.sh (.ptr i o) = .ptr i o := rfl
theorem killb_ptr (e : Nat) (i o : Nat) : V.killb e (.ptr i o) = .ptr i o := rfl
theorem killAt_ptr (m : List Bool) (i o : Nat) : killAt m (.ptr i o) = .ptr i o := rfl
theorem cells_rptr (cs : List V) : V.cells (.rptr cs) = [.rptr cs] := rfl
theorem sh_rptr (cs : List V) : V.sh (.rptr cs) = .rptr cs := rfl
theorem killb_rptr (e : Nat) (cs : List V) : V.killb e (.rptr cs) = .rptr cs := rfl
theorem killAt_rptr (m : List Bool) (cs : List V) : killAt m (.rptr cs) = .rptr cs := rfl
theorem cells_box (cs : List V) : V.cells (.box cs) = [.box cs] := rfl
theorem sh_box (cs : List V) : V.sh (.box cs) = .box cs := rfl
theorem killb_box (e : Nat) (cs : List V) : V.killb e (.box cs) = .box cs := rfl
theorem killAt_box (m : List Bool) (cs : List V) : killAt m (.box cs) = .box cs := rfl
theorem cells_bref (d o : Nat) : V.cells (.bref d o) = [.bref d o] := rfl
theorem sh_bref (d o : Nat) : V.sh (.bref d o) = .bref d o := rfl
theorem killb_bref (e d o : Nat) : V.killb e (.bref d o) = if d = e then .undef else .bref d o := rfl
theorem killAt_bref (m : List Bool) (d o : Nat) : killAt m (.bref d o) = if nthB m d then .undef else .bref d o := rfl
theorem cells_al (d : Nat) : V.cells (.al d) = [.al d] := rfl
theorem sh_al (d : Nat) : V.sh (.al d) = .al d := rfl
theorem killb_al (e d : Nat) : V.killb e (.al d) = if d = e then .undef else .al d := rfl
theorem killAt_al (m : List Bool) (d : Nat) : killAt m (.al d) = if nthB m d then .undef else .al d := rfl
theorem cells_fn (f : FuncId) (cs : List V) : V.cells (.fn f cs) = [.fn f cs] := rfl
theorem sh_fn (f : FuncId) (cs : List V) : V.sh (.fn f cs) = .fn f cs := rfl
theorem killb_fn (e : Nat) (f : FuncId) (cs : List V) : V.killb e (.fn f cs) = .fn f cs := rfl
theorem killAt_fn (m : List Bool) (f : FuncId) (cs : List V) : killAt m (.fn f cs) = .fn f cs := rfl
theorem cells_ifc (t : TypeId) (v : V) : V.cells (.ifc t v) = [.ifc t v] := rfl
theorem sh_ifc (t : TypeId) (v : V) : V.sh (.ifc t v) = .ifc t v := rfl
theorem killb_ifc (e : Nat) (t : TypeId) (v : V) : V.killb e (.ifc t v) = .ifc t v := rfl
theorem killAt_ifc (m : List Bool) (t : TypeId) (v : V) : killAt m (.ifc t v) = .ifc t v := rfl
theorem cells_nilIfc  : V.cells (.nilIfc ) = [.nilIfc ] := rfl
theorem sh_nilIfc  : V.sh (.nilIfc ) = .nilIfc  := rfl
theorem killb_nilIfc (e : Nat)  : V.killb e (.nilIfc ) = .nilIfc  := rfl
theorem killAt_nilIfc (m : List Bool)  : killAt m (.nilIfc ) = .nilIfc  := rfl
theorem cells_iter (s : List UInt8) (n : Nat) : V.cells (.iter s n) = [.iter s n] := rfl
theorem sh_iter (s : List UInt8) (n : Nat) : V.sh (.iter s n) = .iter s n := rfl
theorem killb_iter (e : Nat) (s : List UInt8) (n : Nat) : V.killb e (.iter s n) = .iter s n := rfl
theorem killAt_iter (m : List Bool) (s : List UInt8) (n : Nat) : killAt m (.iter s n) = .iter s n := rfl
theorem one_undef  : V.one (.undef ) = false := rfl
theorem one_bool (b : Bool) : V.one (.bool b) = true := rfl
theorem one_int (k : IntKind) (n : Int) : V.one (.int k n) = true := rfl
theorem one_str (s : List UInt8) : V.one (.str s) = true := rfl
theorem one_slT (sz : Nat) (xs : List V) : V.one (.sl true sz xs) = false := rfl
theorem one_slF (sz : Nat) (xs : List V) : V.one (.sl false sz xs) = true := rfl
theorem one_agg (cs : List V) : V.one (.agg cs) = false := rfl
theorem one_tup (vs : List V) : V.one (.tup vs) = false := rfl
theorem one_ptr (i o : Nat) : V.one (.ptr i o) = false := rfl
theorem one_rptr (cs : List V) : V.one (.rptr cs) = false := rfl
theorem one_box (cs : List V) : V.one (.box cs) = false := rfl
theorem one_bref (d o : Nat) : V.one (.bref d o) = false := rfl
theorem one_al (d : Nat) : V.one (.al d) = false := rfl
theorem one_fn (f : FuncId) (cs : List V) : V.one (.fn f cs) = false := rfl
theorem one_ifc (t : TypeId) (v : V) : V.one (.ifc t v) = true := rfl
theorem one_nilIfc  : V.one (.nilIfc ) = true := rfl
theorem one_iter (s : List UInt8) (n : Nat) : V.one (.iter s n) = false := rfl
theorem isAl_undef  : isAl (.undef ) = false := rfl
theorem isAl_bool (b : Bool) : isAl (.bool b) = false := rfl
theorem isAl_int (k : IntKind) (n : Int) : isAl (.int k n) = false := rfl
theorem isAl_str (s : List UInt8) : isAl (.str s) = false := rfl
theorem isAl_sl (o : Bool) (sz : Nat) (xs : List V) : isAl (.sl o sz xs) = false := rfl
theorem isAl_agg (cs : List V) : isAl (.agg cs) = false := rfl
theorem isAl_tup (vs : List V) : isAl (.tup vs) = false := rfl
theorem isAl_ptr (i o : Nat) : isAl (.ptr i o) = false := rfl
theorem isAl_rptr (cs : List V) : isAl (.rptr cs) = false := rfl
theorem isAl_box (cs : List V) : isAl (.box cs) = false := rfl
theorem isAl_bref (d o : Nat) : isAl (.bref d o) = true := rfl
theorem isAl_al (d : Nat) : isAl (.al d) = true := rfl
theorem isAl_fn (f : FuncId) (cs : List V) : isAl (.fn f cs) = false := rfl
theorem isAl_ifc (t : TypeId) (v : V) : isAl (.ifc t v) = false := rfl
theorem isAl_nilIfc  : isAl (.nilIfc ) = false := rfl
theorem isAl_iter (s : List UInt8) (n : Nat) : isAl (.iter s n) = false := rfl
theorem nth_map {α : Type} (f : α → V) : ∀ (xs : List α) (i : Nat) (h : i < xs.length), nth (xs.map f) i = f (xs[i])
 | x :: xs, 0, _ => rfl
 | x :: xs, i + 1, h => nth_map f xs i (by simpa using h)
attribute [go_sem] owner_undef owner_bool owner_int owner_str owner_slT owner_slF owner_agg owner_tup owner_ptr owner_rptr owner_box owner_bref owner_al owner_fn owner_ifc owner_nilIfc owner_iter lin_undef lin_bool lin_int lin_str lin_slT lin_slF lin_agg lin_tup lin_ptr lin_rptr lin_box lin_bref lin_al lin_fn lin_ifc lin_nilIfc lin_iter data_undef data_bool data_int data_str data_slT data_slF data_agg data_tup data_ptr data_rptr data_box data_bref data_al data_fn data_ifc data_nilIfc data_iter cells_undef sh_undef killb_undef killAt_undef cells_bool sh_bool killb_bool killAt_bool cells_int sh_int killb_int killAt_int cells_str sh_str killb_str killAt_str cells_slT sh_slT killb_slT killAt_slT cells_slF sh_slF killb_slF killAt_slF cells_agg sh_agg killb_agg killAt_agg cells_tup sh_tup killb_tup killAt_tup cells_ptr sh_ptr killb_ptr killAt_ptr cells_rptr sh_rptr killb_rptr killAt_rptr cells_box sh_box killb_box killAt_box cells_bref sh_bref killb_bref killAt_bref cells_al sh_al killb_al killAt_al cells_fn sh_fn killb_fn killAt_fn cells_ifc sh_ifc killb_ifc killAt_ifc cells_nilIfc sh_nilIfc killb_nilIfc killAt_nilIfc cells_iter sh_iter killb_iter killAt_iter nth_map
attribute [go_sem] one_undef one_bool one_int one_str one_slT one_slF one_agg one_tup one_ptr one_rptr one_box one_bref one_al one_fn one_ifc one_nilIfc one_iter isAl_undef isAl_bool isAl_int isAl_str isAl_sl isAl_agg isAl_tup isAl_ptr isAl_rptr isAl_box isAl_bref isAl_al isAl_fn isAl_ifc isAl_nilIfc isAl_iter pickOk
attribute [go_sem] K1_eq K0_eq run_seq run_shr run_preg runP_nil runP_cons runSP_norm runSP_pan runSP_none runSP_ite runSP_split eraseT callR'_ret hbeq_refl V.isUndef run_reg run_dreg runN_nil runN_cons runSN_norm runSN_pan runSN_none runSN_ite runSN_split runO_nil runO_one runS_norm runS_pan runS_none runS_true runS_split run_skip run_exit run_cret run_pre run_blk run_endB run_exit_c run_exit_lp
  run_exit_endB run_nil run_ret run_pan run_condC runC_true runC_false runC_bool stepI_plain stepI_guarded guarded_bool guarded_tup stepR_none stepR_pan stepR_val0 stepR_val stepR_ite stepR_ite2
  nth_zero nth_succ upd_zero upd_succ hnth_zero hnth_succ hupd_zero hupd_succ callR_ret callR_pan
  opRes ev cpV dat mvUps place rdsl intOf memOf overlay fill fillE binV eq1 eqL unV pickV bound argsOf capsOf stVal ups ups1 killM nthB isU8 List.map_cons List.map_nil List.length_map Int.toNat_natCast Int.toNat_zero Bool.false_eq_true Bool.true_eq_false Bool.or_self Bool.or_false Bool.false_or Bool.or_true Bool.true_or List.take_succ_cons List.take_zero List.drop_succ_cons List.drop_zero List.all_cons List.all_nil Bool.and_self Bool.and_true Bool.true_and List.append_nil List.nil_append List.cons_append List.isEmpty_nil List.isEmpty_cons and_false false_and
   ite_true ite_false if_true if_false and_true true_and and_self List.length_cons List.length_nil decide_eq_true_eq decide_eq_false_iff_not beq_iff_eq
end Go.Am
set_option linter.unusedVariables false
set_option linter.unusedSimpArgs false
namespace Go.Am
open Go Go.RowKit
theorem V.one_data {v : V} (h : v.one = true) : v.data = true := by cases v <;> first | rfl | cases h | (rename_i o _ _; cases o <;> first | rfl | cases h)
theorem V.one_cells {v : V} (h : v.one = true) : v.cells = [v] := by cases v <;> first | rfl | cases h
inductive RepD (w : World) (F : Nat → Nat) : Value → V → Prop
 | bool (b : Bool) : RepD w F (.bool b) (.bool b)
 | int (k : IntKind) (n : Int) : RepD w F (.int k n) (.int k n)
 | str (s : ByteArray) (l : List UInt8) : s.data.toList = l → RepD w F (.string s) (.str l)
 | slnil (p : Option Addr) (sz : Nat) : RepD w F (.slice p 0 0) (.sl false sz [])
 | sl (b off len cap sz : Nat) (xs : List V) (cvf : Nat → Nat → Value) : sz ≠ 0 → len = xs.length → len ≤ cap → off + xs.length * sz ≤ F b →
   (∀ i, i < xs.length → (nth xs i).cells.length = sz ∧ (nth xs i).data = true) →
   (∀ i j, i < xs.length → j < sz → w.cell? ⟨b, off + i * sz + j, none⟩ = some (cvf i j)) →
   (∀ i j, i < xs.length → j < sz → (nth (nth xs i).cells j).one = true) →
   (∀ i j, i < xs.length → j < sz → RepD w F (cvf i j) (nth (nth xs i).cells j)) → RepD w F (.slice (some ⟨b, off, none⟩) len cap) (.sl false sz xs)
 | agg (cvs : Array Value) (cs : List V) : cvs.size = cs.length → (∀ j, j < cs.length → (nth cs j).one = true) →
   (∀ j (h : j < cvs.size), RepD w F cvs[j] (nth cs j)) → RepD w F (.agg cvs) (.agg cs)
 | ifc (t : TypeId) (cv : Value) (v : V) : RepD w F cv v → RepD w F (.iface t cv) (.ifc t v)
 | nilIfc : RepD w F .nilIface .nilIfc
theorem RepD.data {w : World} {F : Nat → Nat} {cv : Value} {v : V} (h : RepD w F cv v) : v.data = true := by cases h <;> rfl
theorem RepD.oneCell {w : World} {F : Nat → Nat} {cv : Value} {v : V} (h : RepD w F cv v) (h1 : v.one = true) : cv.oneCell' = true := by
 cases h <;> first | rfl | cases h1
theorem RepD.cells_one {w : World} {F : Nat → Nat} {cv : Value} {v : V} (h : RepD w F cv v) (h1 : v.one = true) : cv.cells = #[cv] := by
 cases h <;> first | rfl | cases h1
theorem RepD.mono {w w' : World} {F F' : Nat → Nat} (hc : ∀ b o, o < F b → w'.cell? ⟨b, o, none⟩ = w.cell? ⟨b, o, none⟩) (hF : ∀ b, F b ≤ F' b) {cv : Value} {v : V}
    (h : RepD w F cv v) : RepD w' F' cv v := by
  induction h with
  | bool b => exact .bool b
  | int k n => exact .int k n
  | str s l h => exact .str s l h
  | slnil p sz => exact .slnil p sz
  | sl b off len cap sz xs cvf h0 h1 h2 h3 h4 h5 h6 _ ih =>
    refine .sl b off len cap sz xs cvf h0 h1 h2 (Nat.le_trans h3 (hF b)) h4 (fun i j hi hj => ?_) h6 ih
    rw [hc b _ ?_]
    · exact h5 i j hi hj
    · have : i * sz + sz ≤ xs.length * sz := by
        have := Nat.mul_le_mul_right sz (Nat.succ_le_of_lt hi)
        rw [Nat.succ_mul] at this
        exact this
      omega
  | agg cvs cs h1 h2 _ ih => exact .agg cvs cs h1 h2 ih
  | ifc t cv v _ ih => exact .ifc t cv v ih
  | nilIfc => exact .nilIfc
structure OwnSl (w : World) (F : Nat → Nat) (b len cap sz : Nat) (xs : List V) : Prop where
 hlen : len = xs.length
 hcap : len ≤ cap
 zero : F b = 0
 block : ∃ cur e fr, w.heap[b]? = some (.cells cur e fr) ∧ cap * sz ≤ cur.size ∧ (∀ o, o < cur.size → w.frozen? ⟨b, o, none⟩ = false)
 elem : ∀ i, i < xs.length → (nth xs i).cells.length = sz ∧ (nth xs i).data = true
 cell : ∀ i j, i < xs.length → j < sz → ∃ cv, w.cell? ⟨b, i * sz + j, none⟩ = some cv ∧ RepD w F cv (nth (nth xs i).cells j) ∧ (nth (nth xs i).cells j).one = true
 hsz : sz ≠ 0
inductive RepE (w : World) (F : Nat → Nat) : Value → V → List Nat → Prop
 | d (cv : Value) (v : V) : RepD w F cv v → RepE w F cv v []
 | undef (cv : Value) : RepE w F cv .undef []
 | ownnil (sz : Nat) : RepE w F (.slice none 0 0) (.sl true sz []) []
 | own (b len cap sz : Nat) (xs : List V) : OwnSl w F b len cap sz xs → RepE w F (.slice (some ⟨b, 0, none⟩) len cap) (.sl true sz xs) [b]
inductive RepL (R : Value → V → List Nat → Prop) : List Value → List V → List Nat → Prop
 | nil : RepL R [] [] []
 | cons (cv : Value) (v : V) (cvs : List Value) (vs : List V) (os os' : List Nat) : R cv v os → RepL R cvs vs os' → RepL R (cv :: cvs) (v :: vs) (os ++ os')
def RepC (w : World) (F : Nat → Nat) (cv : Value) (v : V) (os : List Nat) : Prop := RepE w F cv v os ∧ cv.oneCell' = true ∧ (v.data = true → v.one = true)
def OwnCells (w : World) (F : Nat → Nat) (b : Nat) (cs : List V) (os : List Nat) : Prop :=
 F b = 0 ∧ ∃ cur e fr, w.heap[b]? = some (.cells cur e fr) ∧ (∀ o, o < cur.size → w.frozen? ⟨b, o, none⟩ = false) ∧ RepL (RepC w F) cur.toList cs os
inductive RepV (w : World) (F : Nat → Nat) (ρ : List Nat) : Value → V → List Nat → Prop
 | e (cv : Value) (v : V) (os : List Nat) : RepE w F cv v os → RepV w F ρ cv v os
 | tup (cvs : List Value) (vs : List V) (os : List Nat) : RepL (RepE w F) cvs vs os → RepV w F ρ (.tuple cvs.toArray) (.tup vs) os
 | ptr (id off b : Nat) : ρ[id]? = some b → RepV w F ρ (.pointer (some ⟨b, off, none⟩)) (.ptr id off) []
 | rptr (b off : Nat) (cs : List V) (cvf : Nat → Value) : off + cs.length ≤ F b → (∀ j, j < cs.length → w.cell? ⟨b, off + j, none⟩ = some (cvf j)) →
   (∀ j, j < cs.length → RepD w F (cvf j) (nth cs j) ∧ (nth cs j).one = true) → RepV w F ρ (.pointer (some ⟨b, off, none⟩)) (.rptr cs) []
 | box (b : Nat) (cs : List V) (os : List Nat) : OwnCells w F b cs os → RepV w F ρ (.pointer (some ⟨b, 0, none⟩)) (.box cs) (b :: os)
 | bref (cv : Value) (d off : Nat) : RepV w F ρ cv (.bref d off) []
 | al (cv : Value) (d : Nat) : RepV w F ρ cv (.al d) []
 | fn (f : FuncId) (cvs : Array Value) (caps : List V) : cvs.size = caps.length →
   (∀ j, j < caps.length → ∃ id o b, nth caps j = .ptr id o ∧ ρ[id]? = some b ∧ cvs[j]? = some (.pointer (some ⟨b, o, none⟩))) → RepV w F ρ (.func (.func f) #[] cvs) (.fn f caps) []
 | iter (b : Nat) (s : ByteArray) (l : List UInt8) (pos : Nat) : F b = 0 → s.data.toList = l → w.heap[b]? = some (.stringIter s pos) → RepV w F ρ (.pointer (some ⟨b, 0, none⟩)) (.iter l pos) [b]
inductive RepH (w : World) (F : Nat → Nat) : List Nat → Heap → List Nat → Prop
 | nil : RepH w F [] [] []
 | cons (b : Nat) (cs : List V) (ρ : List Nat) (h : Heap) (os os' : List Nat) : OwnCells w F b cs os → RepH w F ρ h os' → RepH w F (b :: ρ) (cs :: h) (b :: os ++ os')
structure Ext (B : Nat) (w : World) (F : Nat → Nat) (w' : World) (F' : Nat → Nat) (T : Nat → Prop) : Prop where
 below : Below B w w'
 size : w.heap.size ≤ w'.heap.size
 cell : ∀ b o, o < F b → w'.cell? ⟨b, o, none⟩ = w.cell? ⟨b, o, none⟩
 mono : ∀ b, F b ≤ F' b
 keep : ∀ b, ¬ T b → b < w.heap.size → w'.heap[b]? = w.heap[b]? ∧ F' b = F b
 fresh : ∀ b, w'.heap.size ≤ b → F' b = 0
theorem Ext.refl {B : Nat} {w : World} {F : Nat → Nat} {T : Nat → Prop} (hf : ∀ b, w.heap.size ≤ b → F b = 0) : Ext B w F w F T :=
 ⟨Below.refl _ _, Nat.le_refl _, fun _ _ _ => rfl, fun _ => Nat.le_refl _, fun _ _ _ => ⟨rfl, rfl⟩, hf⟩
theorem Ext.trans {B : Nat} {w w1 w2 : World} {F F1 F2 : Nat → Nat} {T T' : Nat → Prop} (h : Ext B w F w1 F1 T) (h' : Ext B w1 F1 w2 F2 T') :
    Ext B w F w2 F2 (fun b => T b ∨ T' b) :=
  ⟨h.below.trans h'.below, Nat.le_trans h.size h'.size, fun b o ho => (h'.cell b o (Nat.lt_of_lt_of_le ho (h.mono b))).trans (h.cell b o ho), fun b => Nat.le_trans (h.mono b) (h'.mono b),
   fun b hb hs => by
     have h1 := h.keep b (fun t => hb (.inl t)) hs
     have h2 := h'.keep b (fun t => hb (.inr t)) (Nat.lt_of_lt_of_le hs h.size)
     exact ⟨h2.1.trans h1.1, h2.2.trans h1.2⟩, h'.fresh⟩
theorem Ext.weaken {B : Nat} {w w' : World} {F F' : Nat → Nat} {T T' : Nat → Prop} (h : Ext B w F w' F' T) (ht : ∀ b, b < w.heap.size → T b → T' b) : Ext B w F w' F' T' :=
 ⟨h.below, h.size, h.cell, h.mono, fun b hb hs => h.keep b (fun t => hb (ht b hs t)) hs, h.fresh⟩
section
variable {B : Nat} {w w' : World} {F F' : Nat → Nat} {T : Nat → Prop}
theorem RepD.ext (h : Ext B w F w' F' T) {cv : Value} {v : V} (r : RepD w F cv v) : RepD w' F' cv v := r.mono h.cell h.mono
theorem cell_of_block {b o : Nat} (h : w'.heap[b]? = w.heap[b]?) : w'.cell? ⟨b, o, none⟩ = w.cell? ⟨b, o, none⟩ := by simp [World.cell?, h]
theorem frozen_of_block {b o : Nat} (h : w'.heap[b]? = w.heap[b]?) : w'.frozen? ⟨b, o, none⟩ = w.frozen? ⟨b, o, none⟩ := by simp [World.frozen?, h]
theorem OwnSl.lt {b len cap sz : Nat} {xs : List V} (r : OwnSl w F b len cap sz xs) : b < w.heap.size := by
 obtain ⟨cur, e, fr, h, _⟩ := r.block
 exact (Array.getElem?_eq_some_iff.1 h).1
theorem OwnSl.ext (h : Ext B w F w' F' T) {b len cap sz : Nat} {xs : List V} (r : OwnSl w F b len cap sz xs) (hb : ¬ T b) : OwnSl w' F' b len cap sz xs := by
 obtain ⟨h1, h2⟩ := h.keep b hb r.lt
 refine ⟨r.hlen, r.hcap, h2.trans r.zero, ?_, r.elem, fun i j hi hj => ?_, r.hsz⟩
 ·obtain ⟨cur, e, fr, a1, a2, a3⟩ := r.block
  exact ⟨cur, e, fr, h1.trans a1, a2, fun o ho => (frozen_of_block h1).trans (a3 o ho)⟩
 ·obtain ⟨cv, c1, c2, c3⟩ := r.cell i j hi hj
  exact ⟨cv, (cell_of_block h1).trans c1, c2.ext h, c3⟩
theorem RepE.ext (h : Ext B w F w' F' T) {cv : Value} {v : V} {os : List Nat} (r : RepE w F cv v os) (hb : ∀ b ∈ os, ¬ T b) : RepE w' F' cv v os := by
 cases r with
 | d _ _ r => exact .d _ _ (r.ext h)
 | undef => exact .undef _
 | ownnil sz => exact .ownnil sz
 | own b len cap sz xs r => exact .own b len cap sz xs (r.ext h (hb b (List.mem_singleton.2 rfl)))
theorem RepL.imp {R R' : Value → V → List Nat → Prop} {cvs : List Value} {vs : List V} {os : List Nat} (r : RepL R cvs vs os)
    (h : ∀ cv v os', R cv v os' → (∀ b ∈ os', b ∈ os) → R' cv v os') : RepL R' cvs vs os := by
  induction r with
  | nil => exact .nil
  | cons cv v cvs vs os os' a _ ih =>
    exact .cons _ _ _ _ _ _ (h _ _ _ a (fun b hb => List.mem_append_left _ hb)) (ih fun cv v o r hb => h _ _ _ r (fun b hbb => List.mem_append_right _ (hb b hbb)))
theorem RepC.ext (h : Ext B w F w' F' T) {cv : Value} {v : V} {os : List Nat} (r : RepC w F cv v os) (hb : ∀ b ∈ os, ¬ T b) : RepC w' F' cv v os := ⟨r.1.ext h hb, r.2⟩
theorem OwnCells.lt {b : Nat} {cs : List V} {os : List Nat} (r : OwnCells w F b cs os) : b < w.heap.size := by
 obtain ⟨_, cur, e, fr, h, _⟩ := r
 exact (Array.getElem?_eq_some_iff.1 h).1
theorem OwnCells.ext (h : Ext B w F w' F' T) {b : Nat} {cs : List V} {os : List Nat} (r : OwnCells w F b cs os) (hb : ¬ T b) (ho : ∀ b ∈ os, ¬ T b) : OwnCells w' F' b cs os := by
 obtain ⟨h1, h2⟩ := h.keep b hb r.lt
 obtain ⟨z, cur, e, fr, a1, a2, a3⟩ := r
 exact ⟨h2.trans z, cur, e, fr, h1.trans a1, fun o ho => (frozen_of_block h1).trans (a2 o ho), a3.imp fun cv v os' r hm => r.ext h fun b hb => ho b (hm b hb)⟩
theorem RepV.ext (h : Ext B w F w' F' T) {ρ ρ' : List Nat} (hρ : ∀ (id b : Nat), ρ[id]? = some b → ρ'[id]? = some b) {cv : Value} {v : V} {os : List Nat} (r : RepV w F ρ cv v os)
    (hs : ∀ b ∈ os, b < w.heap.size) (hb : ∀ b ∈ os, ¬ T b) : RepV w' F' ρ' cv v os := by
  cases r with
  | e _ _ _ r => exact .e _ _ _ (r.ext h hb)
  | tup cvs vs os r => exact .tup _ _ _ (r.imp fun cv v os' r hm => r.ext h fun b hbb => hb b (hm b hbb))
  | ptr id off b r => exact .ptr id off b (hρ _ _ r)
  | rptr b off cs cvf r1 r2 r3 =>
    refine .rptr b off cs cvf (Nat.le_trans r1 (h.mono b)) (fun j hj => ?_) (fun j hj => ⟨(r3 j hj).1.ext h, (r3 j hj).2⟩)
    rw [h.cell b _ (by omega)]
    exact r2 j hj
  | box b cs os r => exact .box b cs os (r.ext h (hb b (List.mem_cons_self ..)) fun b hbb => hb b (List.mem_cons_of_mem _ hbb))
  | bref => exact .bref _ _ _
  | al => exact .al _ _
  | fn f cvs caps r1 r2 =>
    refine .fn f cvs caps r1 fun j hj => ?_
    obtain ⟨id, o, b, a1, a2, a3⟩ := r2 j hj
    exact ⟨id, o, b, a1, hρ _ _ a2, a3⟩
  | iter b s l pos r1 r2 r3 =>
    obtain ⟨h1, h2⟩ := h.keep b (hb b (List.mem_singleton.2 rfl)) (hs b (List.mem_singleton.2 rfl))
    exact .iter b s l pos (h2.trans r1) r2 (h1.trans r3)
theorem RepH.ext (h : Ext B w F w' F' T) {ρ : List Nat} {hp : Heap} {os : List Nat} (r : RepH w F ρ hp os) (hb : ∀ b ∈ os, ¬ T b) : RepH w' F' ρ hp os := by
 induction r with
 | nil => exact .nil
 | cons b cs ρ hp os os' a _ ih =>
  refine .cons _ _ _ _ _ _ (a.ext h (hb b (by simp)) fun c hc => hb c (by simp [hc])) (ih fun c hc => hb c (by simp [hc]))
theorem RepL.ext (h : Ext B w F w' F' T) {ρ ρ' : List Nat} (hρ : ∀ (id b : Nat), ρ[id]? = some b → ρ'[id]? = some b) {cvs : List Value} {vs : List V} {os : List Nat}
    (r : RepL (RepV w F ρ) cvs vs os) (hs : ∀ b ∈ os, b < w.heap.size) (hb : ∀ b ∈ os, ¬ T b) : RepL (RepV w' F' ρ') cvs vs os :=
  r.imp fun cv v os' r hm => r.ext h hρ (fun b hbb => hs b (hm b hbb)) (fun b hbb => hb b (hm b hbb))
end
section
variable {R : Value → V → List Nat → Prop}
theorem RepL.length {cvs : List Value} {vs : List V} {os : List Nat} (r : RepL R cvs vs os) : cvs.length = vs.length := by
 induction r with
 | nil => rfl
 | cons cv v cvs vs os os' _ _ ih => simp [ih]
theorem nth_lt {vs : List V} {d : Nat} (h : nth vs d ≠ .undef) : d < vs.length := by
 induction vs generalizing d with
 | nil => simp [nth] at h
 | cons v vs ih =>
  cases d with
  | zero => simp
  | succ d => simp only [nth] at h; simp only [List.length_cons]; have := ih h; omega
theorem nth_out {vs : List V} {d : Nat} (h : vs.length ≤ d) : nth vs d = .undef := by
 induction vs generalizing d with
 | nil => rfl
 | cons v vs ih =>
  cases d with
  | zero => simp at h
  | succ d => exact ih (by simpa using h)
theorem upd_length (vs : List V) (d : Nat) (v : V) : (upd vs d v).length = vs.length := by
 induction vs generalizing d with
 | nil => rfl
 | cons x vs ih => cases d <;> simp [upd, ih]
theorem nth_upd_self {vs : List V} {d : Nat} (h : d < vs.length) (v : V) : nth (upd vs d v) d = v := by
 induction vs generalizing d with
 | nil => simp at h
 | cons x vs ih =>
  cases d with
  | zero => rfl
  | succ d => exact ih (by simpa using h)
theorem nth_upd_ne {vs : List V} {d e : Nat} (h : d ≠ e) (v : V) : nth (upd vs d v) e = nth vs e := by
 induction vs generalizing d e with
 | nil => rfl
 | cons x vs ih =>
  cases d with
  | zero => cases e with
   | zero => exact absurd rfl h
   | succ e => rfl
  | succ d => cases e with
   | zero => rfl
   | succ e => exact ih (by omega)
theorem nth_eq_getElem {vs : List V} {d : Nat} (h : d < vs.length) : nth vs d = vs[d] := by
 induction vs generalizing d with
 | nil => simp at h
 | cons x vs ih =>
  cases d with
  | zero => rfl
  | succ d => exact ih (by simpa using h)
theorem RepL.at {cvs : List Value} {vs : List V} {os : List Nat} (r : RepL R cvs vs os) {d : Nat} (hd : d < vs.length) :
    ∃ cv os1 osd os2, cvs[d]? = some cv ∧ os = os1 ++ osd ++ os2 ∧ R cv (nth vs d) osd ∧
      ∀ (R' : Value → V → List Nat → Prop) cv' v' os', (∀ cv v o, R cv v o → (∀ b ∈ o, b ∈ os1 ++ os2) → R' cv v o) → R' cv' v' os' →
        RepL R' (cvs.set d cv') (upd vs d v') (os1 ++ os' ++ os2) := by
  induction r generalizing d with
  | nil => simp at hd
  | cons cv v cvs vs os os' a r ih =>
    cases d with
    | zero =>
      refine ⟨cv, [], os, os', rfl, rfl, a, fun R' cv' v' o hR h => ?_⟩
      exact .cons _ _ _ _ _ _ h (r.imp fun cv v o ro hb => hR _ _ _ ro (by simpa using hb))
    | succ d =>
      obtain ⟨c, o1, od, o2, h1, h2, h3, h4⟩ := ih (d := d) (by simpa using hd)
      refine ⟨c, os ++ o1, od, o2, h1, by rw [h2]; simp, h3, fun R' cv' v' o hR h => ?_⟩
      have := h4 R' cv' v' o (fun cv v o ro hb => hR _ _ _ ro (fun b hbb => by have := hb b hbb; simp at this ⊢; rcases this with h | h <;> simp [h])) h
      have h5 := RepL.cons (R := R') cv v _ _ os _ (hR _ _ _ a (fun b hb => by simp [hb])) this
      simpa [upd] using h5
theorem RepL.get {cvs : List Value} {vs : List V} {os : List Nat} (r : RepL R cvs vs os) {d : Nat} (hd : d < vs.length) :
    ∃ cv osd, cvs[d]? = some cv ∧ R cv (nth vs d) osd ∧ ∀ b ∈ osd, b ∈ os := by
  obtain ⟨cv, o1, od, o2, h1, h2, h3, _⟩ := r.at hd
  exact ⟨cv, od, h1, h3, fun b hb => by rw [h2]; simp [hb]⟩
theorem list_set_self {cvs : List Value} {d : Nat} {cv : Value} (h : cvs[d]? = some cv) : cvs.set d cv = cvs := by
 apply List.ext_getElem?
 intro i
 rw [List.getElem?_set]
 split
 ·rename_i hd
  subst hd
  split
  ·exact h.symm
  ·rename_i hl; rw [List.getElem?_eq_none (by omega)] at h; cases h
 ·rfl
theorem RepL.map_killb {cvs : List Value} {vs : List V} {os : List Nat} {w : World} {F : Nat → Nat} {ρ : List Nat} (d : Nat) (r : RepL (RepV w F ρ) cvs vs os) :
    RepL (RepV w F ρ) cvs (vs.map (V.killb d)) os := by
  induction r with
  | nil => exact .nil
  | cons cv v cvs vs os os' a _ ih =>
    refine .cons _ _ _ _ _ _ ?_ ih
    unfold V.killb
    split
    · split
      · cases a with
        | e _ _ _ r => cases r with | d _ _ r => cases r
        | bref => exact .e _ _ _ (.undef _)
      · exact a
    · split
      · cases a with
        | e _ _ _ r => cases r with | d _ _ r => cases r
        | al => exact .e _ _ _ (.undef _)
      · exact a
    · exact a
end
theorem nth_map_killb (vs : List V) (d e : Nat) : nth (vs.map (V.killb d)) e = (nth vs e).killb d := by
 induction vs generalizing e with
 | nil => rfl
 | cons v vs ih =>
  cases e with
  | zero => rfl
  | succ e => exact ih e
def AliasV (cvs : List Value) (vs : List V) (cv : Value) : V → Prop
 | .bref d o => ∃ b, cv = .pointer (some ⟨b, o, none⟩) ∧ (((∃ cs, nth vs d = .box cs) ∧ cvs[d]? = some (.pointer (some ⟨b, 0, none⟩))) ∨
   ((∃ sz xs, nth vs d = .sl true sz xs) ∧ ∃ len cap, cvs[d]? = some (.slice (some ⟨b, 0, none⟩) len cap)))
 | .al d => (nth vs d).owner = true ∧ cvs[d]? = some cv
 | _ => True
def AliasOK (cvs : List Value) (vs : List V) : Prop := ∀ (t : Nat) (cv : Value), cvs[t]? = some cv → AliasV cvs vs cv (nth vs t)
structure Sim (B : Nat) (cvs : List Value) (w : World) (F : Nat → Nat) (ρ : List Nat) (s : St) (rest osT osH : List Nat) : Prop where
 tmps : RepL (RepV w F ρ) cvs s.t osT
 heap : RepH w F ρ s.h osH
 alias : AliasOK cvs s.t
 once : ∀ b, (osT ++ osH ++ rest).count b ≤ 1
 inb : ∀ b ∈ osT ++ osH ++ rest, B ≤ b ∧ b < w.heap.size ∧ F b = 0
 fresh : ∀ b, w.heap.size ≤ b → F b = 0
 base : B ≤ w.heap.size
end Go.Am
namespace Go.Am
open Go Go.RowKit
def setF (F : Nat → Nat) (b k : Nat) : Nat → Nat := fun x => if x = b then k else F x
theorem setF_self (F : Nat → Nat) (b k : Nat) : setF F b k b = k := by simp [setF]
theorem setF_ne (F : Nat → Nat) {b k x : Nat} (h : x ≠ b) : setF F b k x = F x := by simp [setF, h]
theorem heap_alloc_lt (w : World) (o : Obj) {b : Nat} (h : b < w.heap.size) : (w.alloc o).heap[b]? = w.heap[b]? := Below.heap_alloc w o b h
theorem heap_alloc_new (w : World) (o : Obj) : (w.alloc o).heap[w.heap.size]? = some o := by
 show (w.heap.push o)[w.heap.size]? = _
 simp
theorem below_alloc {B : Nat} {w : World} (h : B ≤ w.heap.size) (o : Obj) : Below B w (w.alloc o) := (Below.refl B w).alloc h o
theorem Ext.alloc {B : Nat} {w : World} {F : Nat → Nat} (hB : B ≤ w.heap.size) (hf : ∀ b, w.heap.size ≤ b → F b = 0) (o : Obj) (k : Nat) :
    Ext B w F (w.alloc o) (setF F w.heap.size k) (fun _ => False) := by
  have hlt : ∀ b o, o < F b → b < w.heap.size := fun b o h => by
    rcases Nat.lt_or_ge b w.heap.size with h' | h'
    · exact h'
    · rw [hf b h'] at h; omega
  refine ⟨below_alloc hB o, by simp, fun b c h => cell_of_block (heap_alloc_lt w o (hlt b c h)), fun b => ?_, fun b _ hs => ⟨heap_alloc_lt w o hs, setF_ne F (Nat.ne_of_lt hs)⟩, fun b hb => ?_⟩
  · unfold setF
    split
    · rename_i h; rw [h, hf _ (Nat.le_refl _)]; exact Nat.zero_le _
    · exact Nat.le_refl _
  · simp only [World.size_alloc] at hb
    rw [setF_ne F (by omega)]
    exact hf b (by omega)
theorem Ext.drew {B : Nat} {w : World} {F : Nat → Nat} (hf : ∀ b, w.heap.size ≤ b → F b = 0) : Ext B w F w.drew F (fun _ => False) :=
 ⟨(Below.refl B w).drew, Nat.le_refl _, fun _ _ _ => rfl, fun _ => Nat.le_refl _, fun _ _ _ => ⟨rfl, rfl⟩, hf⟩
theorem Ext.transF {B : Nat} {w w1 w2 : World} {F F1 F2 : Nat → Nat} (h : Ext B w F w1 F1 (fun _ => False)) (h' : Ext B w1 F1 w2 F2 (fun _ => False)) :
    Ext B w F w2 F2 (fun _ => False) := (h.trans h').weaken fun _ _ t => t.elim id id
section
variable {B : Nat} {cvs : List Value} {w w' : World} {F F' : Nat → Nat} {ρ : List Nat} {s : St} {rest osT osH : List Nat} {T : Nat → Prop}
theorem Sim.lt (h : Sim B cvs w F ρ s rest osT osH) {b : Nat} (hb : b ∈ osT ++ osH ++ rest) : b < w.heap.size := (h.inb b hb).2.1
theorem Sim.ext (h : Sim B cvs w F ρ s rest osT osH) (e : Ext B w F w' F' T) (hT : ∀ b ∈ osT ++ osH ++ rest, ¬ T b) : Sim B cvs w' F' ρ s rest osT osH :=
  ⟨h.tmps.ext e (fun _ _ hh => hh) (fun b hb => h.lt (by simp [hb])) (fun b hb => hT b (by simp [hb])), h.heap.ext e (fun b hb => hT b (by simp [hb])), h.alias, h.once,
   fun b hb => by
     obtain ⟨h1, h2, h3⟩ := h.inb b hb
     exact ⟨h1, Nat.lt_of_lt_of_le h2 e.size, ((e.keep b (hT b hb) h2).2).trans h3⟩, e.fresh, Nat.le_trans h.base e.size⟩
structure SimV (B : Nat) (cvs : List Value) (w : World) (F : Nat → Nat) (ρ : List Nat) (t : List V) (hp : Heap) (cv : Value) (v : V) (rest osT osH osV : List Nat) : Prop where
 tmps : RepL (RepV w F ρ) cvs t osT
 heap : RepH w F ρ hp osH
 alias : AliasOK cvs t
 val : RepV w F ρ cv v osV
 aval : AliasV cvs t cv v
 once : ∀ b, (osT ++ osH ++ osV ++ rest).count b ≤ 1
 inb : ∀ b ∈ osT ++ osH ++ osV ++ rest, B ≤ b ∧ b < w.heap.size ∧ F b = 0
 fresh : ∀ b, w.heap.size ≤ b → F b = 0
 base : B ≤ w.heap.size
theorem aliasV_of {cvs : List Value} {t : List V} {cv : Value} {v : V} (h : isAl v = false) : AliasV cvs t cv v := by
 cases v <;> first | exact trivial | cases h
theorem Sim.val (h : Sim B cvs w F ρ s rest osT osH) {cv : Value} {v : V} (hv : RepV w F ρ cv v []) (ha : AliasV cvs s.t cv v) : SimV B cvs w F ρ s.t s.h cv v rest osT osH [] :=
 ⟨h.tmps, h.heap, h.alias, hv, ha, by simpa using h.once, by simpa using h.inb, h.fresh, h.base⟩
theorem Sim.new (h : Sim B cvs w F ρ s rest osT osH) (e : Ext B w F w' F' (fun _ => False)) {cv : Value} {v : V} {osV : List Nat} (hv : RepV w' F' ρ cv v osV) (ha : AliasV cvs s.t cv v)
    (hn : ∀ b ∈ osV, w.heap.size ≤ b ∧ b < w'.heap.size ∧ F' b = 0) (h1 : ∀ b, osV.count b ≤ 1) : SimV B cvs w' F' ρ s.t s.h cv v rest osT osH osV := by
  have h' := h.ext e (fun _ _ => id)
  refine ⟨h'.tmps, h'.heap, h'.alias, hv, ha, fun b => ?_, fun b hb => ?_, h'.fresh, h'.base⟩
  · have a1 := h.once b
    have a2 := h1 b
    simp only [List.count_append] at a1 ⊢
    by_cases hb : b ∈ osV
    · have : ∀ l : List Nat, (∀ c ∈ l, c < w.heap.size) → l.count b = 0 := fun l hl => List.count_eq_zero.2 fun hm => by have := hl b hm; have := (hn b hb).1; omega
      have e1 := this osT fun c hc => h.lt (by simp [hc])
      have e2 := this osH fun c hc => h.lt (by simp [hc])
      have e3 := this rest fun c hc => h.lt (by simp [hc])
      omega
    · have := List.count_eq_zero.2 hb
      omega
  · simp only [List.mem_append] at hb
    rcases hb with ((hb | hb) | hb) | hb
    · exact h'.inb b (by simp [hb])
    · exact h'.inb b (by simp [hb])
    · obtain ⟨b1, b2, b3⟩ := hn b hb
      exact ⟨Nat.le_trans h.base b1, b2, b3⟩
    · exact h'.inb b (by simp [hb])
theorem RepV.os_nil {w : World} {F : Nat → Nat} {ρ : List Nat} {cv : Value} {v : V} {os : List Nat} (r : RepV w F ρ cv v os) (h : v.lin = false) : os = [] := by
 cases r with
 | e _ _ _ r => cases r with
  | d => rfl
  | undef => rfl
  | ownnil => rfl
  | own => cases h
 | tup => cases h
 | ptr => rfl
 | rptr => rfl
 | box => cases h
 | bref => rfl
 | al => rfl
 | fn => rfl
 | iter => cases h
theorem RepV.data {w : World} {F : Nat → Nat} {ρ : List Nat} {cv : Value} {v : V} {os : List Nat} (r : RepV w F ρ cv v os) (h : v.data = true) : RepD w F cv v := by
 cases r with
 | e _ _ _ r => cases r with
  | d _ _ r => exact r
  | undef => cases h
  | ownnil => cases h
  | own => cases h
 | _ => cases h
theorem upd_out {t : List V} {d : Nat} (hd : t.length ≤ d) (v : V) : upd t d v = t := by
 induction t generalizing d with
 | nil => rfl
 | cons x t ih => cases d with
  | zero => simp at hd
  | succ d => simp only [upd]; rw [ih (by simpa using hd)]
theorem owner_lin {v : V} (h : v.owner = true) : v.lin = true := by cases v <;> first | rfl | cases h | (rename_i o _ _; cases o <;> first | rfl | cases h)
theorem isAl_of_lin {v : V} (h : v.lin = true) : isAl v = false := by cases v <;> first | rfl | cases h
theorem SimV.put {t t' : List V} {hp : Heap} {cv : Value} {v : V} {osV : List Nat} {dst : Option Nat} (h : SimV B cvs w F ρ t hp cv v rest osT osH osV) (hp' : put t dst v = some t') :
    ∃ osT', Sim B (match dst with | some d => cvs.set d cv | none => cvs) w F ρ ⟨t', hp⟩ rest osT' osH ∧ ∀ b ∈ osT', b ∈ osT ++ osV := by
  cases dst with
  | none =>
    simp only [Am.put, Option.some.injEq] at hp'
    subst hp'
    refine ⟨osT, ⟨h.tmps, h.heap, h.alias, fun b => ?_, fun b hb => ?_, h.fresh, h.base⟩, fun b hb => by simp [hb]⟩
    · have := h.once b; simp only [List.count_append] at this ⊢; omega
    · refine h.inb b ?_; simp only [List.mem_append] at hb ⊢; rcases hb with (hb | hb) | hb <;> simp [hb]
  | some d =>
    simp only [Am.put] at hp'
    split at hp'
    · cases hp'
    · rename_i ho
      simp only [Option.some.injEq] at hp'
      subst hp'
      simp only
      have ho : (nth t d).owner = false := by simpa using ho
      have hlen := h.tmps.length
      by_cases hd : d < t.length
      · obtain ⟨c, o1, od, o2, g1, g2, g3, g4⟩ := h.tmps.at hd
        refine ⟨o1 ++ osV ++ o2, ⟨g4 _ cv v osV (fun _ _ _ r _ => r) h.val, h.heap, ?_, fun b => ?_, fun b hb => ?_, h.fresh, h.base⟩, fun b hb => ?_⟩
        · have key : ∀ (e : Nat), (nth t e).owner = true → e ≠ d ∧ nth (upd t d v) e = nth t e ∧ (cvs.set d cv)[e]? = cvs[e]? := fun e he => by
            have hne : e ≠ d := fun hh => by rw [hh, ho] at he; cases he
            exact ⟨hne, nth_upd_ne (Ne.symm hne) v, by rw [List.getElem?_set]; simp [Ne.symm hne]⟩
          have trans : ∀ cv' x, AliasV cvs t cv' x → AliasV (cvs.set d cv) (upd t d v) cv' x := by
            intro cv' x hx
            cases x with
            | bref e o =>
              obtain ⟨b, hb, hx⟩ := hx
              refine ⟨b, hb, ?_⟩
              rcases hx with ⟨⟨cs, hx⟩, hy⟩ | ⟨⟨sz, xs, hx⟩, hy⟩
              · obtain ⟨_, k2, k3⟩ := key e (by rw [hx]; rfl)
                exact .inl ⟨⟨cs, k2.trans hx⟩, k3.trans hy⟩
              · obtain ⟨_, k2, k3⟩ := key e (by rw [hx]; rfl)
                obtain ⟨len, cap, hy⟩ := hy
                exact .inr ⟨⟨sz, xs, k2.trans hx⟩, len, cap, k3.trans hy⟩
            | al e =>
              obtain ⟨hx, hy⟩ := hx
              obtain ⟨_, k2, k3⟩ := key e hx
              exact ⟨by rw [k2]; exact hx, k3.trans hy⟩
            | _ => exact trivial
          intro e cv' hcv
          by_cases hed : d = e
          · subst hed
            rw [List.getElem?_set] at hcv
            simp [hlen ▸ hd] at hcv
            subst hcv
            rw [nth_upd_self hd]
            exact trans _ _ h.aval
          · rw [nth_upd_ne hed]
            rw [List.getElem?_set, if_neg hed] at hcv
            exact trans _ _ (h.alias e cv' hcv)
        · have := h.once b
          rw [g2] at this
          simp only [List.count_append] at this ⊢
          omega
        · refine h.inb b ?_
          rw [g2]
          simp only [List.mem_append] at hb ⊢
          rcases hb with (((hb | hb) | hb) | hb) | hb <;> simp [hb]
        · rw [g2]
          simp only [List.mem_append] at hb ⊢
          rcases hb with (hb | hb) | hb <;> simp [hb]
      · have e1 : upd t d v = t := upd_out (Nat.le_of_not_lt hd) v
        have e2 : cvs.set d cv = cvs := by rw [List.set_eq_of_length_le (by omega)]
        rw [e1, e2]
        refine ⟨osT, ⟨h.tmps, h.heap, h.alias, fun b => ?_, fun b hb => ?_, h.fresh, h.base⟩, fun b hb => by simp [hb]⟩
        · have := h.once b; simp only [List.count_append] at this ⊢; omega
        · refine h.inb b ?_; simp only [List.mem_append] at hb ⊢; rcases hb with (hb | hb) | hb <;> simp [hb]
end
def constOK1 : Value → V → Bool
 | .bool a, .bool b => a == b
 | .int k n, .int k' m => k == k' && n == m
 | .string s, .str l => s.data.toList == l
 | .slice none 0 0, .sl _ _ [] => true
 | .nilIface, .nilIfc => true
 | _, _ => false
def constL : List Value → List V → Bool
 | [], [] => true
 | a :: as, b :: bs => constOK1 a b && constL as bs
 | _, _ => false
def constOK : Value → V → Bool
 | .agg cvs, .agg cs => constL cvs.toList cs && cs.all V.one
 | a, b => constOK1 a b
def chkS : Operand → Src → Bool
 | .tmp t, .t i => t == i
 | .const cv, .c v => constOK cv v
 | .func f, .f g => f == g
 | _, _ => false
theorem constOK1_rep {cv : Value} {v : V} (h : constOK1 cv v = true) (w : World) (F : Nat → Nat) : RepE w F cv v [] := by
 unfold constOK1 at h
 split at h
 ·obtain rfl := beq_iff_eq.1 h; exact .d _ _ (.bool _)
 ·simp only [Bool.and_eq_true, beq_iff_eq] at h; obtain ⟨rfl, rfl⟩ := h; exact .d _ _ (.int _ _)
 ·exact .d _ _ (.str _ _ (beq_iff_eq.1 h))
 ·rename_i o sz
  cases o
  ·exact .d _ _ (.slnil none sz)
  ·exact .ownnil sz
 ·exact .d _ _ .nilIfc
 ·cases h
theorem constL_rep {w : World} {F : Nat → Nat} : ∀ {cvs : List Value} {cs : List V}, constL cvs cs = true → cs.all V.one = true →
  cvs.length = cs.length ∧ ∀ j (h : j < cvs.length), RepD w F cvs[j] (nth cs j) ∧ (nth cs j).one = true
 | [], [], _, _ => ⟨rfl, fun j h => by simp at h⟩
 | a :: as, b :: bs, h, h1 => by
  simp only [constL, Bool.and_eq_true] at h
  simp only [List.all_cons, Bool.and_eq_true] at h1
  obtain ⟨l1, l2⟩ := constL_rep (w := w) (F := F) h.2 h1.2
  refine ⟨by simp [l1], fun j hj => ?_⟩
  cases j with
  | zero =>
   refine ⟨?_, h1.1⟩
   have := constOK1_rep h.1 w F
   cases this with
   | d _ _ r => exact r
   | undef => cases h1.1
   | ownnil => cases h1.1
  | succ j => exact l2 j (by simpa using hj)
 | [], _ :: _, h, _ => by cases h
 | _ :: _, [], h, _ => by cases h
theorem constOK_rep {cv : Value} {v : V} (h : constOK cv v = true) (w : World) (F : Nat → Nat) : RepE w F cv v [] := by
 unfold constOK at h
 split at h
 ·rename_i cvs cs
  simp only [Bool.and_eq_true] at h
  obtain ⟨l1, l2⟩ := constL_rep (w := w) (F := F) h.1 h.2
  refine .d _ _ (.agg _ _ (by simpa using l1) (fun j hj => (l2 j (by omega)).2) (fun j hj => ?_))
  have := (l2 j (by simpa using hj)).1
  rwa [Array.getElem_toList] at this
 ·exact constOK1_rep h w F
section
variable {B : Nat} {a : Act} {w : World} {F : Nat → Nat} {ρ : List Nat} {s : St} {rest osT osH : List Nat}
theorem eval_tmp {cvs : List Value} (a : Act) (h : a.tmps.toList = cvs) (t : Nat) {cv : Value} (hc : cvs[t]? = some cv) : a.eval (.tmp t) = cv := by
 subst h
 simp only [Act.eval, Array.getD_eq_getD_getElem?]
 rw [show a.tmps[t]? = a.tmps.toList[t]? by simp, hc]
 rfl
theorem Sim.ev (h : Sim B a.tmps.toList w F ρ s rest osT osH) {x : Operand} {y : Src} (hc : chkS x y = true) :
    ∃ os, RepV w F ρ (a.eval x) (ev (nth s.t) y) os ∧ (∀ b ∈ os, b ∈ osT) := by
  unfold chkS at hc
  split at hc
  · rename_i t i
    obtain rfl := beq_iff_eq.1 hc
    simp only [Am.ev]
    by_cases ht : t < s.t.length
    · obtain ⟨cv, od, g1, g2, g3⟩ := h.tmps.get ht
      rw [eval_tmp a rfl t g1]
      exact ⟨od, g2, g3⟩
    · rw [nth_out (Nat.le_of_not_lt ht)]
      exact ⟨[], .e _ _ _ (.undef _), fun b hb => by cases hb⟩
  · rename_i cv v
    exact ⟨[], .e _ _ _ (constOK_rep hc w F), fun b hb => by cases hb⟩
  · rename_i f g
    obtain rfl := beq_iff_eq.1 hc
    exact ⟨[], .fn f #[] [] rfl (fun j hj => by simp at hj), fun b hb => by cases hb⟩
  · cases hc
theorem Sim.dat (h : Sim B a.tmps.toList w F ρ s rest osT osH) {x : Operand} {y : Src} (hc : chkS x y = true) {v : V} (hv : dat (nth s.t) y = some v) : RepD w F (a.eval x) v := by
 unfold Am.dat at hv
 split at hv
 ·rename_i hd
  simp only [Option.some.injEq] at hv
  subst hv
  obtain ⟨os, hr, _⟩ := h.ev hc
  exact hr.data hd
 ·cases hv
theorem Sim.int (h : Sim B a.tmps.toList w F ρ s rest osT osH) {x : Operand} {y : Src} (hc : chkS x y = true) {n : Int} (hv : intOf (nth s.t) y = some n) :
    ∃ k, a.eval x = .int k n := by
  unfold intOf at hv
  obtain ⟨os, hr, _⟩ := h.ev hc
  split at hv
  · rename_i k m he
    simp only [Option.some.injEq] at hv
    subst hv
    rw [he] at hr
    have := hr.data rfl
    cases hx : a.eval x <;> rw [hx] at this <;> cases this
    exact ⟨_, rfl⟩
  · cases hv
end
end Go.Am
namespace Go.Am
open Go Go.RowKit
def aggT (P : Program) (t : TypeId) : Bool := match P.underlying t with
 | some (.struct _) => true
 | some (.array _ _) => true
 | _ => false
def oneT (P : Program) (t : TypeId) : Bool := match P.underlying t with
 | some (.struct _) => false
 | some (.array _ _) => false
 | none => false
 | some _ => true
def szT (P : Program) (t : TypeId) : Option Nat := (P.info? t).map (·.size)
section
variable {P : Program} {t : TypeId} {w : World}
theorem run_typeInfo {i : TypeInfo} (h : P.info? t = some i) : (typeInfo t).run P w = .ok i w := by
 simp [typeInfo, h]
theorem run_sizeOf {n : Nat} (h : szT P t = some n) : (sizeOf t).run P w = .ok n w := by
 unfold szT at h
 cases hi : P.info? t with
 | none => rw [hi] at h; cases h
 | some i =>
  rw [hi] at h
  simp only [Option.map_some, Option.some.injEq] at h
  simp [sizeOf, run_typeInfo hi, h]
theorem run_under {d : TypeDesc} (h : P.underlying t = some d) : (underlying t).run P w = .ok d w := by
 simp [underlying, h]
theorem run_isAgg (h : aggT P t = true) : (isAgg t).run P w = .ok true w := by
 unfold aggT at h
 split at h
 ·rename_i fs hu; simp [isAgg, run_under hu]
 ·rename_i n e hu; simp [isAgg, run_under hu]
 ·cases h
theorem run_isAgg_one (h : oneT P t = true) : (isAgg t).run P w = .ok false w := by
 unfold oneT at h
 split at h
 ·cases h
 ·cases h
 ·cases h
 ·rename_i d n1 n2 hu
  simp only [isAgg, Sem.run_bind, run_under hu, Result.andThen_ok]
  cases d <;> first | rfl | exact (n1 _ rfl).elim | exact (n2 _ _ rfl).elim
theorem addr_add (b o n : Nat) : (⟨b, o, none⟩ : Addr).add n = ⟨b, o + n, none⟩ := by
 unfold Addr.add
 split
 ·rename_i h; rw [h]; rfl
 ·rfl
theorem run_loadVar_one {b o : Nat} {cv : Value} (h : oneT P t = true) (hc : w.cell? ⟨b, o, none⟩ = some cv) : (loadVar t ⟨b, o, none⟩).run P w = .ok cv w := by
 simp [loadVar, run_isAgg_one h, hc]
theorem run_loadVar_agg {b o n : Nat} (h : aggT P t = true) (hn : szT P t = some n) (cs : List Value) (hl : cs.length = n)
    (hc : ∀ j v, cs[j]? = some v → w.cell? ⟨b, o + j, none⟩ = some v) : (loadVar t ⟨b, o, none⟩).run P w = .ok (.agg cs.toArray) w := by
  subst hl
  have := run_loadCells_list (P := P) w ⟨b, o, none⟩ cs (fun j v hj => by rw [addr_add]; exact hc j v hj)
  simp [loadVar, run_isAgg h, run_sizeOf hn, this]
end
def OpOK (P : Program) (a : Act) (o : Oper) (B : Nat) (w : World) (F : Nat → Nat) (ρ : List Nat) (s : St) (rest osT osH : List Nat) : Rs → Prop
 | .val us v h' => ∃ cv w' F' ρ' osT' osH' osV, ((execOp a.eval o).run P w = .ok (.value cv) w' ∨ ((execOp a.eval o).run P w = .ok .skip w' ∧ cv = undef)) ∧
   Ext B w F w' F' (fun b => b ∈ osT ++ osH) ∧ (∀ (id b : Nat), ρ[id]? = some b → ρ'[id]? = some b) ∧
   SimV B a.tmps.toList w' F' ρ' (ups s.t us) h' cv v rest osT' osH' osV ∧ ∀ b ∈ osT' ++ osH' ++ osV, b ∈ osT ++ osH ∨ w.heap.size ≤ b
 | .pan v h' => h' = s.h ∧ ∃ cv, (execOp a.eval o).run P w = .halt (.panic cv) w ∧ RepD w F cv v
section
variable {P : Program} {a : Act} {o : Oper} {B : Nat} {w : World} {F : Nat → Nat} {ρ : List Nat} {s : St} {rest osT osH : List Nat}
theorem OpOK.pure (h : Sim B a.tmps.toList w F ρ s rest osT osH) {cv : Value} {v : V} (hr : (execOp a.eval o).run P w = .ok (.value cv) w) (hv : RepV w F ρ cv v [])
    (ha : AliasV a.tmps.toList s.t cv v) : OpOK P a o B w F ρ s rest osT osH (.val [] v s.h) :=
  ⟨cv, w, F, ρ, osT, osH, [], .inl hr, Ext.refl h.fresh, fun _ _ x => x, h.val hv ha, fun b hb => .inl (by simpa using hb)⟩
theorem AliasOK.view {cvs : List Value} {t : List V} {i : Nat} {v' : V} {fl : Bool} (h : AliasOK cvs t) (hv : isAl v' = false)
    (hk : fl = true ∨ (((∃ cs, nth t i = .box cs) → ∃ cs, v' = .box cs) ∧ ((∃ sz xs, nth t i = .sl true sz xs) → ∃ sz xs, v' = .sl true sz xs))) : AliasOK cvs (ups1 t (i, v', fl)) := by
  intro e cv hcv
  have h0 := h e cv hcv
  have hout : ∀ l : List V, e = i → e < l.length → nth (upd l i v') e = v' := fun l he hl => by rw [he]; exact nth_upd_self (he ▸ hl) v'
  cases fl with
  | true =>
    simp only [ups1]
    by_cases hei : i = e
    · subst hei
      by_cases hl : i < (t.map (V.killb i)).length
      · rw [nth_upd_self hl]; exact aliasV_of hv
      · rw [upd_out (Nat.le_of_not_lt hl), nth_out (Nat.le_of_not_lt hl)]; exact trivial
    · rw [nth_upd_ne hei, nth_map_killb]
      cases hx : nth t e with
      | bref d o =>
        rw [hx] at h0
        simp only [V.killb]
        split
        · exact trivial
        · rename_i hd
          obtain ⟨b, hb, hh⟩ := h0
          refine ⟨b, hb, ?_⟩
          rw [nth_upd_ne (Ne.symm hd), nth_map_killb]
          rcases hh with ⟨⟨cs, hh⟩, hy⟩ | ⟨⟨sz, xs, hh⟩, hy⟩
          · exact .inl ⟨⟨cs, by rw [hh]; rfl⟩, hy⟩
          · exact .inr ⟨⟨sz, xs, by rw [hh]; rfl⟩, hy⟩
      | al d =>
        rw [hx] at h0
        simp only [V.killb]
        split
        · exact trivial
        · rename_i hd
          obtain ⟨ho, hy⟩ := h0
          refine ⟨?_, hy⟩
          rw [nth_upd_ne (Ne.symm hd), nth_map_killb]
          cases hz : nth t d <;> rw [hz] at ho <;> first | exact ho | cases ho
      | _ => exact trivial
  | false =>
    have hk := hk.resolve_left (by simp)
    simp only [ups1]
    by_cases hei : i = e
    · subst hei
      by_cases hl : i < t.length
      · rw [nth_upd_self hl]; exact aliasV_of hv
      · rw [upd_out (Nat.le_of_not_lt hl), nth_out (Nat.le_of_not_lt hl)]; exact trivial
    · rw [nth_upd_ne hei]
      have key : ∀ d, ((∃ cs, nth t d = .box cs) → ∃ cs, nth (upd t i v') d = .box cs) ∧ ((∃ sz xs, nth t d = .sl true sz xs) → ∃ sz xs, nth (upd t i v') d = .sl true sz xs) := by
        intro d
        by_cases hd : i = d
        · subst hd
          by_cases hl : i < t.length
          · rw [nth_upd_self hl]; exact hk
          · rw [upd_out (Nat.le_of_not_lt hl)]; exact ⟨id, id⟩
        · rw [nth_upd_ne hd]; exact ⟨id, id⟩
      cases hx : nth t e with
      | bref d o =>
        rw [hx] at h0
        obtain ⟨b, hb, hh⟩ := h0
        refine ⟨b, hb, ?_⟩
        rcases hh with ⟨hh, hy⟩ | ⟨hh, hy⟩
        · exact .inl ⟨(key d).1 hh, hy⟩
        · exact .inr ⟨(key d).2 hh, hy⟩
      | al d =>
        rw [hx] at h0
        obtain ⟨ho, hy⟩ := h0
        refine ⟨?_, hy⟩
        cases hz : nth t d with
        | box cs => obtain ⟨cs', hc⟩ := (key d).1 ⟨cs, hz⟩; rw [hc]; rfl
        | sl own sz xs =>
          rw [hz] at ho
          cases own
          · cases ho
          · obtain ⟨sz', xs', hc⟩ := (key d).2 ⟨sz, xs, hz⟩; rw [hc]; rfl
        | _ => rw [hz] at ho; cases ho
      | _ => exact trivial
theorem map_killb_upd (t : List V) (i : Nat) (v : V) (hv : isAl v = false) : (upd t i v).map (V.killb i) = upd (t.map (V.killb i)) i v := by
 have hk : ∀ j, V.killb j v = v := fun j => by cases v <;> first | rfl | cases hv
 suffices H : ∀ (k : Nat) (i : Nat), (upd t i v).map (V.killb k) = upd (t.map (V.killb k)) i v from H i i
 intro k
 induction t with
 | nil => intro i; rfl
 | cons x t ih =>
  intro i
  cases i with
  | zero => simp [upd, hk]
  | succ i => simp [upd, ih]
theorem RepL.view {cvs : List Value} {t : List V} {i : Nat} {v' : V} {fl : Bool} {cv : Value} {o1 o2 os' : List Nat} {w' : World} {F' : Nat → Nat} {ρ' : List Nat} (hv : isAl v' = false)
    (g1 : cvs[i]? = some cv) (g : RepL (RepV w' F' ρ') (cvs.set i cv) (upd t i v') (o1 ++ os' ++ o2)) : RepL (RepV w' F' ρ') cvs (ups1 t (i, v', fl)) (o1 ++ os' ++ o2) := by
  rw [list_set_self g1] at g
  cases fl with
  | false => exact g
  | true =>
    have := RepL.map_killb i g
    rw [map_killb_upd t i v' hv] at this
    exact this
theorem Sim.take (h : Sim B a.tmps.toList w F ρ s rest osT osH) {x : Operand} {y : Src} (hc : chkS x y = true) (hal : isAl (Am.ev (nth s.t) y) = false) :
    ∃ osT' osV, SimV B a.tmps.toList w F ρ (ups s.t (mvUps (nth s.t) y)) s.h (a.eval x) (Am.ev (nth s.t) y) rest osT' osH osV ∧ ∀ b ∈ osT' ++ osV, b ∈ osT := by
  have plain : mvUps (nth s.t) y = [] → RepV w F ρ (a.eval x) (Am.ev (nth s.t) y) [] → ∃ osT' osV, SimV B a.tmps.toList w F ρ (ups s.t (mvUps (nth s.t) y)) s.h (a.eval x) (Am.ev (nth s.t) y) rest osT' osH osV ∧ ∀ b ∈ osT' ++ osV, b ∈ osT := by
    intro he hr
    rw [he]
    exact ⟨osT, [], h.val hr (aliasV_of hal), fun b hb => by simpa using hb⟩
  obtain ⟨os, hr, _⟩ := h.ev hc
  cases y with
  | t i =>
    by_cases hl : (nth s.t i).lin = true
    · simp only [Am.ev] at hal ⊢
      have hi : i < s.t.length := nth_lt (fun hh => by rw [hh] at hl; cases hl)
      obtain ⟨cv, o1, od, o2, g1, g2, g3, g4⟩ := h.tmps.at hi
      have hx : a.eval x = cv := by
        cases x with
        | tmp t => simp only [chkS, beq_iff_eq] at hc; subst hc; exact eval_tmp a rfl t g1
        | _ => cases hc
      have hup : ups s.t (mvUps (nth s.t) (.t i)) = ups1 s.t (i, .undef, (nth s.t i).owner) := by simp only [mvUps, hl, if_true]; rfl
      rw [hup, hx]
      refine ⟨o1 ++ [] ++ o2, od, ⟨?_, h.heap, h.alias.view rfl ?_, g3, aliasV_of hal, fun b => ?_, fun b hb => ?_, h.fresh, h.base⟩, fun b hb => ?_⟩
      · exact RepL.view rfl g1 (g4 (RepV w F ρ) cv .undef [] (fun _ _ _ r _ => r) (.e _ _ _ (.undef _)))
      · cases ho : (nth s.t i).owner with
        | true => exact .inl rfl
        | false => exact .inr ⟨fun ⟨cs, hh⟩ => (by rw [hh] at ho; cases ho), fun ⟨sz, xs, hh⟩ => (by rw [hh] at ho; cases ho)⟩
      · have := h.once b
        rw [g2] at this
        simp only [List.count_append, List.count_nil] at this ⊢
        omega
      · refine h.inb b ?_
        rw [g2]
        simp only [List.mem_append] at hb ⊢
        rcases hb with ((((hb | hb) | hb) | hb) | hb) | hb <;> first | (simp [hb]; done) | cases hb
      · rw [g2]
        simp only [List.mem_append] at hb ⊢
        rcases hb with ((hb | hb) | hb) | hb <;> first | (simp [hb]; done) | cases hb
    · have hl' : (nth s.t i).lin = false := by simpa using hl
      have := hr.os_nil hl'
      subst this
      exact plain (by simp [mvUps, hl']) hr
  | c v =>
    refine plain rfl ?_
    cases x with
    | const cv => exact .e _ _ _ (constOK_rep hc w F)
    | _ => cases hc
  | f g =>
    have := hr.os_nil rfl
    subst this
    exact plain rfl hr
end
end Go.Am
namespace Go.Am
open Go Go.RowKit
section
variable {P : Program} {a : Act} {o : Oper} {B : Nat} {w : World} {F : Nat → Nat} {ρ : List Nat} {s : St} {rest osT osH : List Nat} {c : CallF} {r : Rs}
theorem RepV.int_inv {cv : Value} {k : IntKind} {n : Int} {os : List Nat} (h : RepV w F ρ cv (.int k n) os) : cv = .int k n := by
 have := h.data rfl; cases this; rfl
theorem RepV.bool_inv {cv : Value} {b : Bool} {os : List Nat} (h : RepV w F ρ cv (.bool b) os) : cv = .bool b := by
 have := h.data rfl; cases this; rfl
theorem RepV.str_inv {cv : Value} {l : List UInt8} {os : List Nat} (h : RepV w F ρ cv (.str l) os) : ∃ s : ByteArray, cv = .string s ∧ s.data.toList = l := by
 have := h.data rfl; cases this; exact ⟨_, rfl, by assumption⟩
theorem RepV.agg_inv {cv : Value} {cs : List V} {os : List Nat} (h : RepV w F ρ cv (.agg cs) os) : ∃ cvs : Array Value, cv = .agg cvs ∧ cvs.size = cs.length ∧ (∀ j, j < cs.length → (nth cs j).one = true) ∧
  ∀ j (hj : j < cvs.size), RepD w F cvs[j] (nth cs j) := by
 have := h.data rfl; cases this; exact ⟨_, rfl, by assumption, by assumption, by assumption⟩
theorem Sim.int' (h : Sim B a.tmps.toList w F ρ s rest osT osH) {x : Operand} {y : Src} (hc : chkS x y = true) {k : IntKind} {n : Int} (hv : Am.ev (nth s.t) y = .int k n) : a.eval x = .int k n := by
 obtain ⟨os, hr, _⟩ := h.ev hc
 rw [hv] at hr
 exact hr.int_inv
theorem Sim.place_slot (h : Sim B a.tmps.toList w F ρ s rest osT osH) {x : Operand} {y : Src} (hc : chkS x y = true) {b : Option Nat} {d off : Nat} (hp : place (nth s.t) y b = some (.slot d off)) :
    ∃ blk, a.eval x = .pointer (some ⟨blk, off, none⟩) ∧ (((∃ cs, nth s.t d = .box cs) ∧ a.tmps.toList[d]? = some (.pointer (some ⟨blk, 0, none⟩))) ∨
      ((∃ sz xs, nth s.t d = .sl true sz xs) ∧ ∃ len cap, a.tmps.toList[d]? = some (.slice (some ⟨blk, 0, none⟩) len cap))) := by
  unfold place at hp
  split at hp
  · rename_i cs he
    split at hp
    · rename_i i d'
      split at hp
      · rename_i hid
        subst hid
        simp only [Option.some.injEq, Pl.slot.injEq] at hp
        obtain ⟨rfl, rfl⟩ := hp
        simp only [Am.ev] at he
        have hi : i < s.t.length := nth_lt (fun hh => by rw [hh] at he; cases he)
        obtain ⟨cv, od, g1, g2, _⟩ := h.tmps.get hi
        rw [he] at g2
        cases g2 with
        | e _ _ _ g2 => cases g2 with | d _ _ g2 => cases g2
        | box blk cs os g2 =>
          refine ⟨blk, ?_, .inl ⟨⟨cs, he⟩, g1⟩⟩
          cases x with
          | tmp t => simp only [chkS, beq_iff_eq] at hc; subst hc; exact eval_tmp a rfl t g1
          | _ => cases hc
      · cases hp
    · cases hp
  · rename_i d' o' he
    split at hp
    · split at hp
      · simp only [Option.some.injEq, Pl.slot.injEq] at hp
        obtain ⟨rfl, rfl⟩ := hp
        cases y with
        | t i =>
          simp only [Am.ev] at he
          have hi : i < s.t.length := nth_lt (fun hh => by rw [hh] at he; cases he)
          obtain ⟨cv, od, g1, g2, _⟩ := h.tmps.get hi
          have ha := h.alias i cv g1
          rw [he] at ha
          obtain ⟨blk, hb, hh⟩ := ha
          refine ⟨blk, ?_, hh⟩
          rw [← hb]
          cases x with
          | tmp t => simp only [chkS, beq_iff_eq] at hc; subst hc; exact eval_tmp a rfl t g1
          | _ => cases hc
        | c v =>
          simp only [Am.ev] at he
          subst he
          cases x <;> simp [chkS] at hc
          rename_i cv
          cases cv <;> simp [constOK, constOK1] at hc
        | f g => cases he
      · cases hp
    · cases hp
  · split at hp <;> cases hp
  · split at hp <;> cases hp
  · cases hp
theorem Sim.place_obj (h : Sim B a.tmps.toList w F ρ s rest osT osH) {x : Operand} {y : Src} (hc : chkS x y = true) {b : Option Nat} {id off : Nat} (hp : place (nth s.t) y b = some (.obj id off)) :
    ∃ blk, ρ[id]? = some blk ∧ a.eval x = .pointer (some ⟨blk, off, none⟩) := by
  unfold place at hp
  split at hp
  · split at hp
    · split at hp <;> cases hp
    · cases hp
  · split at hp
    · split at hp <;> cases hp
    · cases hp
  · rename_i id' o' he
    split at hp
    · simp only [Option.some.injEq, Pl.obj.injEq] at hp
      obtain ⟨rfl, rfl⟩ := hp
      obtain ⟨os, hr, _⟩ := h.ev hc
      rw [he] at hr
      generalize a.eval x = cv at *
      cases hr with
      | e _ _ _ g2 => cases g2 with | d _ _ g2 => cases g2
      | ptr _ _ blk g => exact ⟨blk, g, rfl⟩
    · cases hp
  · split at hp <;> cases hp
  · cases hp
theorem Sim.place_ro (h : Sim B a.tmps.toList w F ρ s rest osT osH) {x : Operand} {y : Src} (hc : chkS x y = true) {b : Option Nat} {cs : List V} (hp : place (nth s.t) y b = some (.ro cs)) :
    RepV w F ρ (a.eval x) (.rptr cs) [] := by
  unfold place at hp
  split at hp
  · split at hp
    · split at hp <;> cases hp
    · cases hp
  · split at hp
    · split at hp <;> cases hp
    · cases hp
  · split at hp <;> cases hp
  · rename_i cs' he
    split at hp
    · simp only [Option.some.injEq, Pl.ro.injEq] at hp
      subst hp
      obtain ⟨os, hr, _⟩ := h.ev hc
      rw [he] at hr
      have := hr.os_nil rfl
      subst this
      exact hr
    · cases hp
  · cases hp
theorem rptr_inv {cv : Value} {cs : List V} (h : RepV w F ρ cv (.rptr cs) []) : ∃ (b off : Nat) (cvf : Nat → Value), cv = .pointer (some ⟨b, off, none⟩) ∧ off + cs.length ≤ F b ∧
  (∀ j, j < cs.length → w.cell? ⟨b, off + j, none⟩ = some (cvf j)) ∧ ∀ j, j < cs.length → RepD w F (cvf j) (nth cs j) ∧ (nth cs j).one = true := by
 cases h with
 | e _ _ _ g2 => cases g2 with | d _ _ g2 => cases g2
 | rptr b off cs cvf g1 g2 g3 => exact ⟨b, off, cvf, rfl, g1, g2, g3⟩
theorem nth_drop (l : List V) (n j : Nat) : nth (l.drop n) j = nth l (n + j) := by
 induction l generalizing n with
 | nil => simp [nth]
 | cons x l ih =>
  cases n with
  | zero => simp
  | succ n => simp only [List.drop_succ_cons]; rw [ih, show n + 1 + j = (n + j) + 1 by omega]; rfl
theorem nth_take (l : List V) (n j : Nat) (h : j < n) : nth (l.take n) j = nth l j := by
 induction l generalizing n j with
 | nil => simp [nth]
 | cons x l ih =>
  cases n with
  | zero => omega
  | succ n =>
   cases j with
   | zero => rfl
   | succ j => simp only [List.take_succ_cons]; exact ih n j (by omega)
theorem rptr_drop {b off n : Nat} {cs : List V} {cvf : Nat → Value} (hn : n ≤ cs.length) (g1 : off + cs.length ≤ F b) (g2 : ∀ j, j < cs.length → w.cell? ⟨b, off + j, none⟩ = some (cvf j))
    (g3 : ∀ j, j < cs.length → RepD w F (cvf j) (nth cs j) ∧ (nth cs j).one = true) : RepV w F ρ (.pointer (some ⟨b, off + n, none⟩)) (.rptr (cs.drop n)) [] := by
  refine .rptr b (off + n) _ (fun j => cvf (n + j)) (by rw [List.length_drop]; omega) (fun j hj => ?_) (fun j hj => ?_)
  · rw [List.length_drop] at hj
    have := g2 (n + j) (by omega)
    rw [show off + n + j = off + (n + j) by omega]
    exact this
  · rw [List.length_drop] at hj
    rw [nth_drop]
    exact g3 (n + j) (by omega)
theorem op_mv (h : Sim B a.tmps.toList w F ρ s rest osT osH) {x : Operand} {y : Src} (hop : o.op = .move x ∨ o.op = .assign x) (hc : chkS x y = true)
    (hr : opRes c (nth s.t) s.h (.mv y) = some r) : OpOK P a o B w F ρ s rest osT osH r := by
  simp only [opRes] at hr
  split at hr
  · cases hr
  · rename_i hal
    simp only [Option.some.injEq] at hr
    subst hr
    obtain ⟨osT', osV, hs, hsub⟩ := h.take hc (by simpa using hal)
    refine ⟨a.eval x, w, F, ρ, osT', osH, osV, .inl ?_, Ext.refl h.fresh, fun _ _ x => x, hs, fun b hb => .inl ?_⟩
    · rcases hop with hop | hop <;> simp [execOp, hop]
    · simp only [List.mem_append] at hb ⊢
      rcases hb with (hb | hb) | hb
      · exact .inl (hsub b (by simp [hb]))
      · exact .inr hb
      · exact .inl (hsub b (by simp [hb]))
theorem op_cp (h : Sim B a.tmps.toList w F ρ s rest osT osH) {x : Operand} {y : Src} (hop : o.op = .move x ∨ o.op = .assign x) (hc : chkS x y = true)
    (hr : opRes c (nth s.t) s.h (.cp y) = some r) : OpOK P a o B w F ρ s rest osT osH r := by
  have hrun : (execOp a.eval o).run P w = .ok (.value (a.eval x)) w := by rcases hop with hop | hop <;> simp [execOp, hop]
  simp only [opRes] at hr
  cases hcp : cpV (nth s.t) y with
  | none => rw [hcp] at hr; cases hr
  | some v =>
    rw [hcp] at hr
    simp only [Option.some.injEq] at hr
    subst hr
    obtain ⟨os, hrep, _⟩ := h.ev hc
    cases y with
    | t i =>
      simp only [cpV] at hcp
      split at hcp
      · cases hcp
      · rename_i hh
        simp only [Option.some.injEq] at hcp
        subst hcp
        simp only [Bool.or_eq_true, not_or, Bool.not_eq_true] at hh
        have := hrep.os_nil hh.1.1
        subst this
        exact OpOK.pure h hrun hrep (aliasV_of hh.1.2)
    | c v' =>
      simp only [cpV, Option.some.injEq] at hcp
      subst hcp
      cases x with
      | const cv =>
        refine OpOK.pure h hrun (.e _ _ _ (constOK_rep hc w F)) (aliasV_of ?_)
        cases v' <;> first | rfl | (cases cv <;> simp [chkS, constOK, constOK1] at hc)
      | _ => cases hc
    | f g =>
      simp only [cpV, Option.some.injEq] at hcp
      subst hcp
      have := hrep.os_nil rfl
      subst this
      exact OpOK.pure h hrun hrep trivial
theorem op_al (h : Sim B a.tmps.toList w F ρ s rest osT osH) {d : Nat} (hop : o.op = .move (.tmp d)) (hr : opRes c (nth s.t) s.h (.al d) = some r) : OpOK P a o B w F ρ s rest osT osH r := by
 have hrun : (execOp a.eval o).run P w = .ok (.value (a.eval (.tmp d))) w := by simp [execOp, hop]
 simp only [opRes] at hr
 split at hr
 ·rename_i ho
  simp only [Option.some.injEq] at hr
  subst hr
  refine OpOK.pure h hrun (.al _ _) ⟨ho, ?_⟩
  have hi : d < s.t.length := nth_lt (fun hh => by rw [hh] at ho; cases ho)
  obtain ⟨cv, od, g1, g2, _⟩ := h.tmps.get hi
  rw [g1, eval_tmp a rfl d g1]
 ·split at hr
  ·cases hr
  ·rename_i hh
   simp only [Option.some.injEq] at hr
   subst hr
   simp only [Bool.or_eq_true, not_or, Bool.not_eq_true] at hh
   obtain ⟨os, hrep, _⟩ := h.ev (x := .tmp d) (y := .t d) (by simp [chkS])
   simp only [Am.ev] at hrep
   have := hrep.os_nil hh.1
   subst this
   exact OpOK.pure h hrun hrep (aliasV_of hh.2)
theorem pickV_true {x y : V} (h : pickOk true x y = true) : pickV true x y = x ∧ x.data = true := by
 cases x <;> first | exact ⟨rfl, h⟩ | (cases y <;> first | exact ⟨rfl, rfl⟩ | exact ⟨rfl, h⟩)
theorem pickV_false {x y : V} (h : pickOk false x y = true) : pickV false x y = y ∧ y.data = true := by
 cases x <;> first | exact ⟨rfl, h⟩ | (cases y <;> first | exact ⟨rfl, rfl⟩ | exact ⟨rfl, h⟩)
theorem op_pick (h : Sim B a.tmps.toList w F ρ s rest osT osH) {x1 x2 x3 : Operand} {y1 y2 y3 : Src} (hop : o.op = .pick x1 x2 x3) (h1 : chkS x1 y1 = true) (h2 : chkS x2 y2 = true) (h3 : chkS x3 y3 = true)
    (hr : opRes c (nth s.t) s.h (.pick y1 y2 y3) = some r) : OpOK P a o B w F ρ s rest osT osH r := by
  simp only [opRes] at hr
  split at hr
  · rename_i t he
    obtain ⟨os, hrep, _⟩ := h.ev h1
    rw [he] at hrep
    have hx1 := hrep.bool_inv
    split at hr
    · rename_i hok
      simp only [Option.some.injEq] at hr
      subst hr
      have hrun : (execOp a.eval o).run P w = .ok (.value (if t then a.eval x2 else a.eval x3)) w := by
        cases t <;> simp [execOp, hop, hx1, asBool]
      cases t with
      | true =>
        obtain ⟨e1, e2⟩ := pickV_true hok
        rw [e1]
        obtain ⟨os, hrep, _⟩ := h.ev h2
        exact OpOK.pure h hrun (.e _ _ _ (.d _ _ (hrep.data e2))) (aliasV_of (by cases hv : Am.ev (nth s.t) y2 <;> rw [hv] at e2 <;> first | rfl | cases e2))
      | false =>
        obtain ⟨e1, e2⟩ := pickV_false hok
        rw [e1]
        obtain ⟨os, hrep, _⟩ := h.ev h3
        exact OpOK.pure h hrun (.e _ _ _ (.d _ _ (hrep.data e2))) (aliasV_of (by cases hv : Am.ev (nth s.t) y3 <;> rw [hv] at e2 <;> first | rfl | cases e2))
    · cases hr
  · cases hr
theorem data_isAl {v : V} (h : v.data = true) : isAl v = false := by cases v <;> first | rfl | cases h
theorem OpOK.data (h : Sim B a.tmps.toList w F ρ s rest osT osH) {cv : Value} {v : V} (hr : (execOp a.eval o).run P w = .ok (.value cv) w) (hv : RepD w F cv v) :
    OpOK P a o B w F ρ s rest osT osH (.val [] v s.h) :=
  OpOK.pure h hr (.e _ _ _ (.d _ _ hv)) (aliasV_of (data_isAl hv.data))
theorem op_fa (h : Sim B a.tmps.toList w F ρ s rest osT osH) {x : Operand} {y : Src} {t : TypeId} {fi off n : Nat} {fs : Array Field} {f : Field} {b : Option Nat} (hop : o.op = .fieldAddr t x fi) (hc : chkS x y = true)
    (hu : P.underlying t = some (.struct fs)) (hf : fs[fi]? = some f) (ho : f.offset = off) (hn : szT P f.type = some n) (hn0 : n ≠ 0)
    (hr : opRes c (nth s.t) s.h (.fa y off b) = some r) : OpOK P a o B w F ρ s rest osT osH r := by
  subst ho
  have hrun : ∀ blk o', a.eval x = .pointer (some ⟨blk, o', none⟩) → (execOp a.eval o).run P w = .ok (.value (.pointer (some ⟨blk, o' + f.offset, none⟩))) w := fun blk o' he => by
    simp [execOp, hop, Instr.fieldAt, run_under hu, hf, he, Instr.sureAddr, fieldPlace, run_sizeOf hn, hn0, addr_add]
  simp only [opRes] at hr
  split at hr
  · rename_i d o' hp
    simp only [Option.some.injEq] at hr
    subst hr
    obtain ⟨blk, he, hh⟩ := h.place_slot hc hp
    exact OpOK.pure h (hrun _ _ he) (.bref _ _ _) ⟨blk, rfl, hh⟩
  · rename_i id o' hp
    simp only [Option.some.injEq] at hr
    subst hr
    obtain ⟨blk, h1, he⟩ := h.place_obj hc hp
    exact OpOK.pure h (hrun _ _ he) (.ptr _ _ _ h1) trivial
  · rename_i cs hp
    split at hr
    · rename_i hl
      simp only [Option.some.injEq] at hr
      subst hr
      obtain ⟨blk, o', cvf, he, g1, g2, g3⟩ := rptr_inv (h.place_ro hc hp)
      exact OpOK.pure h (hrun _ _ he) (rptr_drop hl g1 g2 g3) trivial
    · cases hr
  · cases hr
theorem run_indexAt_slice' {t : TypeId} {e : TypeId} {b off len cap n : Nat} {k : IntKind} {i : Int} (hu : P.underlying t = some (.slice e)) (hn : szT P e = some n) (h0 : 0 ≤ i) (h1 : i < len) :
    (Instr.indexAt t (.slice (some ⟨b, off, none⟩) len cap) (.int k i)).run P w = .ok (.pointer (some ⟨b, off + i.toNat * n, none⟩)) w := by
  simp [Instr.indexAt, asIntOf, run_under hu, run_sizeOf hn, h0, h1, addr_add]
theorem run_indexAt_array' {t : TypeId} {e : TypeId} {b off m n : Nat} {k : IntKind} {i : Int} (hu : P.underlying t = some (.array m e)) (hn : szT P e = some n) (h0 : 0 ≤ i) (h1 : i < m) :
    (Instr.indexAt t (.pointer (some ⟨b, off, none⟩)) (.int k i)).run P w = .ok (.pointer (some ⟨b, off + i.toNat * n, none⟩)) w := by
  simp [Instr.indexAt, asIntOf, run_under hu, run_sizeOf hn, h0, h1, addr_add, Instr.sureAddr]
theorem op_ia_arr (h : Sim B a.tmps.toList w F ρ s rest osT osH) {x i : Operand} {y j : Src} {t e : TypeId} {sz m : Nat} {b : Option Nat} (hop : o.op = .indexAddr t x i) (hc : chkS x y = true) (hj : chkS i j = true)
    (hu : P.underlying t = some (.array m e)) (hn : szT P e = some sz) (hr : opRes c (nth s.t) s.h (.ia y j sz (some m) b) = some r) : OpOK P a o B w F ρ s rest osT osH r := by
  simp only [opRes] at hr
  cases hi : intOf (nth s.t) j with
  | none => rw [hi] at hr; cases hr
  | some k =>
    rw [hi] at hr
    simp only at hr
    obtain ⟨kk, hik⟩ := h.int hj hi
    split at hr
    · rename_i hk
      have hrun : ∀ blk o', a.eval x = .pointer (some ⟨blk, o', none⟩) → (execOp a.eval o).run P w = .ok (.value (.pointer (some ⟨blk, o' + k.toNat * sz, none⟩))) w := fun blk o' he => by
        simp [execOp, hop, he, hik, run_indexAt_array' hu hn hk.1 hk.2]
      split at hr
      · rename_i d o' hp
        simp only [Option.some.injEq] at hr
        subst hr
        obtain ⟨blk, he, hh⟩ := h.place_slot hc hp
        exact OpOK.pure h (hrun _ _ he) (.bref _ _ _) ⟨blk, rfl, hh⟩
      · rename_i id o' hp
        simp only [Option.some.injEq] at hr
        subst hr
        obtain ⟨blk, h1, he⟩ := h.place_obj hc hp
        exact OpOK.pure h (hrun _ _ he) (.ptr _ _ _ h1) trivial
      · rename_i cs hp
        split at hr
        · rename_i hl
          simp only [Option.some.injEq] at hr
          subst hr
          obtain ⟨blk, o', cvf, he, g1, g2, g3⟩ := rptr_inv (h.place_ro hc hp)
          exact OpOK.pure h (hrun _ _ he) (rptr_drop hl g1 g2 g3) trivial
        · cases hr
      · cases hr
    · cases hr
theorem sl_inv {cv : Value} {sz : Nat} {xs : List V} (h : RepD w F cv (.sl false sz xs)) : ((∃ p, cv = .slice p 0 0) ∧ xs = []) ∨ ∃ (b off cap : Nat) (cvf : Nat → Nat → Value), cv = .slice (some ⟨b, off, none⟩) xs.length cap ∧ sz ≠ 0 ∧ xs.length ≤ cap ∧
  off + xs.length * sz ≤ F b ∧ (∀ i, i < xs.length → (nth xs i).cells.length = sz ∧ (nth xs i).data = true) ∧ (∀ i j, i < xs.length → j < sz → w.cell? ⟨b, off + i * sz + j, none⟩ = some (cvf i j)) ∧
  (∀ i j, i < xs.length → j < sz → (nth (nth xs i).cells j).one = true) ∧ ∀ i j, i < xs.length → j < sz → RepD w F (cvf i j) (nth (nth xs i).cells j) := by
 cases h with
 | slnil p => exact .inl ⟨⟨p, rfl⟩, rfl⟩
 | sl b off len cap _ _ cvf h0 h1 h2 h3 h4 h5 h6 h7 => subst h1; exact .inr ⟨b, off, cap, cvf, rfl, h0, h2, h3, h4, h5, h6, h7⟩
theorem mul_lt_of {i n sz : Nat} (h : i < n) : i * sz + sz ≤ n * sz := by
 have := Nat.mul_le_mul_right sz (Nat.succ_le_of_lt h)
 rwa [Nat.succ_mul] at this
theorem op_ia_sl (h : Sim B a.tmps.toList w F ρ s rest osT osH) {x i : Operand} {y j : Src} {t e : TypeId} {sz : Nat} {b : Option Nat} (hop : o.op = .indexAddr t x i) (hc : chkS x y = true) (hj : chkS i j = true)
    (hu : P.underlying t = some (.slice e)) (hn : szT P e = some sz) (hr : opRes c (nth s.t) s.h (.ia y j sz none b) = some r) : OpOK P a o B w F ρ s rest osT osH r := by
  simp only [opRes] at hr
  cases hi : intOf (nth s.t) j with
  | none => rw [hi] at hr; cases hr
  | some k =>
    rw [hi] at hr
    simp only at hr
    obtain ⟨kk, hik⟩ := h.int hj hi
    split at hr
    · rename_i sz' xs he
      split at hr
      · rename_i hk
        obtain ⟨rfl, hk0, hk1⟩ := hk
        simp only [Option.some.injEq] at hr
        subst hr
        obtain ⟨os, hrep, _⟩ := h.ev hc
        rw [he] at hrep
        rcases sl_inv (hrep.data rfl) with ⟨_, rfl⟩ | ⟨blk, off, cap, cvf, hx, _, g2, g3, g4, g5, g6, g7⟩
        · simp at hk1; omega
        have hlt : k.toNat < xs.length := by omega
        refine OpOK.pure h (cv := .pointer (some ⟨blk, off + k.toNat * sz', none⟩)) (by simp [execOp, hop, hx, hik, run_indexAt_slice' hu hn hk0 hk1]) ?_ trivial
        refine .rptr blk _ _ (fun j => cvf k.toNat j) ?_ (fun j hj => ?_) (fun j hj => ?_)
        · rw [(g4 _ hlt).1]
          have := mul_lt_of (sz := sz') hlt
          omega
        · rw [(g4 _ hlt).1] at hj; exact g5 _ _ hlt hj
        · rw [(g4 _ hlt).1] at hj; exact ⟨g7 _ _ hlt hj, g6 _ _ hlt hj⟩
      · cases hr
    · rename_i d he
      split at hr
      · rename_i d'
        split at hr
        · rename_i xs hd
          split at hr
          · rename_i hk
            obtain ⟨rfl, rfl, hk0, hk1⟩ := hk
            simp only [Option.some.injEq] at hr
            subst hr
            cases y with
            | t i' =>
              simp only [Am.ev] at he
              have hi' : i' < s.t.length := nth_lt (fun hh => by rw [hh] at he; cases he)
              obtain ⟨cv, od, g1, g2, _⟩ := h.tmps.get hi'
              have ha := h.alias i' cv g1
              rw [he] at ha
              obtain ⟨_, ha⟩ := ha
              have hd' : d < s.t.length := nth_lt (fun hh => by rw [hh] at hd; cases hd)
              obtain ⟨cv', od', q1, q2, _⟩ := h.tmps.get hd'
              rw [hd] at q2
              rw [q1] at ha
              simp only [Option.some.injEq] at ha
              subst ha
              cases q2 with
              | e _ _ _ q2 =>
                cases q2 with
                | d _ _ q2 => cases q2
                | ownnil => simp at hk1; omega
                | own blk len cap _ _ q2 =>
                  have hx : a.eval x = .slice (some ⟨blk, 0, none⟩) len cap := by
                    cases x with
                    | tmp t => simp only [chkS, beq_iff_eq] at hc; subst hc; exact eval_tmp a rfl t g1
                    | _ => cases hc
                  have hl : (xs.length : Int) = (len : Int) := by rw [q2.hlen]
                  have hr1 := run_indexAt_slice' (w := w) (b := blk) (off := 0) (len := len) (cap := cap) (k := kk) hu hn hk0 (by omega)
                  simp only [Nat.zero_add, Nat.mul_one] at hr1
                  refine OpOK.pure h (cv := .pointer (some ⟨blk, k.toNat, none⟩)) (by simp [execOp, hop, hx, hik, hr1]) (.bref _ _ _) ?_
                  exact ⟨blk, rfl, .inr ⟨⟨1, xs, hd⟩, len, cap, q1⟩⟩
            | c v =>
              simp only [Am.ev] at he
              subst he
              cases x <;> simp [chkS] at hc
              rename_i cv
              cases cv <;> simp [constOK, constOK1] at hc
            | f g => cases he
          · cases hr
        · cases hr
      · cases hr
    · cases hr
end
end Go.Am
namespace Go.Am
open Go Go.RowKit
def setA (cur : Array Value) (o : Nat) : List Value → Array Value
 | [] => cur
 | v :: r => setA (cur.setIfInBounds o v) (o + 1) r
theorem setA_size (vs : List Value) : ∀ (cur : Array Value) (o : Nat), (setA cur o vs).size = cur.size := by
 induction vs with
 | nil => intro cur o; rfl
 | cons v r ih => intro cur o; simp [setA, ih]
theorem setCells_block {b : Nat} : ∀ (vs : List Value) (o : Nat) (w : World) (cur : Array Value) (e : TypeId) (fr : Nat × Nat), w.heap[b]? = some (.cells cur e fr) →
  (w.setCells b o vs).heap[b]? = some (.cells (setA cur o vs) e fr) := by
 intro vs
 induction vs with
 | nil => intro o w cur e fr h; exact h
 | cons v r ih =>
  intro o w cur e fr h
  simp only [World.setCells, setA]
  refine ih (o + 1) _ _ e fr ?_
  simp only [World.setCell, Array.getElem?_modify, if_true, h, Option.map_some]
  simp
theorem setCells_other {b k : Nat} (hk : k ≠ b) : ∀ (vs : List Value) (o : Nat) (w : World), (w.setCells b o vs).heap[k]? = w.heap[k]? := by
 intro vs
 induction vs with
 | nil => intro o w; rfl
 | cons v r ih =>
  intro o w
  simp only [World.setCells]
  rw [ih]
  exact Below.heap_setCell _ _ _ _ hk
theorem setCells_rest {b : Nat} : ∀ (vs : List Value) (o : Nat) (w : World), (w.setCells b o vs).os = w.os ∧ (w.setCells b o vs).tape = w.tape ∧ (w.setCells b o vs).output = w.output ∧ (w.setCells b o vs).heap.size = w.heap.size := by
 intro vs
 induction vs with
 | nil => intro o w; exact ⟨rfl, rfl, rfl, rfl⟩
 | cons v r ih =>
  intro o w
  simp only [World.setCells]
  obtain ⟨h1, h2, h3, h4⟩ := ih (o + 1) (w.setCell ⟨b, o, none⟩ v)
  exact ⟨h1.trans rfl, h2.trans rfl, h3.trans rfl, h4.trans (by simp [World.setCell])⟩
theorem Ext.setCells {B : Nat} {w : World} {F : Nat → Nat} {blk o : Nat} (vs : List Value) (hB : B ≤ blk) (h0 : F blk = 0) (hf : ∀ b, w.heap.size ≤ b → F b = 0) :
    Ext B w F (w.setCells blk o vs) F (fun b => b = blk) := by
  obtain ⟨h1, h2, h3, h4⟩ := setCells_rest (b := blk) vs o w
  have hother : ∀ k, k ≠ blk → (w.setCells blk o vs).heap[k]? = w.heap[k]? := fun k hk => setCells_other hk vs o w
  refine ⟨⟨h1, h2, h3, Nat.le_of_eq h4.symm, fun k hk => hother k (by omega)⟩, Nat.le_of_eq h4.symm, fun b c hc => ?_, fun _ => Nat.le_refl _, fun b hb _ => ⟨hother b hb, rfl⟩, fun b hb => hf b (by omega)⟩
  refine cell_of_block (hother b ?_)
  rintro rfl
  rw [h0] at hc
  omega
section
variable {R : Value → V → List Nat → Prop}
theorem RepL.overlay {ws : List V} : ∀ {vs : List Value} {osW : List Nat} (_ : RepL R vs ws osW) {cur : Array Value} {cs : List V} {os : List Nat} {o : Nat}, RepL R cur.toList cs os → o + ws.length ≤ cs.length →
  ∃ os', RepL R (setA cur o vs).toList (Am.overlay cs o ws) os' ∧ ∀ b, os'.count b ≤ os.count b + osW.count b := by
 induction ws with
 | nil =>
  intro vs osW hw cur cs os o hc hl
  cases hw
  exact ⟨os, hc, fun b => by simp⟩
 | cons x ws ih =>
  intro vs osW hw cur cs os o hc hl
  cases hw with
  | cons cv _ cvs _ o1 o2 h1 h2 =>
   simp only [List.length_cons] at hl
   obtain ⟨c0, p1, p0, p2, g1, g2, g3, g4⟩ := hc.at (d := o) (by omega)
   have hstep := g4 R cv x o1 (fun _ _ _ r _ => r) h1
   have hset : (cur.setIfInBounds o cv).toList = cur.toList.set o cv := by simp
   rw [← hset] at hstep
   obtain ⟨os', q1, q2⟩ := ih h2 (o := o + 1) hstep (by rw [upd_length]; omega)
   refine ⟨os', q1, fun b => ?_⟩
   have := q2 b
   rw [g2]
   simp only [List.count_append] at this ⊢
   omega
end
section
variable {P : Program} {a : Act} {o : Oper} {B : Nat} {w : World} {F : Nat → Nat} {ρ : List Nat} {s : St} {rest osT osH : List Nat} {c : CallF} {r : Rs}
theorem nth_cells_one {v : V} (h : v.one = true) : nth v.cells 0 = v := by rw [V.one_cells h]; rfl
theorem RepD.cellsL {cv : Value} {v : V} (h : RepD w F cv v) : RepL (RepC w F) cv.cells.toList v.cells [] := by
 have key : ∀ (cvs : List Value) (cs : List V), cvs.length = cs.length → (∀ j, j < cs.length → (nth cs j).one = true) → (∀ j (hj : j < cvs.length), RepD w F cvs[j] (nth cs j)) → RepL (RepC w F) cvs cs [] := by
  intro cvs
  induction cvs with
  | nil => intro cs h1 _ _; cases cs with | nil => exact .nil | cons => simp at h1
  | cons c cvs ih =>
   intro cs h1 h2 h3
   cases cs with
   | nil => simp at h1
   | cons x cs =>
    have r0 := h3 0 (by simp)
    have o0 := h2 0 (by simp)
    exact .cons _ _ _ _ [] [] ⟨.d _ _ r0, r0.oneCell o0, fun _ => o0⟩ (ih cs (by simpa using h1) (fun j hj => h2 (j + 1) (by simpa using hj)) (fun j hj => h3 (j + 1) (by simpa using hj)))
 cases hv : v with
 | agg cs =>
  rw [hv] at h
  cases h with
  | agg cvs _ h1 h2 h3 => exact key cvs.toList cs (by simpa using h1) h2 (fun j hj => by have := h3 j (by simpa using hj); rwa [← Array.getElem_toList] at this)
 | _ =>
  rw [← hv]
  have h1 : v.one = true := by
   have := h.data
   rw [hv] at this ⊢
   first | exact this | (rename_i o _ _; cases o <;> first | exact this | cases this)
  rw [V.one_cells h1, h.cells_one h1]
  exact key [cv] [v] rfl (fun j hj => by have e : j = 0 := (by simpa using hj); subst e; exact h1) (fun j hj => by have e : j = 0 := (by simpa using hj); subst e; exact h)
theorem RepL.nth_getElem {R : Value → V → List Nat → Prop} {cvs : List Value} {vs : List V} {os : List Nat} (r : RepL R cvs vs os) {d : Nat} (hd : d < vs.length) : ∃ cv os', cvs[d]? = some cv ∧ R cv (nth vs d) os' := by
 obtain ⟨cv, od, h1, h2, _⟩ := r.get hd
 exact ⟨cv, od, h1, h2⟩
theorem RepE.data {cv : Value} {v : V} {os : List Nat} (r : RepE w F cv v os) (h : v.data = true) : RepD w F cv v ∧ os = [] := by
 cases r with
 | d _ _ r => exact ⟨r, rfl⟩
 | _ => cases h
theorem OwnCells.cell {b : Nat} {cs : List V} {os : List Nat} (h : OwnCells w F b cs os) {j : Nat} (hj : j < cs.length) : ∃ cv, w.cell? ⟨b, j, none⟩ = some cv ∧ ((nth cs j).data = true → RepD w F cv (nth cs j) ∧ (nth cs j).one = true) := by
 obtain ⟨_, cur, e, fr, h1, _, h3⟩ := h
 obtain ⟨cv, os', g1, g2⟩ := h3.nth_getElem hj
 refine ⟨cv, ?_, fun hd => ⟨(g2.1.data hd).1, g2.2.2 hd⟩⟩
 simp only [World.cell?, h1, Option.isSome_none, Bool.false_eq_true, if_false]
 simpa using g1
theorem load_agg {t : TypeId} {b off m : Nat} {ds : List V} (ht : aggT P t = true) (hs : szT P t = some m) (hl : ds.length = m)
    (hc : ∀ j, j < m → ∃ cv, w.cell? ⟨b, off + j, none⟩ = some cv ∧ RepD w F cv (nth ds j) ∧ (nth ds j).one = true) :
    ∃ cv, (loadVar t ⟨b, off, none⟩).run P w = .ok cv w ∧ RepD w F cv (.agg ds) := by
  let f : Nat → Value := fun j => (w.cell? ⟨b, off + j, none⟩).getD undef
  have hf : ∀ j, j < m → w.cell? ⟨b, off + j, none⟩ = some (f j) ∧ RepD w F (f j) (nth ds j) ∧ (nth ds j).one = true := fun j hj => by
    obtain ⟨cv, h1, h2, h3⟩ := hc j hj
    have : f j = cv := by simp [f, h1]
    rw [this]
    exact ⟨h1, h2, h3⟩
  refine ⟨.agg ((List.range m).map f).toArray, run_loadVar_agg ht hs _ (by simp) (fun j v hj => ?_), ?_⟩
  · by_cases hjm : j < m
    · simp [hjm] at hj
      rw [← hj]
      exact (hf j hjm).1
    · rw [List.getElem?_eq_none (by simp; omega)] at hj
      cases hj
  · refine .agg _ _ (by simp [hl]) (fun j hj => (hf j (by omega)).2.2) (fun j hj => ?_)
    simp at hj
    simpa using (hf j hj).2.1
theorem all_nth {p : V → Bool} {l : List V} (h : l.all p = true) {j : Nat} (hj : j < l.length) : p (nth l j) = true := by
 rw [nth_eq_getElem hj]
 exact List.all_eq_true.1 h _ (List.getElem_mem hj)
theorem RepH.at {w : World} {F : Nat → Nat} {ρ : List Nat} {hp : Heap} {os : List Nat} (r : RepH w F ρ hp os) {id : Nat} (hi : id < hp.length) :
    ∃ b o1 ob o2, ρ[id]? = some b ∧ os = o1 ++ (b :: ob) ++ o2 ∧ OwnCells w F b (hnth hp id) ob ∧
      ∀ (w' : World) (F' : Nat → Nat) cs' ob', (∀ b' cs o, OwnCells w F b' cs o → (∀ x ∈ b' :: o, x ∈ o1 ++ o2) → OwnCells w' F' b' cs o) → OwnCells w' F' b cs' ob' → RepH w' F' ρ (hupd hp id cs') (o1 ++ (b :: ob') ++ o2) := by
  induction r generalizing id with
  | nil => simp at hi
  | cons b cs ρ hp os os' h1 h2 ih =>
    cases id with
    | zero =>
      refine ⟨b, [], os, os', rfl, by simp, h1, fun w' F' cs' ob' hK hn => ?_⟩
      have hrest : RepH w' F' ρ hp os' := by
        clear ih h1 hn hi
        have hK' : ∀ b' cs o, OwnCells w F b' cs o → (∀ x ∈ b' :: o, x ∈ os') → OwnCells w' F' b' cs o := fun b' cs o h hx => hK b' cs o h (by simpa using hx)
        clear hK
        induction h2 with
        | nil => exact .nil
        | cons b cs ρ hp os os' h1 h2 ih =>
          exact .cons _ _ _ _ _ _ (hK' _ _ _ h1 (fun x hx => List.mem_append_left _ hx)) (ih fun b' cs o h hx => hK' _ _ _ h (fun x hxx => List.mem_append_right _ (hx x hxx)))
      simpa [hupd] using RepH.cons b cs' ρ hp ob' os' hn hrest
    | succ id =>
      obtain ⟨b', o1, ob, o2, g1, g2, g3, g4⟩ := ih (id := id) (by simpa using hi)
      refine ⟨b', b :: os ++ o1, ob, o2, g1, by rw [g2]; simp, g3, fun w' F' cs' ob' hK hn => ?_⟩
      have := g4 w' F' cs' ob' (fun b'' cs o h hx => hK _ _ _ h (fun x hxx => by have := hx x hxx; simp only [List.mem_append] at this ⊢; rcases this with h | h <;> simp [h])) hn
      have h5 := RepH.cons (w := w') (F := F') b cs ρ _ os _ (hK _ _ _ h1 (fun x hx => by simp only [List.cons_append, List.append_assoc, List.mem_cons, List.mem_append] at hx ⊢; rcases hx with h | h <;> simp [h])) this
      simpa [hupd] using h5
theorem hnth_out {hp : Heap} {id : Nat} (h : hp.length ≤ id) : hnth hp id = [] := by
 induction hp generalizing id with
 | nil => rfl
 | cons x hp ih =>
  cases id with
  | zero => simp at h
  | succ id => exact ih (by simpa using h)
theorem RepH.length {w : World} {F : Nat → Nat} {ρ : List Nat} {hp : Heap} {os : List Nat} (r : RepH w F ρ hp os) : ρ.length = hp.length := by
 induction r with
 | nil => rfl
 | cons => simp [*]
theorem Sim.slot_box (h : Sim B a.tmps.toList w F ρ s rest osT osH) {d blk : Nat} {cs : List V} (hd : nth s.t d = .box cs) (hv : a.tmps.toList[d]? = some (.pointer (some ⟨blk, 0, none⟩))) :
    ∃ o1 os o2, osT = o1 ++ (blk :: os) ++ o2 ∧ OwnCells w F blk cs os ∧ ∀ (R' : Value → V → List Nat → Prop) v' os', (∀ cv v o, RepV w F ρ cv v o → (∀ b ∈ o, b ∈ o1 ++ o2) → R' cv v o) →
      R' (.pointer (some ⟨blk, 0, none⟩)) v' os' → RepL R' a.tmps.toList (upd s.t d v') (o1 ++ os' ++ o2) := by
  have hi : d < s.t.length := nth_lt (fun hh => by rw [hh] at hd; cases hd)
  obtain ⟨cv, o1, od, o2, g1, g2, g3, g4⟩ := h.tmps.at hi
  rw [g1] at hv
  simp only [Option.some.injEq] at hv
  subst hv
  rw [hd] at g3
  cases g3 with
  | e _ _ _ g3 => cases g3 with | d _ _ g3 => cases g3
  | box _ _ os g3 =>
    refine ⟨o1, os, o2, g2, g3, fun R' v' os' hR hn => ?_⟩
    have := g4 R' (.pointer (some ⟨blk, 0, none⟩)) v' os' hR hn
    rwa [list_set_self g1] at this
theorem Sim.slot_own (h : Sim B a.tmps.toList w F ρ s rest osT osH) {d blk len cap sz : Nat} {xs : List V} (hd : nth s.t d = .sl true sz xs) (hv : a.tmps.toList[d]? = some (.slice (some ⟨blk, 0, none⟩) len cap)) :
    ∃ o1 o2, osT = o1 ++ [blk] ++ o2 ∧ OwnSl w F blk len cap sz xs ∧ ∀ (R' : Value → V → List Nat → Prop) v' os', (∀ cv v o, RepV w F ρ cv v o → (∀ b ∈ o, b ∈ o1 ++ o2) → R' cv v o) →
      R' (.slice (some ⟨blk, 0, none⟩) len cap) v' os' → RepL R' a.tmps.toList (upd s.t d v') (o1 ++ os' ++ o2) := by
  have hi : d < s.t.length := nth_lt (fun hh => by rw [hh] at hd; cases hd)
  obtain ⟨cv, o1, od, o2, g1, g2, g3, g4⟩ := h.tmps.at hi
  rw [g1] at hv
  simp only [Option.some.injEq] at hv
  subst hv
  rw [hd] at g3
  cases g3 with
  | e _ _ _ g3 =>
    cases g3 with
    | d _ _ g3 => cases g3
    | own _ _ _ _ _ g3 =>
      refine ⟨o1, o2, g2, g3, fun R' v' os' hR hn => ?_⟩
      have := g4 R' (.slice (some ⟨blk, 0, none⟩) len cap) v' os' hR hn
      rwa [list_set_self g1] at this
theorem run_load {t : TypeId} {x : Operand} {b off : Nat} {cv : Value} (hop : o.op = .load t x) (hx : a.eval x = .pointer (some ⟨b, off, none⟩)) (hl : (loadVar t ⟨b, off, none⟩).run P w = .ok cv w) :
    (execOp a.eval o).run P w = .ok (.value cv) w := by
  simp [execOp, hop, hx, Instr.loadAt, Instr.sureAddr, hl]
theorem ld_case (h : Sim B a.tmps.toList w F ρ s rest osT osH) {x : Operand} {t : TypeId} {blk off : Nat} {n : Option Nat} (hop : o.op = .load t x) (hx : a.eval x = .pointer (some ⟨blk, off, none⟩))
    (hn : match n with | none => oneT P t = true | some m => aggT P t = true ∧ szT P t = some m) {cs : List V} (hcell : ∀ j, off + j < cs.length → ∃ cv, w.cell? ⟨blk, off + j, none⟩ = some cv ∧ ((nth cs (off + j)).one = true → RepD w F cv (nth cs (off + j))))
    {v : V} (hv : match n with | none => off < cs.length ∧ (nth cs off).one = true ∧ v = nth cs off | some m => off + m ≤ cs.length ∧ ((cs.drop off).take m).all V.one = true ∧ v = .agg ((cs.drop off).take m)) :
    OpOK P a o B w F ρ s rest osT osH (.val [] v s.h) := by
  cases n with
  | none =>
    obtain ⟨h1, h2, rfl⟩ := hv
    obtain ⟨cv, g1, g2⟩ := hcell 0 (by simpa using h1)
    simp only [Nat.add_zero] at g1 g2
    exact OpOK.data h (run_load hop hx (run_loadVar_one hn g1)) (g2 h2)
  | some m =>
    obtain ⟨h1, h2, rfl⟩ := hv
    have hlen : ((cs.drop off).take m).length = m := by rw [List.length_take, List.length_drop]; omega
    obtain ⟨cv, g1, g2⟩ := load_agg (w := w) (F := F) (P := P) (b := blk) (off := off) hn.1 hn.2 hlen (fun j hj => by
      obtain ⟨cv, q1, q2⟩ := hcell j (by omega)
      have hd := all_nth h2 (j := j) (by omega)
      rw [nth_take _ _ _ hj, nth_drop] at hd ⊢
      exact ⟨cv, q1, q2 hd, hd⟩)
    exact OpOK.data h (run_load hop hx g1) g2
theorem own_one {xs : List V} {len cap blk : Nat} (h : OwnSl w F blk len cap 1 xs) {j : Nat} (hj : j < xs.length) : ∃ cv, w.cell? ⟨blk, j, none⟩ = some cv ∧ ((nth xs j).one = true → RepD w F cv (nth xs j)) := by
 obtain ⟨cv, g1, g2, g3⟩ := h.cell j 0 hj (by omega)
 refine ⟨cv, by simpa using g1, fun hd => ?_⟩
 rw [nth_cells_one hd] at g2
 exact g2
theorem OwnCells.cell1 {b : Nat} {cs : List V} {os : List Nat} (h : OwnCells w F b cs os) {j : Nat} (hj : j < cs.length) : ∃ cv, w.cell? ⟨b, j, none⟩ = some cv ∧ ((nth cs j).one = true → RepD w F cv (nth cs j)) := by
 obtain ⟨cv, h1, h2⟩ := h.cell hj
 exact ⟨cv, h1, fun hd => (h2 (V.one_data hd)).1⟩
theorem OwnCells.take {b : Nat} {cs : List V} {os : List Nat} (h : OwnCells w F b cs os) {j : Nat} (hj : j < cs.length) : ∃ cv p1 po p2, w.cell? ⟨b, j, none⟩ = some cv ∧ os = p1 ++ po ++ p2 ∧ RepC w F cv (nth cs j) po ∧ OwnCells w F b (upd cs j .undef) (p1 ++ p2) := by
 obtain ⟨h0, cur, e, fr, h1, h2, h3⟩ := h
 obtain ⟨cv, p1, po, p2, g1, g2, g3, g4⟩ := h3.at hj
 refine ⟨cv, p1, po, p2, ?_, g2, g3, h0, cur, e, fr, h1, h2, ?_⟩
 ·simp only [World.cell?, h1, Option.isSome_none, Bool.false_eq_true, if_false]
  simpa using g1
 ·have := g4 (RepC w F) cv .undef [] (fun _ _ _ r _ => r) ⟨.undef _, g3.2.1, fun hd => by cases hd⟩
  rw [list_set_self g1] at this
  simpa using this
theorem op_ld (h : Sim B a.tmps.toList w F ρ s rest osT osH) {x : Operand} {y : Src} {t : TypeId} {n : Option Nat} {tr : Bool} {b : Option Nat} (hop : o.op = .load t x) (hc : chkS x y = true)
    (hn : match n with | none => oneT P t = true | some m => aggT P t = true ∧ szT P t = some m)
    (hr : opRes c (nth s.t) s.h (.ld y n tr b) = some r) : OpOK P a o B w F ρ s rest osT osH r := by
  simp only [opRes] at hr
  split at hr
  · rename_i d off hp
    obtain ⟨blk, hx, hh⟩ := h.place_slot hc hp
    split at hr
    · cases hr
    · rename_i cs hm
      have hcell : ∀ j, j < cs.length → ∃ cv, w.cell? ⟨blk, j, none⟩ = some cv ∧ ((nth cs j).one = true → RepD w F cv (nth cs j)) := by
        rcases hh with ⟨⟨cs', hd⟩, hv⟩ | ⟨⟨sz, xs, hd⟩, len, cap, hv⟩
        · rw [hd] at hm
          simp only [memOf, Option.some.injEq] at hm
          subst hm
          obtain ⟨_, os, _, _, g3, _⟩ := h.slot_box hd hv
          exact fun j hj => g3.cell1 hj
        · rw [hd] at hm
          by_cases hsz : sz = 1
          · subst hsz
            simp only [memOf, Option.some.injEq] at hm
            subst hm
            obtain ⟨_, _, _, g3, _⟩ := h.slot_own hd hv
            exact fun j hj => own_one g3 hj
          · simp [memOf, hsz] at hm
      cases n with
      | none =>
        simp only at hr
        split at hr
        · rename_i hlt
          split at hr
          · -- taken out of a box
            split at hr
            · rename_i cs' hd
              rw [hd] at hm
              simp only [memOf, Option.some.injEq] at hm
              subst hm
              simp only [Option.some.injEq] at hr
              subst hr
              rcases hh with ⟨⟨cs'', hd'⟩, hv⟩ | ⟨⟨sz, xs, hd'⟩, _⟩
              · obtain ⟨o1, os, o2, e1, g3, g4⟩ := h.slot_box hd hv
                obtain ⟨cv, p1, po, p2, q1, q2, q3, q4⟩ := g3.take hlt
                have hT := g4 (RepV w F ρ) (.box (upd cs' off .undef)) (blk :: (p1 ++ p2)) (fun _ _ _ r _ => r) (.box _ _ _ q4)
                refine ⟨cv, w, F, ρ, o1 ++ (blk :: (p1 ++ p2)) ++ o2, osH, po, .inl (run_load hop hx (run_loadVar_one hn q1)), Ext.refl h.fresh, fun _ _ x => x,
                  ⟨hT, h.heap, h.alias.view (fl := false) rfl (.inr ⟨fun _ => ⟨_, rfl⟩, fun ⟨sz, xs, hh⟩ => by rw [hd] at hh; cases hh⟩), .e _ _ _ q3.1, aliasV_of ?_, fun b => ?_, fun b hb => ?_, h.fresh, h.base⟩, fun b hb => .inl ?_⟩
                · cases hz : nth cs' off <;> first | rfl | (rw [hz] at q3; cases q3.1 with | d _ _ r => cases r)
                · have := h.once b
                  rw [e1, q2] at this
                  simp only [List.count_append, List.count_cons] at this ⊢
                  omega
                · refine h.inb b ?_
                  rw [e1, q2]
                  simp only [List.mem_append, List.mem_cons] at hb ⊢
                  rcases hb with (((((hb | hb | hb | hb) | hb) | hb) | hb)) | hb <;> simp [hb]
                · rw [e1, q2]
                  simp only [List.mem_append, List.mem_cons] at hb ⊢
                  rcases hb with ((((hb | hb | hb | hb) | hb) | hb)) | hb <;> simp [hb]
              · rw [hd] at hd'; cases hd'
            · cases hr
          · split at hr
            · rename_i ho
              simp only [Option.some.injEq] at hr
              subst hr
              exact ld_case (n := none) h hop hx hn (fun j hj => hcell _ hj) ⟨hlt, ho, rfl⟩
            · cases hr
        · cases hr
      | some m =>
        simp only at hr
        split at hr
        · rename_i hlt
          split at hr
          · rename_i ho
            simp only [Option.some.injEq] at hr
            subst hr
            exact ld_case (n := some m) h hop hx hn (fun j hj => hcell _ hj) ⟨hlt, ho, rfl⟩
          · cases hr
        · cases hr
  · rename_i id off hp
    obtain ⟨blk, hid, hx⟩ := h.place_obj hc hp
    have hidlt : hnth s.h id ≠ [] → id < s.h.length := fun hne => by
      rcases Nat.lt_or_ge id s.h.length with h' | h'
      · exact h'
      · exact absurd (hnth_out h') hne
    have hcell : ∀ j, j < (hnth s.h id).length → ∃ cv, w.cell? ⟨blk, j, none⟩ = some cv ∧ ((nth (hnth s.h id) j).one = true → RepD w F cv (nth (hnth s.h id) j)) := fun j hj => by
      obtain ⟨b', o1, ob, o2, g1, g2, g3, _⟩ := h.heap.at (hidlt (fun hh => by rw [hh] at hj; simp at hj))
      rw [hid] at g1
      simp only [Option.some.injEq] at g1
      subst g1
      exact g3.cell1 hj
    cases n with
    | none =>
      simp only at hr
      split at hr
      · rename_i hlt
        split at hr
        · simp only [Option.some.injEq] at hr
          subst hr
          obtain ⟨b', o1, ob, o2, g1, g2, g3, g4⟩ := h.heap.at (hidlt (fun hh => by rw [hh] at hlt; simp at hlt))
          rw [hid] at g1
          simp only [Option.some.injEq] at g1
          subst g1
          obtain ⟨cv, p1, po, p2, q1, q2, q3, q4⟩ := g3.take hlt
          have hH := g4 w F (upd (hnth s.h id) off .undef) (p1 ++ p2) (fun _ _ _ r _ => r) q4
          refine ⟨cv, w, F, ρ, osT, o1 ++ (blk :: (p1 ++ p2)) ++ o2, po, .inl (run_load hop hx (run_loadVar_one hn q1)), Ext.refl h.fresh, fun _ _ x => x,
            ⟨h.tmps, hH, h.alias, .e _ _ _ q3.1, aliasV_of ?_, fun b => ?_, fun b hb => ?_, h.fresh, h.base⟩, fun b hb => .inl ?_⟩
          · cases hz : nth (hnth s.h id) off <;> first | rfl | (rw [hz] at q3; cases q3.1 with | d _ _ r => cases r)
          · have := h.once b
            rw [g2, q2] at this
            simp only [List.count_append, List.count_cons] at this ⊢
            omega
          · refine h.inb b ?_
            rw [g2, q2]
            simp only [List.mem_append, List.mem_cons] at hb ⊢
            rcases hb with ((hb | ((hb | hb | hb | hb) | hb)) | hb) | hb <;> simp [hb]
          · rw [g2, q2]
            simp only [List.mem_append, List.mem_cons] at hb ⊢
            rcases hb with (hb | ((hb | hb | hb | hb) | hb)) | hb <;> simp [hb]
        · split at hr
          · rename_i ho
            simp only [Option.some.injEq] at hr
            subst hr
            exact ld_case (n := none) h hop hx hn (fun j hj => hcell _ hj) ⟨hlt, ho, rfl⟩
          · cases hr
      · cases hr
    | some m =>
      simp only at hr
      split at hr
      · rename_i hlt
        split at hr
        · rename_i ho
          simp only [Option.some.injEq] at hr
          subst hr
          exact ld_case (n := some m) h hop hx hn (fun j hj => hcell _ hj) ⟨hlt, ho, rfl⟩
        · cases hr
      · cases hr
  · rename_i cs hp
    obtain ⟨blk, off, cvf, hx, g1, g2, g3⟩ := rptr_inv (h.place_ro hc hp)
    cases n with
    | none =>
      simp only at hr
      split at hr
      · rename_i x0 cs'
        split at hr
        · simp only [Option.some.injEq] at hr
          subst hr
          have q := g2 0 (by simp)
          exact OpOK.data h (run_load hop hx (run_loadVar_one hn q)) (g3 0 (by simp)).1
        · cases hr
      · cases hr
    | some m =>
      simp only at hr
      split at hr
      · rename_i hl
        simp only [Option.some.injEq] at hr
        subst hr
        obtain ⟨cv, q1, q2⟩ := load_agg (w := w) (F := F) (P := P) (b := blk) (off := off) (ds := cs.take m) hn.1 hn.2 (by rw [List.length_take]; omega) (fun j hj => by
          rw [nth_take _ _ _ hj]
          exact ⟨cvf j, g2 j (by omega), g3 j (by omega)⟩)
        exact OpOK.data h (run_load hop hx q1) q2
      · cases hr
  · cases hr
theorem run_storeVar {t : TypeId} {b off : Nat} {cv : Value} (hs : szT P t = some cv.cells.size) (hc : ∀ j, j < cv.cells.size → (w.cell? ⟨b, off + j, none⟩).isSome = true) (hf : ∀ j, j < cv.cells.size → w.frozen? ⟨b, off + j, none⟩ = false)
    (h1 : ∀ v ∈ cv.cells.toList, v.oneCell' = true) : (storeVar t ⟨b, off, none⟩ cv).run P w = .ok () (w.setCells b off cv.cells.toList) := by
  have := run_storeCells_cells (P := P) b off cv.cells.toList 0 w (fun j hj => by simpa using hc j (by simpa using hj)) (fun j hj => by simpa using hf j (by simpa using hj)) h1
  simp only [Nat.add_zero] at this
  simp [storeVar, run_sizeOf hs, this]
theorem RepL.mem_imp {R : Value → V → List Nat → Prop} {cvs : List Value} {vs : List V} {os : List Nat} (r : RepL R cvs vs os) {p : Value → Prop} (h : ∀ cv v o, R cv v o → p cv) : ∀ cv ∈ cvs, p cv := by
 induction r with
 | nil => intro cv hm; cases hm
 | cons cv v cvs vs os os' a _ ih =>
  intro c hm
  cases hm with
  | head => exact h _ _ _ a
  | tail _ hm => exact ih c hm
theorem OwnCells.store {b off : Nat} {cs : List V} {os osW : List Nat} {vs : List Value} {ws : List V} (h : OwnCells w F b cs os) (hv : RepL (RepC w F) vs ws osW) (hl : off + ws.length ≤ cs.length)
    (hB : B ≤ b) (hf : ∀ b, w.heap.size ≤ b → F b = 0) (hos : b ∉ os) (hosW : b ∉ osW) :
    ∃ os', OwnCells (w.setCells b off vs) F b (overlay cs off ws) os' ∧ (∀ x, os'.count x ≤ os.count x + osW.count x) ∧ (∀ j, j < vs.length → (w.cell? ⟨b, off + j, none⟩).isSome = true) ∧ (∀ j, j < vs.length → w.frozen? ⟨b, off + j, none⟩ = false) := by
  obtain ⟨h0, cur, e, fr, h1, h2, h3⟩ := h
  obtain ⟨os', q1, q2⟩ := hv.overlay h3 hl
  have hsz : cur.size = cs.length := by simpa using h3.length
  have hvl := hv.length
  refine ⟨os', ⟨h0, setA cur off vs, e, fr, setCells_block vs off w cur e fr h1, fun o ho => ?_, ?_⟩, q2, fun j hj => ?_, fun j hj => ?_⟩
  · rw [setA_size] at ho
    rw [World.frozen?_setCells]
    exact h2 o ho
  · refine q1.imp fun cv v o r hm => r.ext (Ext.setCells (B := B) vs hB h0 hf) (fun x hx hxb => ?_)
    subst hxb
    have := q2 x
    have := List.count_pos_iff.2 (hm x hx)
    have := List.count_eq_zero.2 hos
    have := List.count_eq_zero.2 hosW
    omega
  · simp only [World.cell?, h1, Option.isSome_none, Bool.false_eq_true, if_false]
    simp [show off + j < cur.size by omega]
  · exact h2 _ (by omega)
theorem count_le_of {l m : List Nat} {b : Nat} (h : ∀ x, l.count x ≤ m.count x) (hb : b ∈ l) : b ∈ m :=
 List.count_pos_iff.1 (Nat.lt_of_lt_of_le (List.count_pos_iff.2 hb) (h b))
theorem SimV.storeBox {t : List V} {hp : Heap} {cv : Value} {v : V} {osV : List Nat} (h : SimV B a.tmps.toList w F ρ t hp cv v rest osT osH osV) {d blk off : Nat} {cs : List V} (hd : nth t d = .box cs)
    (hcv : a.tmps.toList[d]? = some (.pointer (some ⟨blk, 0, none⟩))) (hcl : RepL (RepC w F) cv.cells.toList v.cells osV) (hl : off + v.cells.length ≤ cs.length) :
    ∃ osT', SimV B a.tmps.toList (w.setCells blk off cv.cells.toList) F ρ (upd t d (.box (overlay cs off v.cells))) hp undef (.tup []) rest osT' osH [] ∧ (∀ x, osT'.count x ≤ osT.count x + osV.count x) ∧
      Ext B w F (w.setCells blk off cv.cells.toList) F (fun b => b = blk) ∧ blk ∈ osT ∧
      (∀ j, j < cv.cells.toList.length → (w.cell? ⟨blk, off + j, none⟩).isSome = true) ∧ (∀ j, j < cv.cells.toList.length → w.frozen? ⟨blk, off + j, none⟩ = false) := by
  have hi : d < t.length := nth_lt (fun hh => by rw [hh] at hd; cases hd)
  obtain ⟨cv', o1, od, o2, g1, g2, g3, g4⟩ := h.tmps.at hi
  rw [g1] at hcv
  simp only [Option.some.injEq] at hcv
  subst hcv
  rw [hd] at g3
  cases g3 with
  | e _ _ _ g3 => cases g3 with | d _ _ g3 => cases g3
  | box _ _ os g3 =>
    have hbT : blk ∈ osT := by rw [g2]; simp
    have hinb := h.inb blk (by simp [hbT])
    have hone := h.once blk
    rw [g2] at hone
    simp only [List.count_append, List.count_cons_self] at hone
    have hos : blk ∉ os := fun hm => by have := List.count_pos_iff.2 hm; omega
    have hosV : blk ∉ osV := fun hm => by have := List.count_pos_iff.2 hm; omega
    have hE := Ext.setCells (B := B) (w := w) (F := F) (o := off) cv.cells.toList hinb.1 hinb.2.2 h.fresh
    obtain ⟨os', q1, q2, q3, q4⟩ := g3.store hcl hl hinb.1 h.fresh hos hosV
    have hT := g4 (RepV (w.setCells blk off cv.cells.toList) F ρ) (.pointer (some ⟨blk, 0, none⟩)) (.box (overlay cs off v.cells)) (blk :: os') (fun cv v o r hm => r.ext hE (fun _ _ x => x)
      (fun b hb => (h.inb b (by rw [g2]; have := hm b hb; simp only [List.mem_append] at this ⊢; rcases this with x | x <;> simp [x])).2.1)
      (fun b hb hbb => by
        subst hbb
        have := List.count_pos_iff.2 (hm b hb)
        simp only [List.count_append] at this
        omega)) (.box _ _ _ q1)
    rw [list_set_self g1] at hT
    have hcount : ∀ x, (o1 ++ (blk :: os') ++ o2).count x ≤ osT.count x + osV.count x := fun x => by
      have := q2 x
      rw [g2]
      simp only [List.count_append, List.count_cons] at this ⊢
      omega
    refine ⟨_, ⟨hT, h.heap.ext hE (fun b hb hbb => ?_), h.alias.view (fl := false) rfl (.inr ⟨fun _ => ⟨_, rfl⟩, fun ⟨sz, xs, hh⟩ => by rw [hd] at hh; cases hh⟩), .tup [] [] [] .nil, trivial, fun b => ?_, fun b hb => ?_, hE.fresh, Nat.le_trans h.base hE.size⟩, hcount, hE, hbT, q3, q4⟩
    · subst hbb
      have := List.count_pos_iff.2 hb
      omega
    · have a1 := h.once b
      have a2 := hcount b
      simp only [List.count_append, List.count_nil] at a1 a2 ⊢
      omega
    · have hmem : b ∈ osT ++ osH ++ osV ++ rest := by
        simp only [List.mem_append] at hb
        rcases hb with ((hb | hb) | hb) | hb
        · have := count_le_of (l := o1 ++ (blk :: os') ++ o2) (m := osT ++ osV) (b := b) (fun x => by have := hcount x; simp only [List.count_append] at this ⊢; omega) (by simp only [List.mem_append, List.mem_cons] at hb ⊢; rcases hb with (x | x | x) | x <;> simp [x])
          simp only [List.mem_append] at this ⊢
          rcases this with x | x <;> simp [x]
        · simp [hb]
        · cases hb
        · simp [hb]
      obtain ⟨b1, b2, b3⟩ := h.inb b hmem
      exact ⟨b1, Nat.lt_of_lt_of_le b2 hE.size, b3⟩
theorem SimV.storeObj {t : List V} {hp : Heap} {cv : Value} {v : V} {osV : List Nat} (h : SimV B a.tmps.toList w F ρ t hp cv v rest osT osH osV) {id blk off : Nat} (hid : ρ[id]? = some blk) (hlt : id < hp.length)
    (hcl : RepL (RepC w F) cv.cells.toList v.cells osV) (hl : off + v.cells.length ≤ (hnth hp id).length) :
    ∃ osH', SimV B a.tmps.toList (w.setCells blk off cv.cells.toList) F ρ t (hupd hp id (overlay (hnth hp id) off v.cells)) undef (.tup []) rest osT osH' [] ∧ (∀ x, osH'.count x ≤ osH.count x + osV.count x) ∧
      Ext B w F (w.setCells blk off cv.cells.toList) F (fun b => b = blk) ∧ blk ∈ osH ∧
      (∀ j, j < cv.cells.toList.length → (w.cell? ⟨blk, off + j, none⟩).isSome = true) ∧ (∀ j, j < cv.cells.toList.length → w.frozen? ⟨blk, off + j, none⟩ = false) := by
  obtain ⟨b', o1, ob, o2, g1, g2, g3, g4⟩ := h.heap.at hlt
  rw [hid] at g1
  simp only [Option.some.injEq] at g1
  subst g1
  have hbH : blk ∈ osH := by rw [g2]; simp
  have hinb := h.inb blk (by simp [hbH])
  have hone := h.once blk
  rw [g2] at hone
  simp only [List.count_append, List.count_cons_self] at hone
  have hos : blk ∉ ob := fun hm => by have := List.count_pos_iff.2 hm; omega
  have hosV : blk ∉ osV := fun hm => by have := List.count_pos_iff.2 hm; omega
  have hE := Ext.setCells (B := B) (w := w) (F := F) (o := off) cv.cells.toList hinb.1 hinb.2.2 h.fresh
  obtain ⟨os', q1, q2, q3, q4⟩ := g3.store hcl hl hinb.1 h.fresh hos hosV
  have hH := g4 (w.setCells blk off cv.cells.toList) F _ os' (fun b' cs o r hm => r.ext hE (fun hbb => by
      subst hbb
      have := List.count_pos_iff.2 (hm b' (by simp))
      simp only [List.count_append] at this
      omega) (fun b hb hbb => by
      subst hbb
      have := List.count_pos_iff.2 (hm b (by simp [hb]))
      simp only [List.count_append] at this
      omega)) q1
  have hcount : ∀ x, (o1 ++ (blk :: os') ++ o2).count x ≤ osH.count x + osV.count x := fun x => by
    have := q2 x
    rw [g2]
    simp only [List.count_append, List.count_cons] at this ⊢
    omega
  refine ⟨_, ⟨h.tmps.ext hE (fun _ _ x => x) (fun b hb => (h.inb b (by simp [hb])).2.1) (fun b hb hbb => ?_), hH, h.alias, .tup [] [] [] .nil, trivial, fun b => ?_, fun b hb => ?_, hE.fresh, Nat.le_trans h.base hE.size⟩, hcount, hE, hbH, q3, q4⟩
  · subst hbb
    have := List.count_pos_iff.2 hb
    omega
  · have a1 := h.once b
    have a2 := hcount b
    simp only [List.count_append, List.count_nil] at a1 a2 ⊢
    omega
  · have hmem : b ∈ osT ++ osH ++ osV ++ rest := by
      simp only [List.mem_append] at hb
      rcases hb with ((hb | hb) | hb) | hb
      · simp [hb]
      · have := count_le_of (l := o1 ++ (blk :: os') ++ o2) (m := osH ++ osV) (b := b) (fun x => by have := hcount x; simp only [List.count_append] at this ⊢; omega) (by simp only [List.mem_append, List.mem_cons] at hb ⊢; rcases hb with (x | x | x) | x <;> simp [x])
        simp only [List.mem_append] at this ⊢
        rcases this with x | x <;> simp [x]
      · cases hb
      · simp [hb]
    obtain ⟨b1, b2, b3⟩ := h.inb b hmem
    exact ⟨b1, Nat.lt_of_lt_of_le b2 hE.size, b3⟩
end
end Go.Am
namespace Go.Am
open Go Go.RowKit
theorem ups_append (t : List V) (u1 u2 : List (Nat × V × Bool)) : ups t (u1 ++ u2) = ups (ups t u1) u2 := by
 induction u1 generalizing t with
 | nil => rfl
 | cons u u1 ih => exact ih _
section
variable {P : Program} {a : Act} {o : Oper} {B : Nat} {w : World} {F : Nat → Nat} {ρ : List Nat} {s : St} {rest osT osH : List Nat} {c : CallF} {r : Rs}
theorem OwnSl.store1 {blk len cap off : Nat} {xs : List V} {cv : Value} {v : V} (h : OwnSl w F blk len cap 1 xs) (hl : off < xs.length) (hv : RepD w F cv v) (h1 : v.one = true) (hB : B ≤ blk) (hf : ∀ b, w.heap.size ≤ b → F b = 0) :
    OwnSl (w.setCells blk off [cv]) F blk len cap 1 (upd xs off v) ∧ (w.cell? ⟨blk, off, none⟩).isSome = true ∧ w.frozen? ⟨blk, off, none⟩ = false := by
  obtain ⟨cur, e, fr, b1, b2, b3⟩ := h.block
  have hE := Ext.setCells (B := B) (w := w) (F := F) (o := off) [cv] hB h.zero hf
  have hcur : off < cur.size := by have := h.hcap; have := h.hlen; omega
  have hsome : ∀ j, j < cur.size → (w.cell? ⟨blk, j, none⟩).isSome = true := fun j hj => by
    simp only [World.cell?, b1, Option.isSome_none, Bool.false_eq_true, if_false]
    simp [hj]
  have hin := World.cell?_setCells_in blk [cv] off w (fun j hj => by
    obtain rfl : j = 0 := by simpa using hj
    simpa using hsome off hcur) 0 (by simp)
  refine ⟨⟨by rw [upd_length]; exact h.hlen, h.hcap, h.zero, ⟨setA cur off [cv], e, fr, setCells_block [cv] off w cur e fr b1, by rw [setA_size]; exact b2, fun o ho => ?_⟩, fun i hi => ?_, fun i j hi hj => ?_, by decide⟩, hsome off hcur, b3 off hcur⟩
  · rw [setA_size] at ho
    rw [World.frozen?_setCells]
    exact b3 o ho
  · rw [upd_length] at hi
    by_cases hio : off = i
    · subst hio; rw [nth_upd_self hl, V.one_cells h1]; exact ⟨rfl, V.one_data h1⟩
    · rw [nth_upd_ne hio]; exact h.elem i hi
  · rw [upd_length] at hi
    obtain rfl : j = 0 := by omega
    by_cases hio : off = i
    · subst hio
      rw [nth_upd_self hl, nth_cells_one h1]
      exact ⟨cv, by simpa using hin, hv.ext hE, h1⟩
    · rw [nth_upd_ne hio]
      obtain ⟨cv', c1, c2, c3⟩ := h.cell i 0 hi hj
      refine ⟨cv', ?_, c2.ext hE, c3⟩
      rw [World.cell?_setCells_out blk [cv] off w _ (fun _ _ => by simp; omega)]
      exact c1
theorem SimV.storeSl {cv : Value} {v : V} (h : Sim B a.tmps.toList w F ρ s rest osT osH) {d blk len cap off : Nat} {xs : List V} (hd : nth s.t d = .sl true 1 xs)
    (hcv : a.tmps.toList[d]? = some (.slice (some ⟨blk, 0, none⟩) len cap)) (hv : RepD w F cv v) (h1 : v.one = true) (hl : off < xs.length) :
    SimV B a.tmps.toList (w.setCells blk off [cv]) F ρ (upd s.t d (.sl true 1 (upd xs off v))) s.h undef (.tup []) rest osT osH [] ∧
      Ext B w F (w.setCells blk off [cv]) F (fun b => b = blk) ∧ blk ∈ osT ∧ (w.cell? ⟨blk, off, none⟩).isSome = true ∧ w.frozen? ⟨blk, off, none⟩ = false := by
  obtain ⟨o1, o2, g2, g3, g4⟩ := h.slot_own hd hcv
  have hbT : blk ∈ osT := by rw [g2]; simp
  have hinb := h.inb blk (by simp [hbT])
  have hone := h.once blk
  rw [g2] at hone
  simp only [List.count_append, List.count_cons_self, List.count_nil] at hone
  have hE := Ext.setCells (B := B) (w := w) (F := F) (o := off) [cv] hinb.1 hinb.2.2 h.fresh
  obtain ⟨q1, q2, q3⟩ := g3.store1 hl hv h1 hinb.1 h.fresh
  have hT := g4 (RepV (w.setCells blk off [cv]) F ρ) (.sl true 1 (upd xs off v)) [blk] (fun cv v o r hm => r.ext hE (fun _ _ x => x)
    (fun b hb => (h.inb b (by rw [g2]; have := hm b hb; simp only [List.mem_append] at this ⊢; rcases this with x | x <;> simp [x])).2.1)
    (fun b hb hbb => by
      subst hbb
      have := List.count_pos_iff.2 (hm b hb)
      simp only [List.count_append] at this
      omega)) (.e _ _ _ (.own _ _ _ _ _ q1))
  rw [← g2] at hT
  refine ⟨⟨hT, h.heap.ext hE (fun b hb hbb => ?_), h.alias.view (fl := false) rfl (.inr ⟨(fun ⟨cs, hh⟩ => by rw [hd] at hh; cases hh), fun _ => ⟨_, _, rfl⟩⟩), .tup [] [] [] .nil, trivial, fun b => ?_, fun b hb => ?_, hE.fresh, Nat.le_trans h.base hE.size⟩, hE, hbT, q2, q3⟩
  · subst hbb
    have := List.count_pos_iff.2 hb
    omega
  · have := h.once b
    simp only [List.count_append, List.count_nil] at this ⊢
    omega
  · obtain ⟨b1, b2, b3⟩ := h.inb b (by simp only [List.mem_append] at hb ⊢; rcases hb with ((hb | hb) | hb) | hb <;> first | (simp [hb]; done) | cases hb)
    exact ⟨b1, Nat.lt_of_lt_of_le b2 hE.size, b3⟩
theorem run_store_op {t : TypeId} {x v : Operand} {b off n : Nat} {cv : Value} (hop : o.op = .store t x v) (hx : a.eval x = .pointer (some ⟨b, off, none⟩)) (hv : a.eval v = cv) (hs : szT P t = some n) (hn : cv.cells.size = n)
    (hc : ∀ j, j < cv.cells.toList.length → (w.cell? ⟨b, off + j, none⟩).isSome = true) (hf : ∀ j, j < cv.cells.toList.length → w.frozen? ⟨b, off + j, none⟩ = false)
    (h1 : ∀ v ∈ cv.cells.toList, v.oneCell' = true) : (execOp a.eval o).run P w = .ok .skip (w.setCells b off cv.cells.toList) := by
  subst hn
  have := run_storeVar (P := P) hs (fun j hj => hc j (by simpa using hj)) (fun j hj => hf j (by simpa using hj)) h1
  simp [execOp, hop, hx, hv, Instr.storeAt, Instr.sureAddr, this]
theorem RepV.cellsE {cv : Value} {v : V} {os : List Nat} (h : RepV w F ρ cv v os) (hv : v.data = true ∨ ∃ sz xs, v = .sl true sz xs) : RepL (RepC w F) cv.cells.toList v.cells os := by
 rcases hv with hv | ⟨sz, xs, rfl⟩
 ·have := h.os_nil (by cases v <;> first | rfl | cases hv | (rename_i o _ _; cases o <;> first | rfl | cases hv))
  subst this
  exact (h.data hv).cellsL
 ·cases h with
  | e _ _ _ h =>
   have h1 : cv.oneCell' = true ∧ cv.cells = #[cv] := by
    cases h with
    | d _ _ h => cases h
    | ownnil => exact ⟨rfl, rfl⟩
    | own => exact ⟨rfl, rfl⟩
   rw [h1.2]
   have := RepL.cons (R := RepC w F) cv (.sl true sz xs) [] [] os [] ⟨h, h1.1, fun hd => by cases hd⟩ .nil
   simpa [V.cells] using this
theorem op_st (h : Sim B a.tmps.toList w F ρ s rest osT osH) {x v : Operand} {y z : Src} {t : TypeId} {n : Nat} {tr : Bool} {b : Option Nat} (hop : o.op = .store t x v) (hc : chkS x y = true) (hcv : chkS v z = true)
    (hs : szT P t = some n) (hr : opRes c (nth s.t) s.h (.st y z n tr b) = some r) : OpOK P a o B w F ρ s rest osT osH r := by
  simp only [opRes] at hr
  cases hst : stVal (nth s.t) z tr with
  | none => rw [hst] at hr; cases hr
  | some q =>
    obtain ⟨wv, us⟩ := q
    rw [hst] at hr
    simp only at hr
    split at hr
    · rename_i hlen
      -- what is stored, and the slots behind it
      have hval : ∃ osT1 osV, SimV B a.tmps.toList w F ρ (ups s.t us) s.h (a.eval v) wv rest osT1 osH osV ∧ (∀ b ∈ osT1 ++ osV, b ∈ osT) ∧ RepL (RepC w F) (a.eval v).cells.toList wv.cells osV ∧
          (∀ d cs, nth s.t d = .box cs → nth (ups s.t us) d = .box cs) ∧ (tr = false → osT1 = osT ∧ us = [] ∧ RepD w F (a.eval v) wv) := by
        unfold stVal at hst
        split at hst
        · rename_i sz xs he
          split at hst
          · simp only [Option.some.injEq, Prod.mk.injEq] at hst
            obtain ⟨rfl, rfl⟩ := hst
            obtain ⟨osT1, osV, g1, g2⟩ := h.take hcv (by rw [he]; rfl)
            rw [he] at g1
            refine ⟨osT1, osV, g1, g2, g1.val.cellsE (.inr ⟨_, _, rfl⟩), fun d cs hd => ?_, fun hnil => ?_⟩
            · cases z with
              | t i =>
                simp only [Am.ev] at he
                have hl : (nth s.t i).lin = true := by rw [he]; rfl
                have hne : i ≠ d := fun hh => by rw [hh, hd] at he; cases he
                have : ups s.t (mvUps (nth s.t) (.t i)) = ups1 s.t (i, .undef, (nth s.t i).owner) := by simp only [mvUps, hl, if_true]; rfl
                rw [this, he]
                simp only [V.owner, ups1]
                rw [nth_upd_ne hne, nth_map_killb, hd]
                rfl
              | c v => exact hd
              | f g => exact hd
            · rename_i htr; rw [hnil] at htr; cases htr
          · cases hst
        · rename_i he
          split at hst
          · rename_i hd
            simp only [Option.some.injEq, Prod.mk.injEq] at hst
            obtain ⟨rfl, rfl⟩ := hst
            obtain ⟨os, hrep, _⟩ := h.ev hcv
            have hD := hrep.data hd
            exact ⟨osT, [], h.val (.e _ _ _ (.d _ _ hD)) (aliasV_of (data_isAl hd)), fun b hb => by simpa using hb, hD.cellsL, fun _ _ x => x, fun _ => ⟨rfl, rfl, hD⟩⟩
          · cases hst
      obtain ⟨osT1, osV, g1, g2, g3, g4, g5⟩ := hval
      have hvl := g3.length
      have hcsz : (a.eval v).cells.size = n := by rw [← hlen]; simpa using hvl
      have hone : ∀ v' ∈ (a.eval v).cells.toList, v'.oneCell' = true := g3.mem_imp fun _ _ _ r => r.2.1
      split at hr
      · rename_i d off hp
        obtain ⟨blk, hx, hh⟩ := h.place_slot hc hp
        split at hr
        · rename_i cs hd
          split at hr
          · rename_i hl
            simp only [Option.some.injEq] at hr
            subst hr
            have hv : a.tmps.toList[d]? = some (.pointer (some ⟨blk, 0, none⟩)) := by
              rcases hh with ⟨_, hv⟩ | ⟨⟨sz, xs, hd'⟩, _⟩
              · exact hv
              · rw [hd] at hd'; cases hd'
            obtain ⟨osT', q1, q2, q3, q4, q5, q6⟩ := g1.storeBox (g4 d cs hd) hv g3 (by rw [hlen]; exact hl)
            refine ⟨undef, _, F, ρ, osT', osH, [], .inr ⟨run_store_op hop hx rfl hs hcsz q5 q6 hone, rfl⟩, q3.weaken (fun b _ hb => ?_), fun _ _ x => x, ?_, fun b hb => .inl ?_⟩
            · subst hb; exact List.mem_append_left _ (g2 _ (List.mem_append_left _ q4))
            · rw [ups_append]; exact q1
            · simp only [List.append_nil, List.mem_append] at hb ⊢
              rcases hb with hb | hb
              · have := count_le_of (l := osT') (m := osT1 ++ osV) (b := b) (fun x => by have := q2 x; simp only [List.count_append]; omega) hb
                exact .inl (g2 b this)
              · exact .inr hb
          · cases hr
        · rename_i cs hd
          split at hr
          · rename_i hl
            obtain ⟨rfl, rfl, hw1, hl⟩ := hl
            simp only [Option.some.injEq] at hr
            subst hr
            obtain ⟨_, _, hD⟩ := g5 rfl
            rcases hh with ⟨⟨cs', hd'⟩, _⟩ | ⟨_, len, cap, hv⟩
            · rw [hd] at hd'; cases hd'
            · obtain ⟨q1, q2, q3, q4, q5⟩ := SimV.storeSl h hd hv hD hw1 hl
              have hcells : (a.eval v).cells = #[a.eval v] := hD.cells_one hw1
              have hrun := run_store_op (P := P) (w := w) hop hx rfl hs hcsz (fun j hj => by rw [hcells] at hj; have e : j = 0 := (by simpa using hj); subst e; simpa using q4)
                (fun j hj => by rw [hcells] at hj; have e : j = 0 := (by simpa using hj); subst e; simpa using q5) hone
              rw [hcells] at hrun
              exact ⟨undef, _, F, ρ, osT, osH, [], .inr ⟨hrun, rfl⟩, q2.weaken (fun b _ hb => by subst hb; exact List.mem_append_left _ q3), fun _ _ x => x, q1, fun b hb => .inl (by simpa using hb)⟩
          · cases hr
        · cases hr
      · rename_i id off hp
        obtain ⟨blk, hid, hx⟩ := h.place_obj hc hp
        split at hr
        · rename_i hl
          simp only [Option.some.injEq] at hr
          subst hr
          have hidlt : id < s.h.length := by
            have := h.heap.length
            rcases Nat.lt_or_ge id ρ.length with h' | h'
            · omega
            · rw [List.getElem?_eq_none h'] at hid; cases hid
          obtain ⟨osH', q1, q2, q3, q4, q5, q6⟩ := g1.storeObj hid hidlt g3 (by rw [hlen]; exact hl)
          refine ⟨undef, _, F, ρ, osT1, osH', [], .inr ⟨run_store_op hop hx rfl hs hcsz q5 q6 hone, rfl⟩, q3.weaken (fun b _ hb => by subst hb; exact List.mem_append_right _ q4), fun _ _ x => x, q1, fun b hb => .inl ?_⟩
          simp only [List.append_nil, List.mem_append] at hb ⊢
          rcases hb with hb | hb
          · exact .inl (g2 b (List.mem_append_left _ hb))
          · have := count_le_of (l := osH') (m := osH ++ osV) (b := b) (fun x => by have := q2 x; simp only [List.count_append]; omega) hb
            simp only [List.mem_append] at this
            rcases this with x | x
            · exact .inr x
            · exact .inl (g2 b (List.mem_append_right _ x))
        · cases hr
      · cases hr
    · cases hr
end
end Go.Am
namespace Go.Am
open Go Go.RowKit
section
variable {P : Program} {a : Act} {o : Oper} {B : Nat} {w : World} {F : Nat → Nat} {ρ : List Nat} {s : St} {rest osT osH : List Nat} {c : CallF} {r : Rs}
theorem OpOK.new (h : Sim B a.tmps.toList w F ρ s rest osT osH) {cv : Value} {v : V} {ob : Obj} {k : Nat} {osV : List Nat} (hr : (execOp a.eval o).run P w = .ok (.value cv) (w.alloc ob))
    (hv : RepV (w.alloc ob) (setF F w.heap.size k) ρ cv v osV) (ha : isAl v = false) (ho : osV = [] ∨ (osV = [w.heap.size] ∧ k = 0)) : OpOK P a o B w F ρ s rest osT osH (.val [] v s.h) := by
  have hE := Ext.alloc (B := B) h.base h.fresh ob k
  refine ⟨cv, w.alloc ob, setF F w.heap.size k, ρ, osT, osH, osV, .inl hr, hE.weaken (fun _ _ x => x.elim), fun _ _ x => x, h.new hE hv (aliasV_of ha) (fun b hb => ?_) (fun b => ?_), fun b hb => ?_⟩
  · rcases ho with rfl | ⟨rfl, rfl⟩
    · cases hb
    · obtain rfl := List.mem_singleton.1 hb
      exact ⟨Nat.le_refl _, by simp, setF_self F _ _⟩
  · rcases ho with rfl | ⟨rfl, rfl⟩
    · simp
    · simp only [List.count_singleton]; split <;> omega
  · rcases ho with rfl | ⟨rfl, rfl⟩
    · exact .inl (by simpa using hb)
    · simp only [List.mem_append, List.mem_singleton] at hb
      rcases hb with hb | hb
      · exact .inl (by simpa using hb)
      · exact .inr (Nat.le_of_eq hb.symm)
theorem cell_new (w : World) (cur : Array Value) (e : TypeId) (fr : Nat × Nat) (j : Nat) : (w.alloc (.cells cur e fr)).cell? ⟨w.heap.size, j, none⟩ = cur[j]? := by
 simp only [World.cell?, heap_alloc_new, Option.isSome_none, Bool.false_eq_true, if_false]
theorem frozen_new (w : World) (cur : Array Value) (e : TypeId) (j : Nat) : (w.alloc (.cells cur e)).frozen? ⟨w.heap.size, j, none⟩ = false := by
 simp only [World.frozen?, heap_alloc_new]
 simp
theorem OwnCells.new {cur : Array Value} {e : TypeId} {cs : List V} (hb : ∀ b, w.heap.size ≤ b → F b = 0) (hB : B ≤ w.heap.size) (h : RepL (RepC w F) cur.toList cs []) : OwnCells (w.alloc (.cells cur e)) (setF F w.heap.size 0) w.heap.size cs [] := by
 have hE := Ext.alloc (B := B) hB hb (.cells cur e) 0
 exact ⟨setF_self F _ _, cur, e, (0, 0), heap_alloc_new w _, fun o _ => frozen_new w cur e o, h.imp fun cv v o r hm => r.ext hE (fun _ _ x => x)⟩
def zeroT (P : Program) (t : TypeId) : Option Value := (P.info? t).bind (·.zero)
theorem run_zeroValue {t : TypeId} {z : Value} (h : zeroT P t = some z) : (zeroValue t).run P w = .ok z w := by
 unfold zeroT at h
 cases hi : P.info? t with
 | none => rw [hi] at h; cases h
 | some i =>
  rw [hi] at h
  simp only [Option.bind_some] at h
  simp [zeroValue, run_typeInfo hi, h]
theorem constL_cells : ∀ {cvs : List Value} {cs : List V}, constL cvs cs = true → RepL (RepC w F) cvs cs []
 | [], [], _ => .nil
 | a :: as, b :: bs, h => by
  simp only [constL, Bool.and_eq_true] at h
  have h1 := constOK1_rep h.1 w F
  refine .cons _ _ _ _ [] [] ⟨h1, ?_, ?_⟩ (constL_cells h.2)
  ·cases a <;> cases b <;> simp [constOK1] at h <;> rfl
  ·intro hd
   have h3 := h.1
   cases a <;> cases b <;> simp [constOK1] at h3 <;> first | rfl | exact hd | (rename_i o _ _; cases o <;> first | rfl | cases hd)
 | [], _ :: _, h => by cases h
 | _ :: _, [], h => by cases h
theorem op_newbox (h : Sim B a.tmps.toList w F ρ s rest osT osH) {t : TypeId} {cs : List V} {z : Value} (hop : o.op = .alloc t) (hz : zeroT P t = some z) (hc : constL z.cells.toList cs = true)
    (hr : opRes c (nth s.t) s.h (.newbox cs) = some r) : OpOK P a o B w F ρ s rest osT osH r := by
  simp only [opRes, Option.some.injEq] at hr
  subst hr
  refine OpOK.new h (cv := .pointer (some ⟨w.heap.size, 0, none⟩)) (ob := .cells z.cells t) (k := 0) (osV := [w.heap.size]) ?_ (.box _ _ _ (OwnCells.new (B := B) h.fresh h.base (constL_cells hc))) rfl (.inr ⟨rfl, rfl⟩)
  simp [execOp, hop, Instr.alloc, run_zeroValue hz, newVar, newRow]
theorem OpOK.newObj (h : Sim B a.tmps.toList w F ρ s rest osT osH) {cur : Array Value} {t : TypeId} {cs : List V} (hr : (execOp a.eval o).run P w = .ok (.value (.pointer (some ⟨w.heap.size, 0, none⟩))) (w.alloc (.cells cur t)))
    (hc : RepL (RepC w F) cur.toList cs []) : OpOK P a o B w F ρ s rest osT osH (.val [] (.ptr s.h.length 0) (s.h ++ [cs])) := by
  have hE := Ext.alloc (B := B) h.base h.fresh (.cells cur t) 0
  have h' := h.ext hE (fun _ _ => id)
  have hnew := OwnCells.new (B := B) (e := t) h.fresh h.base hc
  have hlen := h.heap.length
  have hH : ∀ {ρ : List Nat} {hp : Heap} {os : List Nat}, RepH (w.alloc (.cells cur t)) (setF F w.heap.size 0) ρ hp os → RepH (w.alloc (.cells cur t)) (setF F w.heap.size 0) (ρ ++ [w.heap.size]) (hp ++ [cs]) (os ++ [w.heap.size]) := by
    intro ρ hp os r
    induction r with
    | nil => exact .cons _ _ _ _ _ _ hnew .nil
    | cons b cs ρ hp os os' a _ ih => simpa using RepH.cons b cs _ _ os _ a ih
  have hpre : ∀ (id b : Nat), ρ[id]? = some b → (ρ ++ [w.heap.size])[id]? = some b := fun id b hh => by
    rw [List.getElem?_append_left]
    · exact hh
    · rcases Nat.lt_or_ge id ρ.length with h' | h'
      · exact h'
      · rw [List.getElem?_eq_none h'] at hh; cases hh
  refine ⟨_, _, _, ρ ++ [w.heap.size], osT, osH ++ [w.heap.size], [], .inl hr, hE.weaken (fun _ _ x => x.elim), hpre, ⟨h.tmps.ext hE hpre (fun b hb => h.lt (by simp [hb])) (fun _ _ => id), hH h'.heap, h.alias,
    .ptr _ _ w.heap.size (by rw [← hlen]; simp), trivial, fun b => ?_, fun b hb => ?_, h'.fresh, h'.base⟩, fun b hb => ?_⟩
  · have a1 := h.once b
    simp only [List.count_append, List.count_nil, List.count_singleton] at a1 ⊢
    by_cases hb : w.heap.size = b
    · subst hb
      have : ∀ l : List Nat, (∀ c ∈ l, c < w.heap.size) → l.count w.heap.size = 0 := fun l hl => List.count_eq_zero.2 fun hm => Nat.lt_irrefl _ (hl _ hm)
      have e1 := this osT fun c hc => h.lt (by simp [hc])
      have e2 := this osH fun c hc => h.lt (by simp [hc])
      have e3 := this rest fun c hc => h.lt (by simp [hc])
      simp only [beq_self_eq_true, if_true]
      omega
    · rw [if_neg (by simpa using hb)]
      omega
  · simp only [List.append_nil, List.mem_append, List.mem_singleton] at hb
    rcases hb with (hb | hb | hb) | hb
    · exact h'.inb b (by simp [hb])
    · exact h'.inb b (by simp [hb])
    · subst hb; exact ⟨h.base, by simp, setF_self F _ _⟩
    · exact h'.inb b (by simp [hb])
  · simp only [List.append_nil, List.mem_append, List.mem_singleton] at hb
    rcases hb with hb | hb | hb
    · exact .inl (by simp [hb])
    · exact .inl (by simp [hb])
    · exact .inr (Nat.le_of_eq hb.symm)
theorem op_newobj (h : Sim B a.tmps.toList w F ρ s rest osT osH) {t : TypeId} {cs : List V} {z : Value} (hop : o.op = .alloc t) (hz : zeroT P t = some z) (hc : constL z.cells.toList cs = true)
    (hr : opRes c (nth s.t) s.h (.newobj cs) = some r) : OpOK P a o B w F ρ s rest osT osH r := by
  simp only [opRes, Option.some.injEq] at hr
  subst hr
  refine OpOK.newObj h (cur := z.cells) (t := t) ?_ (constL_cells hc)
  simp [execOp, hop, Instr.alloc, run_zeroValue hz, newVar, newRow]
theorem run_box {t : TypeId} {x : Operand} (hop : o.op = .box t x) : (execOp a.eval o).run P w = .ok (.value (.pointer (some ⟨w.heap.size, 0, none⟩))) (w.alloc (.cells (a.eval x).cells t)) := by
 simp [execOp, hop, Instr.box, newVar, newRow]
theorem op_boxb (h : Sim B a.tmps.toList w F ρ s rest osT osH) {t : TypeId} {x : Operand} {y : Src} (hop : o.op = .box t x) (hc : chkS x y = true)
    (hr : opRes c (nth s.t) s.h (.boxb y) = some r) : OpOK P a o B w F ρ s rest osT osH r := by
  simp only [opRes] at hr
  cases hd : dat (nth s.t) y with
  | none => rw [hd] at hr; cases hr
  | some v =>
    rw [hd] at hr
    simp only [Option.some.injEq] at hr
    subst hr
    exact OpOK.new h (run_box hop) (.box _ _ _ (OwnCells.new (B := B) h.fresh h.base (h.dat hc hd).cellsL)) rfl (.inr ⟨rfl, rfl⟩)
theorem op_boxo (h : Sim B a.tmps.toList w F ρ s rest osT osH) {t : TypeId} {x : Operand} {y : Src} (hop : o.op = .box t x) (hc : chkS x y = true)
    (hr : opRes c (nth s.t) s.h (.boxo y) = some r) : OpOK P a o B w F ρ s rest osT osH r := by
  simp only [opRes] at hr
  cases hd : dat (nth s.t) y with
  | none => rw [hd] at hr; cases hr
  | some v =>
    rw [hd] at hr
    simp only [Option.some.injEq] at hr
    subst hr
    exact OpOK.newObj h (run_box hop) (h.dat hc hd).cellsL
theorem RepD.cells_nth {cv : Value} {v : V} (h : RepD w F cv v) : cv.cells.size = v.cells.length ∧ ∀ j, j < v.cells.length → ∃ cc, cv.cells[j]? = some cc ∧ RepD w F cc (nth v.cells j) ∧ (nth v.cells j).one = true := by
 cases hv : v with
 | agg cs =>
  rw [hv] at h
  cases h with
  | agg cvs _ h1 h2 h3 =>
   refine ⟨h1, fun j hj => ?_⟩
   simp only [V.cells] at hj
   exact ⟨cvs[j], by simp [Value.cells, show j < cvs.size by omega], h3 j (by omega), h2 j hj⟩
 | _ =>
  rw [← hv]
  have h1 : v.one = true := by
   have := h.data
   rw [hv] at this ⊢
   first | exact this | (rename_i o _ _; cases o <;> first | exact this | cases this)
  rw [V.one_cells h1, h.cells_one h1]
  refine ⟨rfl, fun j hj => ?_⟩
  have e : j = 0 := by simpa using hj
  subst e
  exact ⟨cv, rfl, h, h1⟩
theorem op_boxr (h : Sim B a.tmps.toList w F ρ s rest osT osH) {t : TypeId} {x : Operand} {y : Src} (hop : o.op = .box t x) (hc : chkS x y = true)
    (hr : opRes c (nth s.t) s.h (.boxr y) = some r) : OpOK P a o B w F ρ s rest osT osH r := by
  simp only [opRes] at hr
  cases hd : dat (nth s.t) y with
  | none => rw [hd] at hr; cases hr
  | some v =>
    rw [hd] at hr
    simp only [Option.some.injEq] at hr
    subst hr
    have hD := h.dat hc hd
    obtain ⟨h1, h2⟩ := hD.cells_nth
    have hE := Ext.alloc (B := B) h.base h.fresh (.cells (a.eval x).cells t) v.cells.length
    refine OpOK.new h (k := v.cells.length) (run_box hop) (.rptr _ _ _ (fun j => ((a.eval x).cells[j]?).getD undef) (by rw [setF_self]; omega) (fun j hj => ?_) (fun j hj => ?_)) rfl (.inl rfl)
    · obtain ⟨cc, q1, _⟩ := h2 j hj
      rw [Nat.zero_add, cell_new, q1]
      rfl
    · obtain ⟨cc, q1, q2, q3⟩ := h2 j hj
      rw [q1]
      exact ⟨q2.ext hE, q3⟩
theorem op_nck (h : Sim B a.tmps.toList w F ρ s rest osT osH) {x : Operand} {y : Src} {b : Option Nat} (hop : o.op = .nilCheck x) (hc : chkS x y = true)
    (hr : opRes c (nth s.t) s.h (.nck y b) = some r) : OpOK P a o B w F ρ s rest osT osH r := by
  simp only [opRes] at hr
  split at hr
  · rename_i d off hp
    simp only [Option.some.injEq] at hr
    subst hr
    obtain ⟨blk, he, hh⟩ := h.place_slot hc hp
    exact OpOK.pure h (by simp [execOp, hop, he]) (.bref _ _ _) ⟨blk, rfl, hh⟩
  · rename_i id off hp
    simp only [Option.some.injEq] at hr
    subst hr
    obtain ⟨blk, h1, he⟩ := h.place_obj hc hp
    exact OpOK.pure h (by simp [execOp, hop, he]) (.ptr _ _ _ h1) trivial
  · rename_i cs hp
    simp only [Option.some.injEq] at hr
    subst hr
    have := h.place_ro hc hp
    obtain ⟨blk, off, cvf, he, g1, g2, g3⟩ := rptr_inv this
    rw [he] at this
    exact OpOK.pure h (by simp [execOp, hop, he]) this trivial
  · split at hr
    · rename_i f caps he
      simp only [Option.some.injEq] at hr
      subst hr
      obtain ⟨os, hrep, _⟩ := h.ev hc
      rw [he] at hrep
      have := hrep.os_nil rfl
      subst this
      generalize hcv : a.eval x = cv at hrep
      have hrep' := hrep
      cases hrep with
      | e _ _ _ g2 => cases g2 with | d _ _ g2 => cases g2
      | fn f cvs caps g1 g2 => exact OpOK.pure h (by simp [execOp, hop, hcv]) hrep' trivial
    · cases hr
theorem op_un (h : Sim B a.tmps.toList w F ρ s rest osT osH) {x : Operand} {y : Src} {u : UnOp} {t : TypeId} (hop : o.op = .unOp u t x) (hnp : u ≠ .plus) (hc : chkS x y = true)
    (hr : opRes c (nth s.t) s.h (.un u y) = some r) : OpOK P a o B w F ρ s rest osT osH r := by
  simp only [opRes] at hr
  cases hu : unV u (Am.ev (nth s.t) y) with
  | none => rw [hu] at hr; cases hr
  | some v =>
    rw [hu] at hr
    simp only [Option.some.injEq] at hr
    subst hr
    obtain ⟨os, hrep, _⟩ := h.ev hc
    unfold unV at hu
    split at hu
    · rename_i b he
      rw [he] at hrep
      have hx := hrep.bool_inv
      cases u <;> simp at hu
      subst hu
      exact OpOK.data h (cv := .bool (!b)) (by simp [execOp, hop, hx, Op.unary]) (.bool _)
    · rename_i k n he
      rw [he] at hrep
      have hx := hrep.int_inv
      cases u <;> simp at hu
      · subst hu
        exact OpOK.data h (by simp [execOp, hop, hx, Op.unary, Op.intArith]) (.int _ _)
      · subst hu
        refine OpOK.data h (cv := .int k (bits .xor k (if k.signed then -1 else k.max) n)) ?_ (.int _ _)
        simp [execOp, hop, hx, Op.unary, Op.intBits, bits]
    · cases u <;> simp at hu; exact (hnp rfl).elim
    · cases u <;> simp at hu; exact (hnp rfl).elim
    · cases hu
theorem op_inil (h : Sim B a.tmps.toList w F ρ s rest osT osH) {x : Operand} {y : Src} {t t' : TypeId} {ms : Array (String × TypeId)} (hop : o.op = .binOp .neq t x (.const .nilIface) t') (ht : P.underlying t = some (.interface ms)) (hc : chkS x y = true)
    (hr : opRes c (nth s.t) s.h (.un .plus y) = some r) : OpOK P a o B w F ρ s rest osT osH r := by
  simp only [opRes] at hr
  have e2 : a.eval (.const .nilIface) = .nilIface := rfl
  cases hu : unV .plus (Am.ev (nth s.t) y) with
  | none => rw [hu] at hr; cases hr
  | some v =>
    rw [hu] at hr
    simp only [Option.some.injEq] at hr
    subst hr
    obtain ⟨os, hrep, _⟩ := h.ev hc
    unfold unV at hu
    split at hu
    · cases hu
    · cases hu
    · rename_i tx vx he
      rw [he] at hrep
      simp only [Option.some.injEq] at hu
      subst hu
      have hx : ∃ cv, a.eval x = .iface tx cv := by
        generalize a.eval x = z at hrep
        cases hrep with | e _ _ _ g2 => cases g2 with | d _ _ g2 => cases g2; exact ⟨_, rfl⟩
      obtain ⟨cv, hx⟩ := hx
      refine OpOK.data h (cv := .bool true) ?_ (.bool _)
      have key : ∀ d, (Op.equalIn (d + 1) t (.iface tx cv) .nilIface).run P w = .ok false w := fun d => by simp [Op.equalIn, run_underlying ht]
      have := key 9999
      simp [execOp, hop, hx, e2, eqGuard, binOp, Op.equal, Op.maxDepth, this]
    · rename_i he
      rw [he] at hrep
      simp only [Option.some.injEq] at hu
      subst hu
      have hx : a.eval x = .nilIface := by
        generalize a.eval x = z at hrep
        cases hrep with | e _ _ _ g2 => cases g2 with | d _ _ g2 => cases g2; rfl
      refine OpOK.data h (cv := .bool false) ?_ (.bool _)
      have key : ∀ d, (Op.equalIn (d + 1) t .nilIface .nilIface).run P w = .ok true w := fun d => by simp [Op.equalIn, run_underlying ht]
      have := key 9999
      simp [execOp, hop, hx, e2, eqGuard, binOp, Op.equal, Op.maxDepth, this]
    · cases hu
theorem op_cvi (h : Sim B a.tmps.toList w F ρ s rest osT osH) {x : Operand} {y : Src} {t t' : TypeId} {k : IntKind} {d : TypeDesc} (hop : o.op = .convert t t' x) (hc : chkS x y = true) (hs : P.underlying t = some d) (ht : P.underlying t' = some (.int k))
    (hr : opRes c (nth s.t) s.h (.cvi k y) = some r) : OpOK P a o B w F ρ s rest osT osH r := by
  simp only [opRes] at hr
  split at hr
  · rename_i k' n he
    simp only [Option.some.injEq] at hr
    subst hr
    have hx := h.int' hc he
    exact OpOK.data h (by simp [execOp, hop, hx, convert, run_under hs, run_under ht, Conv.intToInt]) (.int _ _)
  · cases hr
theorem op_cvr (h : Sim B a.tmps.toList w F ρ s rest osT osH) {x : Operand} {y : Src} {t t' : TypeId} {k : IntKind} (hop : o.op = .convert t t' x) (hc : chkS x y = true) (hs : P.underlying t = some (.int k)) (ht : P.underlying t' = some .string)
    (hr : opRes c (nth s.t) s.h (.cvr y) = some r) : OpOK P a o B w F ρ s rest osT osH r := by
  simp only [opRes] at hr
  split at hr
  · rename_i k' n he
    simp only [Option.some.injEq] at hr
    subst hr
    have hx := h.int' hc he
    exact OpOK.data h (by simp [execOp, hop, hx, convert, run_under hs, run_under ht, Conv.intToString]) (.str _ _ rfl)
  · cases hr
theorem op_cvid (h : Sim B a.tmps.toList w F ρ s rest osT osH) {x : Operand} {y : Src} {t t' : TypeId} (hop : o.op = .convert t t' x) (hc : chkS x y = true) (hs : P.underlying t = some .string) (ht : P.underlying t' = some .string)
    (hr : opRes c (nth s.t) s.h (.cvid y) = some r) : OpOK P a o B w F ρ s rest osT osH r := by
  simp only [opRes] at hr
  split at hr
  · rename_i l he
    simp only [Option.some.injEq] at hr
    subst hr
    obtain ⟨os, hrep, _⟩ := h.ev hc
    rw [he] at hrep
    obtain ⟨sb, hx, hl⟩ := hrep.str_inv
    exact OpOK.data h (by simp [execOp, hop, hx, convert, run_under hs, run_under ht]) (.str _ _ hl)
  · cases hr
theorem op_mki (h : Sim B a.tmps.toList w F ρ s rest osT osH) {x : Operand} {y : Src} {t : TypeId} {d : TypeDesc} (hop : o.op = .makeInterface t x) (hc : chkS x y = true) (hs : P.underlying t = some d) (hni : ∀ ms, d ≠ .interface ms)
    (hr : opRes c (nth s.t) s.h (.mki t y) = some r) : OpOK P a o B w F ρ s rest osT osH r := by
  simp only [opRes] at hr
  cases hd : dat (nth s.t) y with
  | none => rw [hd] at hr; cases hr
  | some v =>
    rw [hd] at hr
    simp only [Option.some.injEq] at hr
    subst hr
    refine OpOK.data h (cv := .iface t (a.eval x)) ?_ (.ifc _ _ _ (h.dat hc hd))
    simp only [execOp, hop, Instr.makeInterface, Sem.run_bind, run_under hs, Result.andThen_ok]
    cases d <;> first | rfl | exact absurd rfl (hni _)
theorem op_pan (h : Sim B a.tmps.toList w F ρ s rest osT osH) {x : Operand} {y : Src} (hop : o.op = .panic x) (hc : chkS x y = true)
    (hr : opRes c (nth s.t) s.h (.pan y) = some r) : OpOK P a o B w F ρ s rest osT osH r := by
  simp only [opRes] at hr
  split at hr
  · rename_i t v he
    simp only [Option.some.injEq] at hr
    subst hr
    obtain ⟨os, hrep, _⟩ := h.ev hc
    rw [he] at hrep
    have hD := hrep.data rfl
    have hx : ∃ cv', a.eval x = .iface t cv' ∧ RepD w F cv' v := by
      generalize a.eval x = cv at hD
      cases hD
      exact ⟨_, rfl, by assumption⟩
    obtain ⟨cv', hx, hv⟩ := hx
    exact ⟨rfl, .iface t cv', by simp [execOp, hop, hx, Instr.panic], .ifc _ _ _ hv⟩
  · cases hr
end
end Go.Am
namespace Go.Am
open Go Go.RowKit
section
variable {P : Program} {a : Act} {o : Oper} {B : Nat} {w : World} {F : Nat → Nat} {ρ : List Nat} {s : St} {rest osT osH : List Nat} {c : CallF} {r : Rs}
theorem bless_eq : ∀ (x y : List UInt8), bless x y = Op.bytesLess x y
 | _, [] => by simp [bless, Op.bytesLess]
 | [], _ :: _ => by simp [bless, Op.bytesLess]
 | a :: x, b :: y => by simp [bless, Op.bytesLess, bless_eq x y]
theorem run_binOp_op {op : BinOp} {t t' : TypeId} {x1 x2 : Operand} (hop : o.op = .binOp op t x1 x2 t') {cv : Value} (hg : ∀ cs ds, a.eval x1 = .agg cs → a.eval x2 = .agg ds → False) (hn : a.eval x1 ≠ .nilIface)
    (hr : (binOp op t (a.eval x1) (a.eval x2)).run P w = .ok cv w) : (execOp a.eval o).run P w = .ok (.value cv) w := by
  have hg' : (eqGuard op t x1 x2 (a.eval x1) (a.eval x2)).run P w = .ok () w := by
    unfold eqGuard
    cases op <;> simp
    all_goals
      generalize h1 : a.eval x1 = v1 at *
      generalize h2 : a.eval x2 = v2 at *
      cases v1 <;> cases v2 <;> first | rfl | exact (hg _ _ rfl rfl).elim | exact (hn rfl).elim
  simp [execOp, hop, hg', hr]
theorem op_bin (h : Sim B a.tmps.toList w F ρ s rest osT osH) {x1 x2 : Operand} {y1 y2 : Src} {op : BinOp} {t t' : TypeId} (hop : o.op = .binOp op t x1 x2 t') (h1 : chkS x1 y1 = true) (h2 : chkS x2 y2 = true)
    (hr : opRes c (nth s.t) s.h (.bin op y1 y2) = some r) : OpOK P a o B w F ρ s rest osT osH r := by
  simp only [opRes] at hr
  cases hb : binV op (Am.ev (nth s.t) y1) (Am.ev (nth s.t) y2) with
  | none => rw [hb] at hr; cases hr
  | some v =>
    rw [hb] at hr
    simp only [Option.some.injEq] at hr
    subst hr
    obtain ⟨os1, r1, _⟩ := h.ev h1
    obtain ⟨os2, r2, _⟩ := h.ev h2
    unfold binV at hb
    split at hb
    · rename_i k m k' n e1 e2
      rw [e1] at r1
      rw [e2] at r2
      have q1 := r1.int_inv
      have q2 := r2.int_inv
      have fin : ∀ cv, (binOp op t (.int k m) (.int k' n)).run P w = .ok cv w → RepD w F cv v → OpOK P a o B w F ρ s rest osT osH (.val [] v s.h) := fun cv hrun hD =>
        OpOK.data h (run_binOp_op hop (by rw [q1]; intro _ _ hh; cases hh) (by rw [q1]; intro hh; cases hh) (by rw [q1, q2]; exact hrun)) hD
      split at hb
      · split at hb
        · rename_i hn
          simp only [Option.some.injEq] at hb
          subst hb
          exact fin _ (by simp [binOp, Op.shift, show ¬ n < 0 by omega]) (.int _ _)
        · cases hb
      · split at hb
        · rename_i hn
          simp only [Option.some.injEq] at hb
          subst hb
          exact fin _ (by simp [binOp, Op.shift, show ¬ n < 0 by omega]) (.int _ _)
        · cases hb
      · rename_i ns1 ns2
        split at hb
        · rename_i hk
          subst hk
          cases op <;> simp only at hb
          case add => simp only [Option.some.injEq] at hb; subst hb; exact fin _ (by simp [binOp, Op.intArith]) (.int _ _)
          case sub => simp only [Option.some.injEq] at hb; subst hb; exact fin _ (by simp [binOp, Op.intArith]) (.int _ _)
          case mul => simp only [Option.some.injEq] at hb; subst hb; exact fin _ (by simp [binOp, Op.intArith]) (.int _ _)
          case quo =>
            split at hb
            · cases hb
            · rename_i hn; simp only [Option.some.injEq] at hb; subst hb; exact fin _ (by simp [binOp, Op.intDiv, hn]) (.int _ _)
          case rem =>
            split at hb
            · cases hb
            · rename_i hn; simp only [Option.some.injEq] at hb; subst hb; exact fin _ (by simp [binOp, Op.intDiv, hn]) (.int _ _)
          case and => simp only [Option.some.injEq] at hb; subst hb; exact fin _ (by simp [binOp, Op.intBits, bits]) (.int _ _)
          case or => simp only [Option.some.injEq] at hb; subst hb; exact fin _ (by simp [binOp, Op.intBits, bits]) (.int _ _)
          case xor => simp only [Option.some.injEq] at hb; subst hb; exact fin _ (by simp [binOp, Op.intBits, bits]) (.int _ _)
          case andNot => simp only [Option.some.injEq] at hb; subst hb; exact fin _ (by simp [binOp, Op.intBits, bits]) (.int _ _)
          case eql => simp only [Option.some.injEq] at hb; subst hb; exact fin _ (by simp [binOp, Op.intCmp]) (.bool _)
          case neq => simp only [Option.some.injEq] at hb; subst hb; exact fin _ (by simp [binOp, Op.intCmp]) (.bool _)
          case lss => simp only [Option.some.injEq] at hb; subst hb; exact fin _ (by simp [binOp, Op.intCmp]) (.bool _)
          case leq => simp only [Option.some.injEq] at hb; subst hb; exact fin _ (by simp [binOp, Op.intCmp]) (.bool _)
          case gtr => simp only [Option.some.injEq] at hb; subst hb; exact fin _ (by simp [binOp, Op.intCmp]) (.bool _)
          case geq => simp only [Option.some.injEq] at hb; subst hb; exact fin _ (by simp [binOp, Op.intCmp]) (.bool _)
          all_goals first | (cases hb; done) | exact (ns1 rfl).elim | exact (ns2 rfl).elim
        · cases hb
    · rename_i l m e1 e2
      rw [e1] at r1
      rw [e2] at r2
      obtain ⟨sa, q1, rfl⟩ := r1.str_inv
      obtain ⟨sb, q2, rfl⟩ := r2.str_inv
      have fin : ∀ cv, (Op.stringOp op sa sb).run P w = .ok cv w → RepD w F cv v → OpOK P a o B w F ρ s rest osT osH (.val [] v s.h) := fun cv hrun hD =>
        OpOK.data h (run_binOp_op hop (by rw [q1]; intro _ _ hh; cases hh) (by rw [q1]; intro hh; cases hh) (by rw [q1, q2]; simp only [binOp]; cases op <;> first | exact hrun | (simp [Op.stringOp] at hrun))) hD
      cases op <;> simp only at hb
      case add =>
        split at hb
        · rename_i hl
          simp only [Option.some.injEq] at hb
          subst hb
          refine fin (.string (sa ++ sb)) (run_string_add_sum w sa sb (by simpa using hl)) (.str _ _ (Joins.data_append sa sb))
        · cases hb
      case eql => simp only [Option.some.injEq] at hb; subst hb; exact fin _ (by simp [Op.stringOp, ByteArray.toList_eq]) (.bool _)
      case neq => simp only [Option.some.injEq] at hb; subst hb; exact fin (.bool (!(sa.data.toList == sb.data.toList))) (by simp [Op.stringOp, ByteArray.toList_eq]) (.bool _)
      case lss => simp only [Option.some.injEq] at hb; subst hb; exact fin _ (by simp [Op.stringOp, ByteArray.toList_eq, bless_eq]) (.bool _)
      case leq => simp only [Option.some.injEq] at hb; subst hb; exact fin (.bool (bless sa.data.toList sb.data.toList || sa.data.toList == sb.data.toList)) (by simp [Op.stringOp, ByteArray.toList_eq, bless_eq]) (.bool _)
      case gtr => simp only [Option.some.injEq] at hb; subst hb; exact fin (.bool (!(bless sa.data.toList sb.data.toList || sa.data.toList == sb.data.toList))) (by simp [Op.stringOp, ByteArray.toList_eq, bless_eq]) (.bool _)
      case geq => simp only [Option.some.injEq] at hb; subst hb; exact fin (.bool (!bless sa.data.toList sb.data.toList)) (by simp [Op.stringOp, ByteArray.toList_eq, bless_eq]) (.bool _)
      all_goals cases hb
    · cases hb
theorem op_beq (h : Sim B a.tmps.toList w F ρ s rest osT osH) {x1 x2 : Operand} {y1 y2 : Src} {ne : Bool} {t t' : TypeId} (hop : o.op = .binOp (if ne then .neq else .eql) t x1 x2 t') (h1 : chkS x1 y1 = true) (h2 : chkS x2 y2 = true)
    (ht : P.underlying t = some .bool) (hr : opRes c (nth s.t) s.h (.beq ne y1 y2) = some r) : OpOK P a o B w F ρ s rest osT osH r := by
  simp only [opRes] at hr
  split at hr
  · rename_i p q e1 e2
    simp only [Option.some.injEq] at hr
    subst hr
    obtain ⟨os1, r1, _⟩ := h.ev h1
    obtain ⟨os2, r2, _⟩ := h.ev h2
    rw [e1] at r1
    rw [e2] at r2
    have q1 := r1.bool_inv
    have q2 := r2.bool_inv
    refine OpOK.data h (cv := .bool (if ne then !(p == q) else p == q)) (run_binOp_op hop (by rw [q1]; intro _ _ hh; cases hh) (by rw [q1]; intro hh; cases hh) ?_) (.bool _)
    rw [q1, q2]
    have := run_equalIn_bool' (P := P) w 9999 t p q ht
    cases ne <;> simp [binOp, Op.equal, Op.maxDepth, this]
  · cases hr
def basicK (P : Program) (t : TypeId) : Nat → Bool
 | 0 => match P.underlying t with | some (.int _) => true | _ => false
 | 1 => match P.underlying t with | some .bool => true | _ => false
 | 2 => match P.underlying t with | some .string => true | _ => false
 | _ => false
def flatF (P : Program) : Nat → List Field → List Nat → Bool
 | _, [], [] => true
 | k, f :: fs, n :: ns => f.offset == k && f.name != "_" && basicK P f.type n && flatF P (k + 1) fs ns
 | _, _, _ => false
theorem basicK_one {t : TypeId} {n : Nat} (h : basicK P t n = true) : oneT P t = true := by
 unfold basicK at h
 unfold oneT
 split at h <;> (try cases h) <;> (split at h <;> first | (cases h; done) | (rename_i hu; rw [hu]))
theorem run_part {t : TypeId} {cs : Array Value} {off : Nat} {v : Value} (h : oneT P t = true) (hc : cs[off]? = some v) : (part t cs off).run P w = .ok v w := by
 simp [part, run_isAgg_one h, hc]
theorem run_eqFields (d : Nat) (xs ys : Array Value) : ∀ (fs : List Field) (ks : List Nat) (k : Nat) (as bs : List V) (r : Bool), flatF P k fs ks = true → eqL ks as bs = some r →
  (∀ j, j < as.length → ∃ cv, xs[k + j]? = some cv ∧ RepD w F cv (nth as j)) → (∀ j, j < bs.length → ∃ cv, ys[k + j]? = some cv ∧ RepD w F cv (nth bs j)) →
  (Op.eqFields (d + 1) xs ys fs).run P w = .ok r w
 | [], [], k, as, bs, r, _, he, _, _ => by
  cases as <;> cases bs <;> simp [eqL] at he
  subst he
  simp [Op.eqFields]
 | f :: fs, n :: ks, k, as, bs, r, hf, he, hx, hy => by
  cases as with
  | nil => simp [eqL] at he
  | cons p as =>
   cases bs with
   | nil => simp [eqL] at he
   | cons q bs =>
    simp only [flatF, Bool.and_eq_true, beq_iff_eq, bne_iff_ne] at hf
    obtain ⟨⟨⟨f1, f2⟩, f3⟩, f4⟩ := hf
    simp only [eqL] at he
    cases h1 : eq1 n p q with
    | none => rw [h1] at he; cases he
    | some u =>
     rw [h1] at he
     cases h2 : eqL ks as bs with
     | none => rw [h2] at he; cases he
     | some v =>
      rw [h2] at he
      simp only [Option.some.injEq] at he
      obtain ⟨c1, c2, c3⟩ := hx 0 (by simp)
      obtain ⟨d1, d2, d3⟩ := hy 0 (by simp)
      simp only [Nat.add_zero, nth] at c2 c3 d2 d3
      have ih := run_eqFields d xs ys fs ks (k + 1) as bs v f4 h2 (fun j hj => by have := hx (j + 1) (by simpa using hj); rwa [show k + (j + 1) = k + 1 + j by omega] at this)
       (fun j hj => by have := hy (j + 1) (by simpa using hj); rwa [show k + (j + 1) = k + 1 + j by omega] at this)
      have hone := basicK_one f3
      have heq : (Op.equalIn (d + 1) f.type c1 d1).run P w = .ok u w := by
       unfold eq1 at h1
       split at h1
       ·split at h1
        ·rename_i hk
         subst hk
         simp only [Option.some.injEq] at h1
         subst h1
         cases c3
         cases d3
         simp only [basicK] at f3
         split at f3
         ·rename_i hu; exact run_equalIn_int w d f.type _ _ _ _ hu
         ·cases f3
        ·cases h1
       ·simp only [Option.some.injEq] at h1
        subst h1
        cases c3
        cases d3
        simp only [basicK] at f3
        split at f3
        ·rename_i hu; exact run_equalIn_bool' w d f.type _ _ hu
        ·cases f3
       ·simp only [Option.some.injEq] at h1
        subst h1
        cases c3 with | str s1 _ g1 =>
        cases d3 with | str s2 _ g2 =>
        subst g1
        subst g2
        simp only [basicK] at f3
        split at f3
        ·rename_i hu; rw [run_equalIn_string w d f.type _ _ hu, ByteArray.toList_eq, ByteArray.toList_eq]
        ·cases f3
       ·cases h1
      subst f1
      simp only [Op.eqFields, f2, ne_eq, not_false_eq_true, if_true, Sem.run_bind, run_part hone c2, run_part hone d2, Result.andThen_ok, heq]
      cases u
      ·simp at he; subst he; simp
      ·simp at he; subst he; simpa using ih
 | [], _ :: _, _, _, _, _, h, _, _, _ => by cases h
 | _ :: _, [], _, _, _, _, h, _, _, _ => by cases h
theorem op_eqs (h : Sim B a.tmps.toList w F ρ s rest osT osH) {x1 x2 : Operand} {y1 y2 : Src} {ne : Bool} {ks : List Nat} {t t' : TypeId} {fs : Array Field} (hop : o.op = .binOp (if ne then .neq else .eql) t x1 x2 t')
    (h1 : chkS x1 y1 = true) (h2 : chkS x2 y2 = true) (ht : P.underlying t = some (.struct fs)) (hp : P.stoodInHeld t = false) (hg : P.eqGuardType P.depth t = false) (hf : flatF P 0 fs.toList ks = true)
    (hr : opRes c (nth s.t) s.h (.eqs ne ks y1 y2) = some r) : OpOK P a o B w F ρ s rest osT osH r := by
  simp only [opRes] at hr
  split at hr
  · rename_i as bs e1 e2
    cases he : eqL ks as bs with
    | none => rw [he] at hr; cases hr
    | some u =>
      rw [he] at hr
      simp only [Option.some.injEq] at hr
      subst hr
      obtain ⟨os1, r1, _⟩ := h.ev h1
      obtain ⟨os2, r2, _⟩ := h.ev h2
      rw [e1] at r1
      rw [e2] at r2
      obtain ⟨xs, q1, z1, _, c1⟩ := r1.agg_inv
      obtain ⟨ys, q2, z2, _, c2⟩ := r2.agg_inv
      have hfo : P.fieldsOf t = fs := by simp [Program.fieldsOf, ht]
      have hrun : (Op.equalIn 10000 t (.agg xs) (.agg ys)).run P w = .ok u w := by
        have := run_equalIn_struct (P := P) w 9999 t xs ys (by rw [hfo]; exact ht) hp
        rw [this, hfo]
        refine run_eqFields (F := F) 9998 xs ys fs.toList ks 0 as bs u hf he (fun j hj => ⟨xs[j]'(by omega), by simp [show j < xs.size by omega], c1 j (by omega)⟩) (fun j hj => ⟨ys[j]'(by omega), by simp [show j < ys.size by omega], c2 j (by omega)⟩)
      refine OpOK.data h (cv := .bool (if ne then !u else u)) ?_ (.bool _)
      have hgd := run_eqGuard_agg (P := P) w (if ne then .neq else .eql) t x1 x2 xs ys hg
      have hbo : (binOp (if ne then .neq else .eql) t (.agg xs) (.agg ys)).run P w = .ok (.bool (if ne then !u else u)) w := by
        cases ne
        · simp [run_eql_struct, hrun]
        · simp [run_neq_struct, hrun]
      simp [execOp, hop, q1, q2, hgd, hbo]
  · cases hr
end
end Go.Am
namespace Go.Am
open Go Go.RowKit
section
variable {P : Program} {a : Act} {o : Oper} {B : Nat} {w : World} {F : Nat → Nat} {ρ : List Nat} {s : St} {rest osT osH : List Nat} {c : CallF} {r : Rs}
theorem run_mapM_list {α β : Type} (f : α → Sem β) (g : α → β) : ∀ (l : List α), (∀ x ∈ l, (f x).run P w = .ok (g x) w) → (l.mapM f).run P w = .ok (l.map g) w
 | [], _ => by simp
 | x :: l, h => by
  have ih := run_mapM_list f g l (fun y hy => h y (List.mem_cons_of_mem _ hy))
  simp [List.mapM_cons, h x (List.mem_cons_self ..), ih]
theorem run_mapM {α β : Type} (f : α → Sem β) (g : α → β) (l : Array α) (h : ∀ x ∈ l, (f x).run P w = .ok (g x) w) : (l.mapM f).run P w = .ok (l.map g) w := by
 rw [Array.mapM_eq_mapM_toList]
 simp only [Sem.run_map]
 rw [run_mapM_list f g l.toList (fun x hx => h x (by simpa using hx))]
 simp only [Result.andThen_ok]
 congr 1
 apply Array.ext'
 simp
theorem fill_fold (off : Nat) : ∀ (vs : List Value) (k : Nat) (cells : Array Value), (vs.zipIdx k).foldl (fun cs (c, j) => cs.setIfInBounds (off + j) c) cells = setA cells (off + k) vs
 | [], k, cells => rfl
 | v :: vs, k, cells => by
  simp only [List.zipIdx_cons, List.foldl_cons, setA]
  rw [fill_fold off vs (k + 1)]
  rfl
theorem fill_fold_arr (off : Nat) (vs cells : Array Value) : vs.zipIdx.foldl (fun cs (x : Value × Nat) => cs.setIfInBounds (off + x.2) x.1) cells = setA cells off vs.toList := by
 rw [← Array.foldl_toList]
 have : vs.zipIdx.toList = vs.toList.zipIdx := by simp
 rw [this]
 exact fill_fold off vs.toList 0 cells
def chkParts (place : Nat → Option (Nat × Nat)) : List (Nat × Operand) → List (Nat × Nat × Src) → Bool
 | [], [] => true
 | (i, x) :: ps, (off, sz, y) :: qs => place i == some (off, sz) && chkS x y && chkParts place ps qs
 | _, _ => false
theorem fill_ok (h : Sim B a.tmps.toList w F ρ s rest osT osH) (place : Nat → Option (Nat × Nat)) : ∀ (ps : List (Nat × Operand)) (qs : List (Nat × Nat × Src)) (cells : Array Value) (cs cs' : List V), chkParts place ps qs = true →
  RepL (RepC w F) cells.toList cs [] → fill cs (nth s.t) qs = some cs' →
  ∃ cells', Instr.fill place cells (ps.map fun p => (p.1, a.eval p.2)) = some cells' ∧ RepL (RepC w F) cells'.toList cs' []
 | [], [], cells, cs, cs', _, hr, hf => by
  simp only [fill, Option.some.injEq] at hf
  subst hf
  exact ⟨cells, rfl, hr⟩
 | (i, x) :: ps, (off, sz, y) :: qs, cells, cs, cs', hc, hr, hf => by
  simp only [chkParts, Bool.and_eq_true, beq_iff_eq] at hc
  obtain ⟨⟨h1, h2⟩, h3⟩ := hc
  simp only [fill] at hf
  cases hd : dat (nth s.t) y with
  | none => rw [hd] at hf; cases hf
  | some v =>
   rw [hd] at hf
   simp only at hf
   split at hf
   ·rename_i hl
    have hD := h.dat h2 hd
    have hcl := hD.cellsL
    have hsz : (a.eval x).cells.size = sz := by rw [← hl.1]; simpa using hcl.length
    have hlen : cells.size = cs.length := by simpa using hr.length
    obtain ⟨os', q1, q2⟩ := hcl.overlay hr (o := off) (by omega)
    have hos : os' = [] := by
     cases os' with
     | nil => rfl
     | cons b os' => have := q2 b; simp at this
    subst hos
    obtain ⟨cells', g1, g2⟩ := fill_ok h place ps qs _ _ _ h3 q1 hf
    refine ⟨cells', ?_, g2⟩
    simp only [List.map_cons, Instr.fill, h1]
    rw [if_neg (by simp [hsz]; omega)]
    rw [fill_fold_arr]
    exact g1
   ·cases hf
 | [], _ :: _, _, _, _, hc, _, _ => by cases hc
 | _ :: _, [], _, _, _, hc, _, _ => by cases hc
theorem agg_of_cells {cvs : Array Value} {cs : List V} (h : RepL (RepC w F) cvs.toList cs []) (h1 : cs.all V.one = true) : RepD w F (.agg cvs) (.agg cs) := by
 have hl : cvs.size = cs.length := by simpa using h.length
 refine .agg _ _ hl (fun j hj => all_nth h1 hj) (fun j hj => ?_)
 obtain ⟨cv, os, g1, g2⟩ := h.nth_getElem (d := j) (by omega)
 have : cvs[j] = cv := by
  have g1' : cvs[j]? = some cv := by simpa using g1
  rw [Array.getElem?_eq_getElem hj] at g1'
  simpa using g1'
 rw [this]
 exact (g2.1.data (V.one_data (all_nth h1 (by omega)))).1
def structPlace (P : Program) (fs : Array Field) (i : Nat) : Option (Nat × Nat) := (fs[i]?).bind fun f => (szT P f.type).map fun n => (f.offset, n)
theorem chkParts_congr {p q : Nat → Option (Nat × Nat)} : ∀ (ps : List (Nat × Operand)) (qs : List (Nat × Nat × Src)), (∀ i x, p i = some x → q i = some x) → chkParts p ps qs = true → chkParts q ps qs = true
 | [], [], _, _ => rfl
 | (i, x) :: ps, (off, sz, y) :: qs, hpq, h => by
  simp only [chkParts, Bool.and_eq_true, beq_iff_eq] at h ⊢
  exact ⟨⟨hpq _ _ h.1.1, h.1.2⟩, chkParts_congr ps qs hpq h.2⟩
 | [], _ :: _, _, h => by cases h
 | _ :: _, [], _, h => by cases h
theorem op_build_struct (h : Sim B a.tmps.toList w F ρ s rest osT osH) {t : TypeId} {ps : Array (Nat × Operand)} {qs : List (Nat × Nat × Src)} {zero : List V} {z : Value} {fs : Array Field} (hop : o.op = .build t ps) (hz : zeroT P t = some z)
    (hu : P.underlying t = some (.struct fs)) (hc : constL z.cells.toList zero = true) (hp : chkParts (structPlace P fs) ps.toList qs = true) (hall : fs.toList.all (fun f => (szT P f.type).isSome) = true)
    (hone : ∀ cs, fill zero (nth s.t) qs = some cs → cs.all V.one = true) (hr : opRes c (nth s.t) s.h (.build zero qs) = some r) : OpOK P a o B w F ρ s rest osT osH r := by
  simp only [opRes] at hr
  cases hf : fill zero (nth s.t) qs with
  | none => rw [hf] at hr; cases hr
  | some cs =>
    rw [hf] at hr
    simp only [Option.some.injEq] at hr
    subst hr
    have hm : (fs.mapM fun f => do pure (f.offset, ← sizeOf f.type) : Sem (Array (Nat × Nat))).run P w = .ok (fs.map fun f => (f.offset, (szT P f.type).getD 0)) w := by
      refine run_mapM _ _ fs (fun f hf => ?_)
      have := List.all_eq_true.1 hall f (by simpa using hf)
      obtain ⟨n, hn⟩ := Option.isSome_iff_exists.1 this
      simp [run_sizeOf hn, hn]
    obtain ⟨cells', g1, g2⟩ := fill_ok h (fun i => (fs.map fun f => (f.offset, (szT P f.type).getD 0))[i]?) ps.toList qs z.cells zero cs
      (chkParts_congr _ _ (fun i x hx => by
        unfold structPlace at hx
        cases hfi : fs[i]? with
        | none => rw [hfi] at hx; cases hx
        | some f =>
          rw [hfi] at hx
          simp only [Option.bind_some] at hx
          cases hs : szT P f.type with
          | none => rw [hs] at hx; cases hx
          | some n => rw [hs] at hx; simp only [Option.map_some, Option.some.injEq] at hx; simp [hfi, hs, hx]) hp) (constL_cells hc) hf
    refine OpOK.data h (cv := .agg cells') ?_ (agg_of_cells g2 (hone cs hf))
    have e1 : (ps.map fun (i, x) => (i, a.eval x)).toList = ps.toList.map fun p => (p.1, a.eval p.2) := by simp
    simp only [execOp, hop, Instr.build, Sem.run_bind, run_zeroValue hz, run_under hu, Result.andThen_ok, hm, e1, g1]
    simp
theorem op_build_array (h : Sim B a.tmps.toList w F ρ s rest osT osH) {t e : TypeId} {n k : Nat} {ps : Array (Nat × Operand)} {qs : List (Nat × Nat × Src)} {zero : List V} {z : Value} (hop : o.op = .build t ps) (hz : zeroT P t = some z)
    (hu : P.underlying t = some (.array n e)) (hk : szT P e = some k) (hc : constL z.cells.toList zero = true) (hp : chkParts (fun i => some (i * k, k)) ps.toList qs = true)
    (hone : ∀ cs, fill zero (nth s.t) qs = some cs → cs.all V.one = true) (hr : opRes c (nth s.t) s.h (.build zero qs) = some r) : OpOK P a o B w F ρ s rest osT osH r := by
  simp only [opRes] at hr
  cases hf : fill zero (nth s.t) qs with
  | none => rw [hf] at hr; cases hr
  | some cs =>
    rw [hf] at hr
    simp only [Option.some.injEq] at hr
    subst hr
    obtain ⟨cells', g1, g2⟩ := fill_ok h (fun i => some (i * k, k)) ps.toList qs z.cells zero cs hp (constL_cells hc) hf
    refine OpOK.data h (cv := .agg cells') ?_ (agg_of_cells g2 (hone cs hf))
    have e1 : (ps.map fun (i, x) => (i, a.eval x)).toList = ps.toList.map fun p => (p.1, a.eval p.2) := by simp
    simp only [execOp, hop, Instr.build, Sem.run_bind, run_zeroValue hz, run_under hu, Result.andThen_ok, run_sizeOf hk, e1, g1]
    simp
theorem all_upd {p : V → Bool} : ∀ {l : List V} {i : Nat} {v : V}, l.all p = true → p v = true → (upd l i v).all p = true
 | [], _, _, _, _ => rfl
 | x :: l, 0, v, h, hv => by simp only [upd, List.all_cons, Bool.and_eq_true] at h ⊢; exact ⟨hv, h.2⟩
 | x :: l, i + 1, v, h, hv => by simp only [upd, List.all_cons, Bool.and_eq_true] at h ⊢; exact ⟨h.1, all_upd h.2 hv⟩
theorem all_overlay {p : V → Bool} : ∀ {ws l : List V} {i : Nat}, l.all p = true → ws.all p = true → (overlay l i ws).all p = true
 | [], _, _, h, _ => h
 | x :: ws, l, i, h, hw => by
  simp only [List.all_cons, Bool.and_eq_true] at hw
  exact all_overlay (ws := ws) (all_upd h hw.1) hw.2
theorem RepD.all_one {cv : Value} {v : V} (h : RepD w F cv v) : v.cells.all V.one = true := by
 rw [List.all_eq_true]
 intro x hx
 obtain ⟨j, hj, rfl⟩ := List.getElem_of_mem hx
 obtain ⟨_, _, _, h3⟩ := h.cells_nth.2 j hj
 rwa [nth_eq_getElem hj] at h3
theorem fill_one (h : Sim B a.tmps.toList w F ρ s rest osT osH) {place : Nat → Option (Nat × Nat)} : ∀ {ps : List (Nat × Operand)} {qs : List (Nat × Nat × Src)} {cs cs' : List V}, chkParts place ps qs = true → cs.all V.one = true → fill cs (nth s.t) qs = some cs' → cs'.all V.one = true
 | [], [], cs, cs', _, h1, hf => by simp only [fill, Option.some.injEq] at hf; subst hf; exact h1
 | (i, x) :: ps, (off, sz, y) :: qs, cs, cs', hc, h1, hf => by
  simp only [chkParts, Bool.and_eq_true, beq_iff_eq] at hc
  simp only [fill] at hf
  cases hd : dat (nth s.t) y with
  | none => rw [hd] at hf; cases hf
  | some v =>
   rw [hd] at hf
   simp only at hf
   split at hf
   ·exact fill_one h hc.2 (all_overlay h1 (h.dat hc.1.2 hd).all_one) hf
   ·cases hf
 | [], _ :: _, _, _, hc, _, _ => by cases hc
 | _ :: _, [], _, _, hc, _, _ => by cases hc
theorem op_fld (h : Sim B a.tmps.toList w F ρ s rest osT osH) {x : Operand} {y : Src} {t : TypeId} {fi off n : Nat} {ag : Bool} {fs : Array Field} {f : Field} (hop : o.op = .field t x fi) (hc : chkS x y = true)
    (hu : P.underlying t = some (.struct fs)) (hf : fs[fi]? = some f) (ho : f.offset = off) (hn : if ag then aggT P f.type = true ∧ szT P f.type = some n else oneT P f.type = true)
    (hr : opRes c (nth s.t) s.h (.fld y off n ag) = some r) : OpOK P a o B w F ρ s rest osT osH r := by
  subst ho
  simp only [opRes] at hr
  split at hr
  · rename_i cs he
    obtain ⟨os, hrep, _⟩ := h.ev hc
    rw [he] at hrep
    obtain ⟨cvs, hx, h1, h2, h3⟩ := hrep.agg_inv
    split at hr
    · rename_i hl
      cases ag with
      | true =>
        simp only [if_true] at hn hr
        simp only [Option.some.injEq] at hr
        subst hr
        have hlen : ((cs.drop f.offset).take n).length = n := by rw [List.length_take, List.length_drop]; omega
        refine OpOK.data h (cv := .agg (cvs.extract f.offset (f.offset + n))) ?_ (.agg _ _ (by simp; omega) (fun j hj => ?_) (fun j hj => ?_))
        · simp [execOp, hop, hx, Instr.field, run_under hu, hf, asAgg, part, run_isAgg hn.1, run_sizeOf hn.2]
        · rw [hlen] at hj
          rw [nth_take _ _ _ hj, nth_drop]
          exact h2 _ (by omega)
        · simp at hj
          rw [nth_take _ _ _ (by omega), nth_drop]
          have := h3 (f.offset + j) (by omega)
          simpa using this
      | false =>
        simp only [Bool.false_eq_true, if_false] at hn hr
        split at hr
        · rename_i hn1
          simp only [Option.some.injEq] at hr
          subst hr
          have hlt : f.offset < cvs.size := by omega
          refine OpOK.data h (cv := cvs[f.offset]) ?_ (h3 _ hlt)
          simp [execOp, hop, hx, Instr.field, run_under hu, hf, asAgg, run_part hn (show cvs[f.offset]? = some cvs[f.offset] by simp [hlt])]
        · cases hr
    · cases hr
  · cases hr
theorem op_idx_arr (h : Sim B a.tmps.toList w F ρ s rest osT osH) {x i : Operand} {y j : Src} {t e : TypeId} {m n : Nat} {ag : Bool} (hop : o.op = .index t x i) (hc : chkS x y = true) (hj : chkS i j = true)
    (hu : P.underlying t = some (.array m e)) (hsz : szT P e = some n) (hn0 : 0 < n) (hn : if ag then aggT P e = true else oneT P e = true)
    (hr : opRes c (nth s.t) s.h (.idx y j (some m) n ag) = some r) : OpOK P a o B w F ρ s rest osT osH r := by
  simp only [opRes] at hr
  cases hi : intOf (nth s.t) j with
  | none => rw [hi] at hr; cases hr
  | some k =>
    rw [hi] at hr
    simp only at hr
    obtain ⟨kk, hik⟩ := h.int hj hi
    split at hr
    · rename_i cs m' he hm
      obtain rfl : m = m' := by simpa using hm
      obtain ⟨os, hrep, _⟩ := h.ev hc
      rw [he] at hrep
      obtain ⟨cvs, hx, h1, h2, h3⟩ := hrep.agg_inv
      split at hr
      · rename_i hl
        have hsucc : k.toNat * n + n ≤ cs.length := by
          have := hl.2.2
          rw [Nat.succ_mul] at this
          exact this
        have hk : 0 ≤ k ∧ k < (m : Int) := ⟨hl.1, hl.2.1⟩
        cases ag with
        | true =>
          simp only [if_true] at hn hr
          simp only [Option.some.injEq] at hr
          subst hr
          have hl2 : ((cs.drop (k.toNat * n)).take n).length = n := by rw [List.length_take, List.length_drop]; omega
          refine OpOK.data h (cv := .agg (cvs.extract (k.toNat * n) (k.toNat * n + n))) ?_ (.agg _ _ (by simp; omega) (fun j hj => ?_) (fun j hj => ?_))
          · simp [execOp, hop, hx, hik, Instr.index, run_under hu, asIntOf, hk.1, hk.2, part, run_isAgg hn, run_sizeOf hsz]
          · rw [hl2] at hj
            rw [nth_take _ _ _ hj, nth_drop]
            exact h2 _ (by omega)
          · simp at hj
            rw [nth_take _ _ _ (by omega), nth_drop]
            have := h3 (k.toNat * n + j) (by omega)
            simpa using this
        | false =>
          simp only [Bool.false_eq_true, if_false] at hn hr
          split at hr
          · rename_i hn1
            subst hn1
            simp only [Option.some.injEq] at hr
            subst hr
            have hlt : k.toNat < cvs.size := by omega
            refine OpOK.data h (cv := cvs[k.toNat]) ?_ (h3 _ hlt)
            have hp := run_part (P := P) (w := w) hn (show cvs[k.toNat * 1]? = some cvs[k.toNat] by simp [hlt])
            simp only [Nat.mul_one] at hp
            simp [execOp, hop, hx, hik, Instr.index, run_under hu, asIntOf, hk.1, hk.2, run_sizeOf hsz, hp]
          · cases hr
      · cases hr
    · rename_i hm; cases hm
    · cases hr
theorem op_idx_str (h : Sim B a.tmps.toList w F ρ s rest osT osH) {x i : Operand} {y j : Src} {t : TypeId} {n : Nat} {ag : Bool} (hop : o.op = .index t x i) (hc : chkS x y = true) (hj : chkS i j = true)
    (hu : P.underlying t = some .string) (hr : opRes c (nth s.t) s.h (.idx y j none n ag) = some r) : OpOK P a o B w F ρ s rest osT osH r := by
  simp only [opRes] at hr
  cases hi : intOf (nth s.t) j with
  | none => rw [hi] at hr; cases hr
  | some k =>
    rw [hi] at hr
    simp only at hr
    obtain ⟨kk, hik⟩ := h.int hj hi
    split at hr
    · rename_i hm; cases hm
    · rename_i l he _
      obtain ⟨os, hrep, _⟩ := h.ev hc
      rw [he] at hrep
      obtain ⟨sb, hx, rfl⟩ := hrep.str_inv
      split at hr
      · rename_i hk
        simp only [Option.some.injEq] at hr
        subst hr
        have hlt : k.toNat < sb.size := by
          have : sb.data.toList.length = sb.size := rfl
          omega
        have hg : sb[k.toNat]? = some sb[k.toNat] := by simp [hlt]
        have hd : sb.data.toList[k.toNat]? = some sb[k.toNat] := by
          rw [List.getElem?_eq_getElem (by simpa using hlt)]
          rfl
        refine OpOK.data h (cv := .int .u8 (sb[k.toNat]).toNat) ?_ (by rw [hd]; exact .int _ _)
        simp [execOp, hop, hx, hik, Instr.index, run_under hu, asIntOf, hk.1, hg]
      · cases hr
    · cases hr
theorem op_ext (h : Sim B a.tmps.toList w F ρ s rest osT osH) {j i : Nat} (hop : o.op = .extract (.tmp j) i) (hr : opRes c (nth s.t) s.h (.ext j i) = some r) : OpOK P a o B w F ρ s rest osT osH r := by
 simp only [opRes] at hr
 split at hr
 ·rename_i vs hj
  split at hr
  ·rename_i hi
   have hjl : j < s.t.length := nth_lt (fun hh => by rw [hh] at hj; cases hj)
   obtain ⟨cv, o1, od, o2, g1, g2, g3, g4⟩ := h.tmps.at hjl
   rw [hj] at g3
   have hx := eval_tmp a rfl j g1
   cases g3 with
   | e _ _ _ g3 => cases g3 with | d _ _ g3 => cases g3
   | tup cvs _ os g3 =>
    obtain ⟨cv', p1, po, p2, q1, q2, q3, q4⟩ := g3.at hi
    have hrun : (execOp a.eval o).run P w = .ok (.value cv') w := by
     have : cvs.toArray[i]? = some cv' := by simpa using q1
     simp [execOp, hop, hx, Instr.extract, this]
    have hal : isAl (nth vs i) = false := by
     cases hz : nth vs i <;> first | rfl | (rw [hz] at q3; cases q3 with | d _ _ r => cases r)
    split at hr
    ·rename_i hlin
     simp only [Option.some.injEq] at hr
     subst hr
     have hset := q4 (RepE w F) cv' .undef [] (fun _ _ _ r _ => r) (.undef _)
     rw [list_set_self q1] at hset
     have hT := g4 (RepV w F ρ) (.tuple cvs.toArray) (.tup (upd vs i .undef)) (p1 ++ [] ++ p2) (fun _ _ _ r _ => r) (.tup _ _ _ hset)
     rw [list_set_self g1] at hT
     refine ⟨cv', w, F, ρ, _, osH, po, .inl hrun, Ext.refl h.fresh, fun _ _ x => x, ⟨hT, h.heap, h.alias.view (fl := false) rfl (.inr ⟨(fun ⟨cs, hh⟩ => by rw [hj] at hh; cases hh), (fun ⟨sz, xs, hh⟩ => by rw [hj] at hh; cases hh)⟩),
      .e _ _ _ q3, aliasV_of hal, fun b => ?_, fun b hb => ?_, h.fresh, h.base⟩, fun b hb => .inl ?_⟩
     ·have := h.once b
      rw [g2, q2] at this
      simp only [List.count_append, List.count_nil] at this ⊢
      omega
     ·refine h.inb b ?_
      rw [g2, q2]
      simp only [List.mem_append] at hb ⊢
      rcases hb with ((((hb | ((hb | hb) | hb)) | hb) | hb) | hb) | hb <;> first | (simp [hb]; done) | cases hb
     ·rw [g2, q2]
      simp only [List.mem_append] at hb ⊢
      rcases hb with (((hb | ((hb | hb) | hb)) | hb) | hb) | hb <;> first | (simp [hb]; done) | cases hb
    ·rename_i hlin
     simp only [Option.some.injEq] at hr
     subst hr
     have hrv : RepV w F ρ cv' (nth vs i) po := .e _ _ _ q3
     have := hrv.os_nil (by simpa using hlin)
     subst this
     exact OpOK.pure h hrun hrv (aliasV_of hal)
  ·cases hr
 ·cases hr
theorem op_tas (h : Sim B a.tmps.toList w F ρ s rest osT osH) {x : Operand} {y : Src} {t t' : TypeId} {ok : Bool} {zero : V} {z : Value} {d : TypeDesc} (hop : o.op = .typeAssert x t' t ok) (hc : chkS x y = true) (hu : P.underlying t = some d)
    (hd : ∀ ms, d ≠ .interface ms) (hz : zeroT P t = some z) (hcz : constOK z zero = true) (hr : opRes c (nth s.t) s.h (.tas y t ok zero) = some r) : OpOK P a o B w F ρ s rest osT osH r := by
  simp only [opRes] at hr
  split at hr
  · rename_i t'' v he
    obtain ⟨os, hrep, _⟩ := h.ev hc
    rw [he] at hrep
    have hD := hrep.data rfl
    have hx : ∃ cv', a.eval x = .iface t'' cv' ∧ RepD w F cv' v := by
      generalize a.eval x = cv at hD
      cases hD
      exact ⟨_, rfl, by assumption⟩
    obtain ⟨cv', hx, hv⟩ := hx
    have hmatch : ∀ {v2 : Value} {w2 : World}, (if t'' = t then (Pure.pure (if ok then .tuple #[cv', .bool true] else cv') : Sem Value) else (if ok then do Pure.pure (.tuple #[← zeroValue t, .bool false]) else runtimePanic (.typeAssertion (some t') (some t'') t ""))).run P w = .ok v2 w2 →
        (execOp a.eval o).run P w = .ok (.value v2) w2 := by
      intro v2 w2 hh
      have : (Instr.typeAssert (.iface t'' cv') t' t ok).run P w = .ok v2 w2 := by
        rw [← hh]
        simp only [Instr.typeAssert, Sem.run_bind, run_under hu, Result.andThen_ok]
      simp [execOp, hop, hx, this]
    split at hr
    · rename_i ht
      simp only [Option.some.injEq] at hr
      subst hr
      cases ok with
      | true =>
        refine OpOK.pure h (cv := .tuple #[cv', .bool true]) (hmatch (by simp [ht])) ?_ trivial
        have := RepL.cons (R := RepE w F) cv' v [.bool true] [.bool true] [] [] (.d _ _ hv) (.cons _ _ _ _ [] [] (.d _ _ (.bool true)) .nil)
        exact .tup _ _ _ this
      | false => exact OpOK.data h (hmatch (by simp [ht])) hv
    · rename_i ht
      split at hr
      · rename_i hok
        simp only [Option.some.injEq] at hr
        subst hr
        subst hok
        refine OpOK.pure h (cv := .tuple #[z, .bool false]) (hmatch (by simp [ht, run_zeroValue hz])) ?_ trivial
        have := RepL.cons (R := RepE w F) z zero [.bool false] [.bool false] [] [] (constOK_rep hcz w F) (.cons _ _ _ _ [] [] (.d _ _ (.bool false)) .nil)
        exact .tup _ _ _ this
      · cases hr
  · cases hr
theorem op_mkf (h : Sim B a.tmps.toList w F ρ s rest osT osH) {f : FuncId} {xs : Array Operand} {ys : List Src} (hop : o.op = .makeFunc (.func f) #[] xs) (hl : xs.size = ys.length) (hc : ∀ j (hj : j < xs.size), ∃ y, ys[j]? = some y ∧ chkS xs[j] y = true)
    (hr : opRes c (nth s.t) s.h (.mkf f ys) = some r) : OpOK P a o B w F ρ s rest osT osH r := by
  simp only [opRes] at hr
  cases hcap : capsOf (nth s.t) ys with
  | none => rw [hcap] at hr; cases hr
  | some vs =>
    rw [hcap] at hr
    simp only [Option.some.injEq] at hr
    subst hr
    have key : ∀ (ys : List Src) (vs : List V), capsOf (nth s.t) ys = some vs → vs.length = ys.length ∧ ∀ (j : Nat) (y : Src), ys[j]? = some y → ∃ id off, nth vs j = .ptr id off ∧ Am.ev (nth s.t) y = .ptr id off := by
      intro ys
      induction ys with
      | nil => intro vs hv; simp only [capsOf, Option.some.injEq] at hv; subst hv; exact ⟨rfl, fun j y hy => by simp at hy⟩
      | cons y ys ih =>
        intro vs hv
        simp only [capsOf] at hv
        split at hv
        · rename_i id off vs' e1 e2
          simp only [Option.some.injEq] at hv
          subst hv
          obtain ⟨i1, i2⟩ := ih _ e2
          refine ⟨by simp [i1], fun j y' hy => ?_⟩
          cases j with
          | zero => simp at hy; subst hy; exact ⟨id, off, rfl, e1⟩
          | succ j => exact i2 j y' (by simpa using hy)
        · cases hv
    obtain ⟨k1, k2⟩ := key ys vs hcap
    refine OpOK.pure h (cv := .func (.func f) #[] (xs.map a.eval)) (by simp [execOp, hop, Instr.makeFunc]) (.fn f _ _ (by simp [k1, hl]) (fun j hj => ?_)) trivial
    have hjx : j < xs.size := by omega
    obtain ⟨y, hy, hcy⟩ := hc j hjx
    obtain ⟨id, off, e1, e2⟩ := k2 j y hy
    obtain ⟨os, hrep, _⟩ := h.ev hcy
    rw [e2] at hrep
    generalize hcv : a.eval xs[j] = cv at hrep
    cases hrep with
    | e _ _ _ g2 => cases g2 with | d _ _ g2 => cases g2
    | ptr _ _ b g => exact ⟨id, off, b, e1, g, by simp [hjx, hcv]⟩
theorem run_len_op {x : Operand} {t ty : TypeId} {v : Value} (hop : o.op = .call ⟨.builtin .len, #[x], #[t]⟩) (hr : (Builtin.len_ #[t] o.type #[a.eval x]).run P w = .ok v w) : (execOp a.eval o).run P w = .ok (.value v) w := by
 simp [execOp, hop, resolve, invoke, builtin, hr]
end
end Go.Am
