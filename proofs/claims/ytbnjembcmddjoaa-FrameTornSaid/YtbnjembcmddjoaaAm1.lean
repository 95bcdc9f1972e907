/- The abstract machine: values, operations, their meaning. Nothing of a seat's program stands here. A slice is a list, a struct a list of cells; own memory is known by its slot. -/
import GoSem.Core.Code
import GoSem.Core.Utf8
import GoSem.Core.Lib
namespace Go.Am

inductive V where
  | undef
  | bool (b : Bool)
  | int (k : IntKind) (n : Int)
  | str (s : List UInt8)
  | sl (own : Bool) (sz : Nat) (xs : List V)
  | agg (cs : List V)
  | tup (vs : List V)
  | ptr (id off : Nat)
  | rptr (cs : List V)
  | box (cs : List V)
  | bref (d off : Nat)
  | al (d : Nat)
  | fn (f : FuncId) (caps : List V)
  | ifc (t : TypeId) (v : V)
  | nilIfc
  | iter (s : List UInt8) (pos : Nat)
  deriving Inhabited

def V.cells : V → List V
  | .agg cs => cs
  | v => [v]

/-- A slot that holds memory which later operations change in place. -/
def V.owner : V → Bool
  | .box _ => true
  | .sl true _ _ => true
  | _ => false

/-- A value that is moved, never copied. -/
def V.lin : V → Bool
  | .box _ => true
  | .sl true _ _ => true
  | .iter _ _ => true
  | .tup _ => true
  | _ => false

/-- A value that may lie in memory and be shared. -/
def V.data : V → Bool
  | .bool _ => true
  | .int _ _ => true
  | .str _ => true
  | .sl false _ _ => true
  | .agg _ => true
  | .ifc _ _ => true
  | .nilIfc => true
  | _ => false

/-- Such a value that takes one cell. -/
def V.one : V → Bool
  | .bool _ => true
  | .int _ _ => true
  | .str _ => true
  | .sl false _ _ => true
  | .ifc _ _ => true
  | .nilIfc => true
  | _ => false

def V.sh : V → V
  | .sl _ sz xs => .sl false sz xs
  | v => v

def V.killb (d : Nat) : V → V
  | .bref d' o => if d' = d then .undef else .bref d' o
  | .al d' => if d' = d then .undef else .al d'
  | v => v

def nth : List V → Nat → V
  | [], _ => .undef
  | v :: _, 0 => v
  | _ :: l, n + 1 => nth l n

def upd : List V → Nat → V → List V
  | [], _, _ => []
  | _ :: l, 0, x => x :: l
  | v :: l, n + 1, x => v :: upd l n x

def overlay (cs : List V) (off : Nat) : List V → List V
  | [] => cs
  | v :: vs => overlay (upd cs off v) (off + 1) vs

abbrev Heap := List (List V)

def hnth : Heap → Nat → List V
  | [], _ => []
  | v :: _, 0 => v
  | _ :: l, n + 1 => hnth l n

def hupd : Heap → Nat → List V → Heap
  | [], _, _ => []
  | _ :: l, 0, x => x :: l
  | v :: l, n + 1, x => v :: hupd l n x

structure St where
  t : List V
  h : Heap

inductive Src where
  | t (i : Nat)
  | c (v : V)
  | f (f : FuncId)

inductive AOp where
  | mv (x : Src)
  | cp (x : Src)
  | al (d : Nat)
  | pick (c a b : Src)
  | newbox (cs : List V)
  | newobj (cs : List V)
  | boxr (x : Src)
  | boxb (x : Src)
  | boxo (x : Src)
  | build (zero : List V) (parts : List (Nat × Nat × Src))
  | bsl (sz n : Nat) (z : V) (parts : List (Nat × Src))
  | fa (x : Src) (off : Nat) (b : Option Nat)
  | ia (x i : Src) (sz : Nat) (len : Option Nat) (b : Option Nat)
  | ld (x : Src) (n : Option Nat) (tr : Bool) (b : Option Nat)
  | st (x v : Src) (n : Nat) (tr : Bool) (b : Option Nat)
  | nck (x : Src) (b : Option Nat)
  | bin (op : BinOp) (x y : Src)
  | beq (ne : Bool) (x y : Src)
  | eqs (ne : Bool) (ks : List Nat) (x y : Src)
  | un (op : UnOp) (x : Src)
  | cvi (k : IntKind) (x : Src)
  | cvid (x : Src)
  | cvs (x : Src) (b : Option Nat)
  | cvb (x : Src)
  | cvr (x : Src)
  | mki (t : TypeId) (x : Src)
  | mkf (f : FuncId) (caps : List Src)
  | mk (sz bytes : Nat) (z : V) (len cap : Src)
  | slc (sz : Option Nat) (x : Src) (lo hi mx : Option Src)
  | slb (d n : Nat) (lo hi : Option Src)
  | idx (x i : Src) (len : Option Nat) (sz : Nat) (ag : Bool)
  | fld (x : Src) (off n : Nat) (ag : Bool)
  | ext (j i : Nat)
  | tas (x : Src) (t : TypeId) (ok : Bool) (zero : V)
  | call (f : FuncId) (args : List (Src × Bool)) (useH : Bool)
  | callv (x : Src) (args : List (Src × Bool))
  | len (st : Bool) (x : Src) (b : Option Nat)
  | app (sz bytes : Nat) (x y : Src) (b : Option Nat)
  | copy (d : Nat) (x y : Src) (b : Option Nat)
  | min (xs : List Src)
  | range (x : Src)
  | next (d : Nat)
  | pan (x : Src)
  | cm (d : Nat)
  | cmb (d : Nat)
  | cmh (x : Src)

structure AI where
  dst : Option Nat
  op : AOp
  g : Option (Nat × Bool) := none

inductive AC where
  | skip
  | reg (ops : List AI)
  | dreg (ops : List AI)
  | seq (a b : AC)
  | cond (c : Src) (a b : AC)
  | blk (id : Nat) (a : AC)
  | loop (a : AC)
  | exit (id : Nat)
  | ret
  | pre (m : List Bool) (a : AC)

/-- What an operation comes to: slots that change (and whether what referred to them is struck), the value, the objects. -/
inductive Rs where
  | val (ups : List (Nat × V × Bool)) (v : V) (h : Heap)
  | pan (v : V) (h : Heap)

inductive Rt where
  | ret (v : V) (h : Heap)
  | pan (v : V) (h : Heap)

abbrev CallF := FuncId → List V → Heap → Option Rt

inductive Pl where
  | slot (d off : Nat)
  | obj (id off : Nat)
  | ro (cs : List V)

section
variable (ρ : Nat → V)

def ev : Src → V
  | .t i => ρ i
  | .c v => v
  | .f f => .fn f []

/-- A value that refers to a slot. -/
def isAl : V → Bool
  | .bref _ _ => true
  | .al _ => true
  | _ => false

def cpV : Src → Option V
  | .t i => if (ρ i).lin || isAl (ρ i) then none else some (ρ i)
  | .c v => some v
  | .f f => some (.fn f [])

def dat (x : Src) : Option V := if (ev ρ x).data then some (ev ρ x) else none

def mvUps : Src → List (Nat × V × Bool)
  | .t i => if (ρ i).lin then [(i, .undef, (ρ i).owner)] else []
  | _ => []

def place (x : Src) (b : Option Nat) : Option Pl :=
  match ev ρ x with
  | .box _ => match x, b with
    | .t i, some d => if i = d then some (.slot i 0) else none
    | _, _ => none
  | .bref d o => match b with
    | some d' => if d = d' then some (.slot d o) else none
    | none => none
  | .ptr id o => match b with
    | none => some (.obj id o)
    | some _ => none
  | .rptr cs => match b with
    | none => some (.ro cs)
    | some _ => none
  | _ => none

def rdsl (x : Src) (b : Option Nat) : Option (Nat × List V) :=
  match ev ρ x with
  | .sl _ sz xs => some (sz, xs)
  | .al d => match b with
    | some d' => if d = d' then match ρ d with | .sl _ sz xs => some (sz, xs) | _ => none else none
    | none => none
  | _ => none

def intOf (x : Src) : Option Int := match ev ρ x with | .int _ n => some n | _ => none
end

def memOf : V → Option (List V)
  | .box cs => some cs
  | .sl true 1 xs => some xs
  | _ => none

def B (s : List UInt8) : List V := s.map fun b => .int .u8 b.toNat

def isU8 : V → Bool
  | .int .u8 _ => true
  | _ => false

def byteOf : V → UInt8
  | .int _ n => UInt8.ofNat n.toNat
  | _ => 0

def fill (cs : List V) (ρ : Nat → V) : List (Nat × Nat × Src) → Option (List V)
  | [] => some cs
  | (off, size, x) :: rest => match dat ρ x with
    | some v => if v.cells.length = size ∧ off + size ≤ cs.length then fill (overlay cs off v.cells) ρ rest else none
    | none => none

def fillE (sz : Nat) (xs : List V) (ρ : Nat → V) : List (Nat × Src) → Option (List V)
  | [] => some xs
  | (i, x) :: rest => match dat ρ x with
    | some v => if v.cells.length = sz ∧ i < xs.length then fillE sz (upd xs i v) ρ rest else none
    | none => none

def bits (op : BinOp) (k : IntKind) (x y : Int) : Int :=
  let a := BitVec.ofInt k.bits x
  let b := BitVec.ofInt k.bits y
  match op with
  | .and => k.wrap ((a &&& b).toNat)
  | .or => k.wrap ((a ||| b).toNat)
  | .xor => k.wrap ((a ^^^ b).toNat)
  | _ => k.wrap ((a &&& ~~~b).toNat)

def bless : List UInt8 → List UInt8 → Bool
  | _, [] => false
  | [], _ :: _ => true
  | a :: x, b :: y => a < b || (a == b && bless x y)

def binV (op : BinOp) : V → V → Option V
  | .int k a, .int k' b =>
    match op with
    | .shl => if 0 ≤ b then some (.int k (k.wrap (a * 2 ^ (min b.toNat k.bits)))) else none
    | .shr => if 0 ≤ b then some (.int k (a.fdiv (2 ^ (min b.toNat k.bits)))) else none
    | _ => if k = k' then
      match op with
      | .add => some (.int k (k.wrap (a + b)))
      | .sub => some (.int k (k.wrap (a - b)))
      | .mul => some (.int k (k.wrap (a * b)))
      | .quo => if b = 0 then none else some (.int k (k.wrap (a.tdiv b)))
      | .rem => if b = 0 then none else some (.int k (a.tmod b))
      | .and => some (.int k (bits .and k a b))
      | .or => some (.int k (bits .or k a b))
      | .xor => some (.int k (bits .xor k a b))
      | .andNot => some (.int k (bits .andNot k a b))
      | .eql => some (.bool (a == b))
      | .neq => some (.bool (a != b))
      | .lss => some (.bool (decide (a < b)))
      | .leq => some (.bool (decide (a ≤ b)))
      | .gtr => some (.bool (decide (b < a)))
      | .geq => some (.bool (decide (b ≤ a)))
      | _ => none
      else none
  | .str a, .str b =>
    match op with
    | .add => if a.length + b.length ≤ 9223372036854775807 then some (.str (a ++ b)) else none
    | .eql => some (.bool (a == b))
    | .neq => some (.bool (a != b))
    | .lss => some (.bool (bless a b))
    | .leq => some (.bool (bless a b || a == b))
    | .gtr => some (.bool (!(bless a b || a == b)))
    | .geq => some (.bool (!bless a b))
    | _ => none
  | _, _ => none

/-- Equality of one cell of a kind (0: an integer, 1: a bool, 2: a string). -/
def eq1 : Nat → V → V → Option Bool
  | 0, .int k a, .int k' b => if k = k' then some (a == b) else none
  | 1, .bool a, .bool b => some (a == b)
  | 2, .str a, .str b => some (a == b)
  | _, _, _ => none

def eqL : List Nat → List V → List V → Option Bool
  | [], [], [] => some true
  | k :: ks, a :: as, b :: bs => match eq1 k a b, eqL ks as bs with
    | some x, some y => some (x && y)
    | _, _ => none
  | _, _, _ => none

def unV (op : UnOp) : V → Option V
  | .bool b => match op with | .not => some (.bool (!b)) | _ => none
  | .int k n => match op with
    | .neg => some (.int k (k.wrap (0 - n)))
    | .xor => some (.int k (bits .xor k (if k.signed then -1 else k.max) n))
    | _ => none
  | _ => none

def pickV (c : Bool) : V → V → V
  | .bool p, .bool q => .bool (if c then p else q)
  | x, y => if c then x else y

def pickOk (c : Bool) (x y : V) : Bool :=
  match x, y with
  | .bool _, .bool _ => true
  | x, y => if c then x.data else y.data

/-- The bounds of a slice expression over n elements (a slice's capacity is not looked at). -/
def bound (ρ : Nat → V) (x : Option Src) (d : Int) : Option Int :=
  match x with
  | none => some d
  | some x => intOf ρ x

def minL : List Int → Option Int
  | [] => none
  | x :: xs => some (xs.foldl (fun a b => if b < a then b else a) x)

def ints (ρ : Nat → V) : List Src → Option (IntKind × List Int)
  | [] => some (.i64, [])
  | [x] => match ev ρ x with | .int k n => some (k, [n]) | _ => none
  | x :: xs => match ev ρ x, ints ρ xs with
    | .int k n, some (k', ns) => if k = k' then some (k, n :: ns) else none
    | _, _ => none

/-- The arguments of a call: (value, what changes). With 'useH' pointers to objects may be handed on. -/
def argsOf (ρ : Nat → V) (useH : Bool) : List (Src × Bool) → Option (List V × List (Nat × V × Bool))
  | [] => some ([], [])
  | (x, take) :: rest => match argsOf ρ useH rest with
    | none => none
    | some (vs, ups) =>
      match ev ρ x with
      | .sl true sz xs => if take then some (.sl true sz xs :: vs, mvUps ρ x ++ ups) else none
      | .ptr id o => if useH then some (.ptr id o :: vs, ups) else none
      | .fn f caps => if useH || caps.isEmpty then some (.fn f caps :: vs, ups) else none
      | v => if v.data then some (v :: vs, ups) else none

def ptrOnly : V → Bool
  | .ptr _ _ => true
  | _ => false

def capsOf (ρ : Nat → V) : List Src → Option (List V)
  | [] => some []
  | x :: rest => match ev ρ x, capsOf ρ rest with
    | .ptr id o, some vs => some (.ptr id o :: vs)
    | _, _ => none

def callR (useH : Bool) (h : Heap) (ups : List (Nat × V × Bool)) : Option Rt → Option Rs
  | some (.ret v h') => if isAl v then none else some (.val ups v (if useH then h' else h))
  | some (.pan v h') => some (.pan v (if useH then h' else h))
  | none => none

/-- What is stored: an own slice is handed over, where asked for. -/
def stVal (ρ : Nat → V) (v : Src) (tr : Bool) : Option (V × List (Nat × V × Bool)) :=
  match ev ρ v with
  | .sl true sz xs => if tr then some (.sl true sz xs, mvUps ρ v) else none
  | w => if w.data then some (w, []) else none

def opRes (call : CallF) (ρ : Nat → V) (h : Heap) : AOp → Option Rs
  | .mv x => if isAl (ev ρ x) then none else some (.val (mvUps ρ x) (ev ρ x) h)
  | .cp x => match cpV ρ x with | some v => some (.val [] v h) | none => none
  | .al d => if (ρ d).owner then some (.val [] (.al d) h) else if (ρ d).lin || isAl (ρ d) then none else some (.val [] (ρ d) h)
  | .pick c a b => match ev ρ c with
    | .bool t => if pickOk t (ev ρ a) (ev ρ b) then some (.val [] (pickV t (ev ρ a) (ev ρ b)) h) else none
    | _ => none
  | .newbox cs => some (.val [] (.box cs) h)
  | .newobj cs => some (.val [] (.ptr h.length 0) (h ++ [cs]))
  | .boxr x => match dat ρ x with | some v => some (.val [] (.rptr v.cells) h) | none => none
  | .boxb x => match dat ρ x with | some v => some (.val [] (.box v.cells) h) | none => none
  | .boxo x => match dat ρ x with | some v => some (.val [] (.ptr h.length 0) (h ++ [v.cells])) | none => none
  | .build zero parts => match fill zero ρ parts with | some cs => some (.val [] (.agg cs) h) | none => none
  | .bsl sz n z parts => match fillE sz (List.replicate n z) ρ parts with | some xs => some (.val [] (.sl true sz xs) h) | none => none
  | .fa x off b => match place ρ x b with
    | some (.slot d o) => some (.val [] (.bref d (o + off)) h)
    | some (.obj id o) => some (.val [] (.ptr id (o + off)) h)
    | some (.ro cs) => if off ≤ cs.length then some (.val [] (.rptr (cs.drop off)) h) else none
    | none => none
  | .ia x i sz len b => match intOf ρ i with
    | none => none
    | some k => match len with
      | some n => if 0 ≤ k ∧ k < (n : Int) then
          match place ρ x b with
          | some (.slot d o) => some (.val [] (.bref d (o + k.toNat * sz)) h)
          | some (.obj id o) => some (.val [] (.ptr id (o + k.toNat * sz)) h)
          | some (.ro cs) => if k.toNat * sz ≤ cs.length then some (.val [] (.rptr (cs.drop (k.toNat * sz))) h) else none
          | none => none
        else none
      | none => match ev ρ x with
        | .sl false sz' xs => if sz' = sz ∧ 0 ≤ k ∧ k < (xs.length : Int) then some (.val [] (.rptr (nth xs k.toNat).cells) h) else none
        | .al d => match b with
          | some d' => match ρ d with
            | .sl true 1 xs => if d = d' ∧ sz = 1 ∧ 0 ≤ k ∧ k < (xs.length : Int) then some (.val [] (.bref d k.toNat) h) else none
            | _ => none
          | none => none
        | _ => none
  | .ld x n tr b => match place ρ x b with
    | some (.slot d o) => match memOf (ρ d) with
      | none => none
      | some cs => match n with
        | none => if o < cs.length then
            (if tr then (match ρ d with | .box _ => some (.val [(d, .box (upd cs o .undef), false)] (nth cs o) h) | _ => none)
             else if (nth cs o).one then some (.val [] (nth cs o) h) else none)
          else none
        | some m => if o + m ≤ cs.length then (if ((cs.drop o).take m).all V.one then some (.val [] (.agg ((cs.drop o).take m)) h) else none) else none
    | some (.obj id o) => match n with
        | none => if o < (hnth h id).length then
            (if tr then some (.val [] (nth (hnth h id) o) (hupd h id (upd (hnth h id) o .undef)))
             else if (nth (hnth h id) o).one then some (.val [] (nth (hnth h id) o) h) else none)
          else none
        | some m => if o + m ≤ (hnth h id).length then (if (((hnth h id).drop o).take m).all V.one then some (.val [] (.agg (((hnth h id).drop o).take m)) h) else none) else none
    | some (.ro cs) => match n with
      | none => match cs with | c :: _ => if c.one then some (.val [] c h) else none | [] => none
      | some m => if m ≤ cs.length then some (.val [] (.agg (cs.take m)) h) else none
    | none => none
  | .st x v n tr b =>
    match stVal ρ v tr with
    | none => none
    | some (w, ups) => if w.cells.length = n then
        match place ρ x b with
        | some (.slot d o) => match ρ d with
          | .box cs => if o + n ≤ cs.length then some (.val (ups ++ [(d, .box (overlay cs o w.cells), false)]) (.tup []) h) else none
          | .sl true 1 cs => if tr = false ∧ n = 1 ∧ w.one = true ∧ o < cs.length then some (.val [(d, .sl true 1 (upd cs o w), false)] (.tup []) h) else none
          | _ => none
        | some (.obj id o) => if o + n ≤ (hnth h id).length then some (.val ups (.tup []) (hupd h id (overlay (hnth h id) o w.cells))) else none
        | _ => none
      else none
  | .nck x b => match place ρ x b with
    | some (.slot d o) => some (.val [] (.bref d o) h)
    | some (.obj id o) => some (.val [] (.ptr id o) h)
    | some (.ro cs) => some (.val [] (.rptr cs) h)
    | none => match ev ρ x with
      | .fn f caps => some (.val [] (.fn f caps) h)
      | _ => none
  | .bin op x y => match binV op (ev ρ x) (ev ρ y) with | some v => some (.val [] v h) | none => none
  | .beq ne x y => match ev ρ x, ev ρ y with
    | .bool a, .bool b => some (.val [] (.bool (if ne then !(a == b) else a == b)) h)
    | _, _ => none
  | .eqs ne ks x y => match ev ρ x, ev ρ y with
    | .agg a, .agg b => match eqL ks a b with | some r => some (.val [] (.bool (if ne then !r else r)) h) | none => none
    | _, _ => none
  | .un op x => match unV op (ev ρ x) with | some v => some (.val [] v h) | none => none
  | .cvi k x => match ev ρ x with | .int _ n => some (.val [] (.int k (k.wrap n)) h) | _ => none
  | .cvid x => match ev ρ x with | .str s => some (.val [] (.str s) h) | _ => none
  | .cvs x b => match rdsl ρ x b with | some (1, xs) => if xs.all isU8 then some (.val [] (.str (xs.map byteOf)) h) else none | _ => none
  | .cvb x => match ev ρ x with | .str s => if s.length ≤ 140737488355328 then some (.val [] (.sl true 1 (B s)) h) else none | _ => none
  | .cvr x => match ev ρ x with | .int _ n => some (.val [] (.str (Utf8.encode n).data.toList) h) | _ => none
  | .mki t x => match dat ρ x with | some v => some (.val [] (.ifc t v) h) | none => none
  | .mkf f caps => match capsOf ρ caps with | some vs => some (.val [] (.fn f vs) h) | none => none
  | .mk sz bytes z len cap => match intOf ρ len, intOf ρ cap with
    | some l, some c => if 0 ≤ l ∧ l ≤ c ∧ (bytes : Int) * c ≤ 281474976710656 ∧ c ≤ 9223372036854775807 then some (.val [] (.sl true sz (List.replicate l.toNat z)) h) else none
    | _, _ => none
  | .slc sz x lo hi mx => match ev ρ x, sz with
    | .str s, none => match bound ρ lo 0, bound ρ hi s.length, mx with
      | some l, some r, none => if 0 ≤ l ∧ l ≤ r ∧ r ≤ (s.length : Int) then some (.val [] (.str ((s.take r.toNat).drop l.toNat)) h) else none
      | _, _, _ => none
    | .sl false sz' xs, some sz => match bound ρ lo 0, bound ρ hi xs.length, bound ρ mx xs.length with
      | some l, some r, some m => if sz' = sz ∧ 0 ≤ l ∧ l ≤ r ∧ r ≤ m ∧ m ≤ (xs.length : Int) ∧ (hi = none → mx = none) then some (.val [] (.sl false sz ((xs.take r.toNat).drop l.toNat)) h) else none
      | _, _, _ => none
    | _, _ => none
  | .slb d n lo hi => match ρ d with
    | .box cs => match bound ρ lo 0, bound ρ hi n with
      | some l, some r => if n = cs.length ∧ 0 ≤ l ∧ l ≤ r ∧ r ≤ (n : Int) ∧ cs.all V.one then some (.val [(d, .rptr cs, true)] (.sl false 1 ((cs.take r.toNat).drop l.toNat)) h) else none
      | _, _ => none
    | _ => none
  | .idx x i len sz ag => match intOf ρ i with
    | none => none
    | some k => match ev ρ x, len with
      | .agg cs, some m => if 0 ≤ k ∧ k < (m : Int) ∧ (k.toNat + 1) * sz ≤ cs.length then
          (if ag then some (.val [] (.agg ((cs.drop (k.toNat * sz)).take sz)) h) else if sz = 1 then some (.val [] (nth cs k.toNat) h) else none) else none
      | .str s, none => if 0 ≤ k ∧ k < (s.length : Int) then some (.val [] (.int .u8 (s[k.toNat]?.getD 0).toNat) h) else none
      | _, _ => none
  | .fld x off n ag => match ev ρ x with
    | .agg cs => if off + n ≤ cs.length then (if ag then some (.val [] (.agg ((cs.drop off).take n)) h) else if n = 1 then some (.val [] (nth cs off) h) else none) else none
    | _ => none
  | .ext j i => match ρ j with
    | .tup vs => if i < vs.length then
        (if (nth vs i).lin then some (.val [(j, .tup (upd vs i .undef), false)] (nth vs i) h) else some (.val [] (nth vs i) h)) else none
    | _ => none
  | .tas x t ok zero => match ev ρ x with
    | .ifc t' v => if t' = t then some (.val [] (if ok then .tup [v, .bool true] else v) h) else if ok then some (.val [] (.tup [zero, .bool false]) h) else none
    | _ => none
  | .call f args useH => match argsOf ρ useH args with
    | some (vs, ups) => callR useH h ups (call f vs (if useH then h else []))
    | none => none
  | .callv x args => match ev ρ x, argsOf ρ true args with
    | .fn f caps, some (vs, ups) => callR true h ups (call f (vs ++ caps) h)
    | _, _ => none
  | .len st x b => if st then (match ev ρ x with
      | .str s => some (.val [] (.int .i64 s.length) h)
      | _ => none)
    else match rdsl ρ x b with | some (_, xs) => some (.val [] (.int .i64 xs.length) h) | none => none
  | .app sz bytes x y b => match ev ρ x with
    | .sl true sz' xs => match (match ev ρ y with | .str s => some (1, B s) | _ => rdsl ρ y b) with
      | some (sz'', ys) => if sz' = sz ∧ sz'' = sz ∧ (xs.length + ys.length) * bytes ≤ 140737488355328 ∧ bytes ≠ 0 then
          some (.val (mvUps ρ x) (.sl true sz (xs ++ ys)) h) else none
      | none => none
    | _ => none
  | .copy d x y b => match ev ρ x, ρ d with
    | .al d', .sl true sz xs => match (match ev ρ y with | .str s => some (1, B s) | _ => rdsl ρ y b) with
      | some (sz', ys) => if d = d' ∧ sz' = sz ∧ sz = 1 then
          some (.val [(d, .sl true sz (ys.take xs.length ++ xs.drop ys.length), false)] (.int .i64 (min ys.length xs.length : Nat)) h) else none
      | none => none
    | _, _ => none
  | .min xs => match ints ρ xs with
    | some (k, ns) => match minL ns with | some m => some (.val [] (.int k m) h) | none => none
    | none => none
  | .range x => match ev ρ x with | .str s => some (.val [] (.iter s 0) h) | _ => none
  | .next d => match ρ d with
    | .iter s pos => if pos < s.length then
        some (.val [(d, .iter s (pos + (Utf8.decode ⟨s.toArray⟩ pos).2), false)] (.tup [.bool true, .int .i64 pos, .int .i32 (Utf8.decode ⟨s.toArray⟩ pos).1]) h)
      else some (.val [] (.tup [.bool false]) h)
    | _ => none
  | .pan x => match ev ρ x with | .ifc t v => some (.pan (.ifc t v) h) | _ => none
  | .cm d => some (.val [(d, (ρ d).sh, (ρ d).owner)] .undef h)
  | .cmb d => match ρ d with | .box cs => some (.val [(d, .box (cs.map V.sh), false)] .undef h) | _ => none
  | .cmh x => match ev ρ x with | .ptr id _ => some (.val [] .undef (hupd h id ((hnth h id).map V.sh))) | _ => none

def ups1 (t : List V) : Nat × V × Bool → List V
  | (d, v, false) => upd t d v
  | (d, v, true) => upd (t.map (V.killb d)) d v

def ups : List V → List (Nat × V × Bool) → List V
  | t, [] => t
  | t, u :: us => ups (ups1 t u) us

inductive Ex where
  | norm
  | exit (id : Nat)
  | ret
  | pan (v : V)

def put (t : List V) (dst : Option Nat) (v : V) : Option (List V) :=
  match dst with
  | none => some t
  | some d => if (nth t d).owner then none else some (upd t d v)

def stepR (dst : Option Nat) (s : St) : Option Rs → Option (Ex × St)
  | none => none
  | some (.pan v h) => some (.pan v, ⟨s.t, h⟩)
  | some (.val us v h) => match put (ups s.t us) dst v with
    | some t => some (.norm, ⟨t, h⟩)
    | none => none

def stepI (call : CallF) (i : AI) (s : St) : Option (Ex × St) :=
  match i.g with
  | none => stepR i.dst s (opRes call (nth s.t) s.h i.op)
  | some (g, want) => match nth s.t g with
    | .bool b => if b = want then stepR i.dst s (opRes call (nth s.t) s.h i.op) else stepR i.dst s (some (.val [] (.tup []) s.h))
    | .tup [] => stepR i.dst s (some (.val [] (.tup []) s.h))
    | _ => none

def runOps (call : CallF) : List AI → St → Option (Ex × St)
  | [], s => some (.norm, s)
  | i :: rest, s => match stepI call i s with
    | some (.norm, s') => runOps call rest s'
    | r => r

def iterA (f : St → Option (Ex × St)) : Nat → St → Option (Ex × St)
  | 0, _ => none
  | n + 1, s => match f s with
    | some (.norm, s') => iterA f n s'
    | r => r

def nthB : List Bool → Nat → Bool
  | [], _ => false
  | b :: _, 0 => b
  | _ :: l, n + 1 => nthB l n

def killAt (m : List Bool) : V → V
  | .bref d o => if nthB m d then .undef else .bref d o
  | .al d => if nthB m d then .undef else .al d
  | v => v

def killM (m : List Bool) : List Bool → List V → List V
  | _, [] => []
  | [], v :: l => killAt m v :: killM m [] l
  | b :: bs, v :: l => (if b then .undef else killAt m v) :: killM m bs l

def evC (call : CallF) (n : Nat) : AC → St → Option (Ex × St)
  | .skip, s => some (.norm, s)
  | .reg ops, s => runOps call ops s
  | .dreg ops, s => match runOps call ops s with
    | some (.norm, s') => some (.norm, s')
    | _ => none
  | .seq a b, s => match evC call n a s with
    | some (.norm, s') => evC call n b s'
    | r => r
  | .cond c a b, s => match ev (nth s.t) c with
    | .bool t => if t then evC call n a s else evC call n b s
    | _ => none
  | .blk id a, s => match evC call n a s with
    | some (.exit id', s') => if id' = id then some (.norm, s') else some (.exit id', s')
    | r => r
  | .loop a, s => iterA (evC call n a) n s
  | .exit id, s => some (.exit id, s)
  | .ret, s => some (.ret, s)
  | .pre m a, s => evC call n a { s with t := killM m m s.t }

inductive ARes where
  | tmp (t : Nat)
  | cell (a : Nat) (n : Option Nat)

structure AF where
  ntmps : Nat
  body : AC
  res : List ARes

def resV (s : St) : ARes → Option V
  | .tmp t => match nth s.t t with
    | .sl true sz xs => some (.sl true sz xs)
    | v => if v.data then some v else none
  | .cell a n => match opRes (fun _ _ _ => none) (nth s.t) s.h (.ld (.t a) n true (match nth s.t a with | .box _ => some a | _ => none)) with
    | some (.val _ v _) => if v.data then some v else none
    | _ => none

def resL (s : St) : List ARes → Option (List V)
  | [] => some []
  | r :: rs => match resV s r, resL s rs with
    | some v, some vs => some (v :: vs)
    | _, _ => none

def finish (af : AF) (n0 : Nat) : Option (Ex × St) → Option Rt
  | some (.norm, s) | some (.ret, s) => match resL s af.res with
    | some [v] => some (.ret v (s.h.take n0))
    | some vs => some (.ret (.tup vs) (s.h.take n0))
    | none => none
  | some (.pan v, s) => if v.data then some (.pan v (s.h.take n0)) else none
  | _ => none

def frame (af : AF) (args : List V) : List V := args ++ List.replicate (af.ntmps - args.length) .undef

end Go.Am
