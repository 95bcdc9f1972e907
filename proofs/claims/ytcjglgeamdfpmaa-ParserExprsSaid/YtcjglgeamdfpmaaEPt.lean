/- The tariff language, parsed: plain definitions, with no program in sight. -/
import Derived.Test.YtcjglgeamdfpmaaEPp
import Derived.Test.YtcjglgeamdfpmaaEPd
namespace Go.Pu

def bindP {α β : Type} (x : PR α) (f : α → List Tk → PR β) : PR β := match x with
  | .ok a r => f a r
  | .err k e => .err k e
@[simp] theorem bindP_ok {α β : Type} {a : α} {ts : List Tk} {f : α → List Tk → PR β} : bindP (.ok a ts) f = f a ts := rfl
@[simp] theorem bindP_err {α β : Type} {k e : Nat} {f : α → List Tk → PR β} : bindP (.err k e) f = .err k e := rfl

/-- The last token, and only it, is the end. -/
def ends : List Tk → Bool
  | [] => false
  | [t] => t == .fin
  | t :: r => !(t == .fin) && ends r
theorem ends_cons {t : Tk} {r : List Tk} (h : ends (t :: r) = true) (ht : t ≠ .fin) : ends r = true := by
  cases r with
  | nil => simp [ends] at h; exact absurd h ht
  | cons u r => simp [ends] at h; exact h.2
theorem ends_ne {ts : List Tk} (h : ends ts = true) : ∃ t r, ts = t :: r := by
  cases ts with
  | nil => cases h
  | cons t r => exact ⟨t, r, rfl⟩

def needW (s : Bs) (ts : List Tk) : PR Unit := if isWord s ts then .ok () ts.tail else failT ts 1
def needS (s : Bs) (ts : List Tk) : PR Unit := if isSymT s ts then .ok () ts.tail else failT ts 1
def endT (ts : List Tk) : PR Unit := match ts with
  | .fin :: _ => .ok () ts
  | _ => failT ts 1
def kAny : Bs := [97, 110, 121]
def nameOrAny (ts : List Tk) : PR Bs := if isWord kAny ts then .ok [] ts.tail else nameT ts
def digitsT : List Tk → PR Bs
  | .num d :: r => .ok d r
  | ts => failT ts 1
def fixedT (size : Nat) (most : Int) : List Tk → PR Int
  | .num d :: r => if d.length = size ∧ (value d : Int) ≤ most then .ok (value d) r else failT (.num d :: r) 1
  | ts => failT ts 1
def isNum : List Tk → Bool
  | .num _ :: _ => true
  | _ => false

/-- An expression; parsing it always ends. -/
def exprT (ts : List Tk) : PR PE := match pExpr ts with
  | some r => r
  | none => .err 0 0
theorem exprT_eq (ts : List Tk) : pExpr ts = some (exprT ts) := by
  obtain ⟨r, h, _⟩ := pExpr_some ts
  unfold exprT
  rw [h]

/-- Elements, each behind a head. -/
def manyT {α : Type} (hd : List Tk → Bool) (item : List Tk → PR α) : Nat → List α → List Tk → PR (List α)
  | 0, acc, ts => .ok acc ts
  | n + 1, acc, ts => if hd ts then bindP (item ts.tail) fun a r => manyT hd item n (acc ++ [a]) r else .ok acc ts
/-- Elements with commas between them. -/
def sepT {α : Type} (item : List Tk → PR α) (ts : List Tk) : PR (List α) :=
  bindP (item ts) fun a r => manyT (isSymT [44]) item r.length [a] r

def lenQ (y m : Int) : Int := if y < 2000 ∨ 2399 < y ∨ m < 1 ∨ 12 < m then 0 else dlen y m
def dayQ (y m d : Int) : Option Int := if d < 1 ∨ lenQ y m < d then none else some (bef y + mcum y (m - 1).toNat + d - 1)
def dateT (ts : List Tk) : PR Int :=
  bindP (fixedT 4 9999 ts) fun y r => bindP (needS [45] r) fun _ r => bindP (fixedT 2 99 r) fun m r => bindP (needS [45] r) fun _ r => bindP (fixedT 2 99 r) fun d r =>
  match dayQ y m d with
  | some n => .ok (n * 86400) r
  | none => failT ts 15
def clockN (ts : List Tk) : PR Int :=
  bindP (fixedT 2 23 ts) fun h r => bindP (needS [58] r) fun _ r => bindP (fixedT 2 59 r) fun m r => bindP (needS [58] r) fun _ r => bindP (fixedT 2 59 r) fun s r => .ok (3600 * h + 60 * m + s) r
def clockT (ts : List Tk) : PR Int := if isNum ts then clockN ts else .ok 0 ts
def timeT (most : Int) (ts : List Tk) : PR Int :=
  bindP (fixedT 2 most ts) fun h r => bindP (needS [58] r) fun _ r => bindP (fixedT 2 (if h = 24 then 0 else 59) r) fun m r => .ok (60 * h + m) r

structure ZoneP where
  name : Bs
  pref : List Bs
structure SlotP where
  days : Int
  lo : Int
  hi : Int
structure BandP where
  name : Bs
  slots : List SlotP
structure StepP where
  upto : Int
  quant : Int
  price : Int
structure RateP where
  kind : Int
  zone : Bs
  band : Bs
  setup : Int
  steps : List StepP
structure DiscP where
  name : Bs
  points : Int
  cond : PE
structure TariffP where
  name : Bs
  start : Int
  split : Bool
  zones : List ZoneP
  bands : List BandP
  rates : List RateP
  discs : List DiscP

def dayWs : List Bs := [[109, 111, 110], [116, 117, 101], [119, 101, 100], [116, 104, 117], [102, 114, 105], [115, 97, 116], [115, 117, 110], [104, 111, 108, 105, 100, 97, 121]]
def kindWs : List Bs := [[118, 111, 105, 99, 101], [116, 101, 120, 116], [100, 97, 116, 97], [99, 111, 110, 116, 101, 110, 116]]
def wplaceF (s : Bs) : List Bs → Nat → Int
  | [], _ => -1
  | w :: l, i => if w = s then i else wplaceF s l (i + 1)
def wplace (l : List Bs) (s : Bs) : Int := wplaceF s l 0

/-- A word of a list, from an index on. -/
def wordT (l : List Bs) (least : Int) : List Tk → PR Int
  | .word w :: r => if wplace l w < least ∨ wplace l w < 0 then failT (.word w :: r) 1 else .ok (wplace l w) r
  | ts => failT ts 1
def daysT : Nat → Int → Int → List Tk → PR Int
  | 0, _, days, ts => .ok days ts
  | n + 1, last, days, ts => if isSymT [43] ts then bindP (wordT dayWs (last + 1) ts.tail) fun k r => daysT n k (days + 2 ^ k.toNat) r else .ok days ts
def slotT (ts : List Tk) : PR SlotP :=
  bindP (wordT dayWs 0 ts) fun k r => bindP (daysT r.length k (2 ^ k.toNat) r) fun d r => bindP (timeT 23 r) fun a r => bindP (needS [45] r) fun _ r => bindP (timeT 24 r) fun b r => .ok ⟨d, a, b⟩ r

def kOther : Bs := [111, 116, 104, 101, 114, 119, 105, 115, 101]
def zoneT (ts : List Tk) : PR ZoneP := bindP (nameT ts) fun n r => bindP (sepT digitsT r) fun l r => bindP (needS [59] r) fun _ r => .ok ⟨n, l⟩ r
def slotsT (ts : List Tk) : PR (List SlotP) := if isWord kOther ts then .ok [] ts.tail else sepT slotT ts
def bandT (ts : List Tk) : PR BandP := bindP (nameT ts) fun n r => bindP (slotsT r) fun l r => bindP (needS [59] r) fun _ r => .ok ⟨n, l⟩ r
def optN (w : Bs) (ts : List Tk) : PR Int := if isWord w ts then numberT ts.tail else .ok 0 ts
def kUpto : Bs := [117, 112, 116, 111]
def kPer : Bs := [112, 101, 114]
def kAt : Bs := [97, 116]
def tierT (ts : List Tk) : PR StepP := bindP (optN kUpto ts) fun u r => bindP (needW kPer r) fun _ r => bindP (numberT r) fun q r => bindP (needW kAt r) fun _ r => bindP (numberT r) fun p r => .ok ⟨u, q, p⟩ r
def kTo : Bs := [116, 111]
def kIn : Bs := [105, 110]
def kSetup : Bs := [115, 101, 116, 117, 112]
def rateT (ts : List Tk) : PR RateP := bindP (wordT kindWs 0 ts) fun k r => bindP (needW kTo r) fun _ r => bindP (nameOrAny r) fun z r => bindP (needW kIn r) fun _ r => bindP (nameOrAny r) fun b r =>
  bindP (optN kSetup r) fun s r => bindP (sepT tierT r) fun l r => bindP (needS [59] r) fun _ r => .ok ⟨k + 1, z, b, s, l⟩ r
def kPoints : Bs := [112, 111, 105, 110, 116, 115]
def kWhen : Bs := [119, 104, 101, 110]
def discT (ts : List Tk) : PR DiscP := bindP (nameT ts) fun n r => bindP (numberT r) fun p r => bindP (needW kPoints r) fun _ r => bindP (needW kWhen r) fun _ r => bindP (exprT r) fun e r => bindP (needS [59] r) fun _ r => .ok ⟨n, p, e⟩ r

def kTariff : Bs := [116, 97, 114, 105, 102, 102]
def kFrom : Bs := [102, 114, 111, 109]
def kSplit : Bs := [115, 112, 108, 105, 116]
def kZone : Bs := [122, 111, 110, 101]
def kBand : Bs := [98, 97, 110, 100]
def kRate : Bs := [114, 97, 116, 101]
def kDisc : Bs := [100, 105, 115, 99, 111, 117, 110, 116]
def splitT (ts : List Tk) : PR Bool := if isWord kSplit ts then .ok true ts.tail else .ok false ts
def tariffT (ts : List Tk) : PR TariffP :=
  bindP (needW kTariff ts) fun _ r => bindP (nameT r) fun n r => bindP (needW kFrom r) fun _ r => bindP (dateT r) fun d r => bindP (clockT r) fun c r => bindP (splitT r) fun s r => bindP (needS [59] r) fun _ r =>
  bindP (manyT (isWord kZone) zoneT r.length [] r) fun zs r => bindP (manyT (isWord kBand) bandT r.length [] r) fun bs r => bindP (manyT (isWord kRate) rateT r.length [] r) fun rs r => bindP (manyT (isWord kDisc) discT r.length [] r) fun ds r =>
  .ok ⟨n, d + c, s, zs, bs, rs, ds⟩ r

/-- A whole text: the end has to follow. -/
def allT {α : Type} (p : List Tk → PR α) (ts : List Tk) : PR α := bindP (p ts) fun a r => bindP (endT r) fun _ _ => .ok a r
end Go.Pu
