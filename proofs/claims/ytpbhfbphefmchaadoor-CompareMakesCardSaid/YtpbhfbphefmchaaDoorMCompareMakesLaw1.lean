/- Lemmas for the law CompareMakesLaw: texts of mine, merged. -/
import Derived.WalkKit
import Derived.Orders
import Derived.Lib.SplitLaws
import Derived.Test.YtpbhfbphefmchaaDoorChecked
import Derived.Maps.OwnSet
import Derived.Maps.OwnOps
import Derived.Maps.OwnRows
import Derived.Maps.AppendAt
import Derived.StringKeys
import Derived.SliceStrings
/- Pv: a machine on pure data. A function of the program is run on data (a slice is the list of its cells; memory is only what is boxed). Where it gives no answer nothing is claimed. This text has the definitions alone. -/
set_option linter.unusedSimpArgs false
set_option linter.unusedVariables false
namespace Go.Proofs.YtpbhfbphefmchaaDoor.Pv
open Go

/-- Data. 'sl': a slice's cells and its length; 'ref': a pointer into cells that do not turn any more. 'und': whatever. -/
inductive D where
  | und
  | int (k : IntKind) (n : Int)
  | bool (b : Bool)
  | str (s : List UInt8)
  | nil
  | nilsl
  | nilmp
  | nilfn
  | nilifc
  | fn (f : FuncId)
  | ref (cells : List D) (off : Nat)
  | sl (cells : List D) (n : Nat)
  | ifc (t : TypeId) (v : D)
  | agg (cells : List D)
  | tup (vs : List D)
  deriving Inhabited

/-- What a slot or a box holds. 'tail': a slice that alone may grow in place; 'full': one without room; 'obj': a pointer into a box; 'osl': a slice over a box. -/
inductive V where
  | d (x : D)
  | tail (E : TypeId) (cells : List D) (n : Nat)
  | full (cells : List D) (n : Nat)
  | obj (id off : Nat)
  | osl (id off n : Nat)
  | clo (fn : Fn) (first cap : List V)
  | agg (vs : List V)
  | tup (vs : List V)
  | mp (id : Nat)
  | it (id : Nat)
  deriving Inhabited

/-- A box. -/
inductive Ob where
  | cells (vs : List V)
  | frozen (ds : List D)
  | map (es : List (D × D)) (clock : Nat)
  | iter (s : List UInt8) (pos : Nat)
  deriving Inhabited

/-- Where a temporary was read from. -/
inductive Loc where
  | slot (t : Nat)
  | cell (id j : Nat)
  deriving DecidableEq

structure St where
  s : List (Nat × V)
  h : List Ob
  og : List (Nat × Loc)

structure Ctx where
  P : Program
  /-- the package-level variables that are known -/
  glob : Nat → Option (List D)
  /-- functions that are not run: what they answer -/
  ext : FuncId → Option (List D → Option V)
  /-- types of pointers that, handed back, point to what does not turn any more -/
  frz : TypeId → Bool
  /-- package-level variables of which nothing is known but that they hold an int -/
  ints : List Nat := []
  /-- functions on boxes that are not run: what they answer and leave -/
  exti : FuncId → Option (List V → List Ob → Option (V × List Ob)) := fun _ => none

/- Data and the model's values. -/
mutual
def D.toVal : D → Option Value
  | .int k n => some (.int k n)
  | .bool b => some (.bool b)
  | .str s => some (.string ⟨s.toArray⟩)
  | .nil => some (.pointer none)
  | .nilsl => some (.slice none 0 0)
  | .nilmp => some (.map none)
  | .nilfn => some .nilFunc
  | .nilifc => some .nilIface
  | .fn f => some (.func (.func f) #[] #[])
  | .ifc t v => match D.toVal v with
    | some x => some (.iface t x)
    | none => none
  | .agg cs => match D.toVals cs with
    | some xs => some (.agg xs.toArray)
    | none => none
  | .tup cs => match D.toVals cs with
    | some xs => some (.tuple xs.toArray)
    | none => none
  | .und | .ref .. | .sl .. => none
def D.toVals : List D → Option (List Value)
  | [] => some []
  | d :: ds => match D.toVal d, D.toVals ds with
    | some x, some xs => some (x :: xs)
    | _, _ => none
end

def D.ofVal : Nat → Value → D
  | 0, _ => .und
  | n + 1, v => match v with
    | .int k x => .int k x
    | .bool b => .bool b
    | .string s => .str s.data.toList
    | .pointer none => .nil
    | .slice none l c => if l = 0 ∧ c = 0 then .sl [] 0 else .und
    | .map none => .nilmp
    | .nilFunc => .nilfn
    | .nilIface => .nilifc
    | .func (.func f) a b => if a.size = 0 ∧ b.size = 0 then .fn f else .und
    | .iface t x => .ifc t (D.ofVal n x)
    | .agg cs => .agg (cs.toList.map (D.ofVal n))
    | .tuple cs => .tup (cs.toList.map (D.ofVal n))
    | _ => .und

def V.toD : V → Option D
  | .d x => some x
  | .tail _ c n => some (.sl c n)
  | .full c n => some (.sl c n)
  | _ => none

/-- A copy: it may not grow in place. -/
def V.copy : V → V
  | .tail _ c n => .d (.sl c n)
  | v => v

def toDs : List V → Option (List D)
  | [] => some []
  | v :: vs => match v.toD, toDs vs with
    | some d, some ds => some (d :: ds)
    | _, _ => none

/-- May it stand in one cell? -/
def D.one : D → Bool
  | .agg _ | .tup _ | .und => false
  | _ => true
def V.one : V → Bool
  | .d x => x.one
  | .agg _ | .tup _ => false
  | _ => true

/-- A computation of the model that looks at no world. -/
def pureRun {α : Type} (P : Program) : Sem α → Option α
  | .pure a => some a
  | .program k => pureRun P (k P)
  | _ => none

def und : V := .d .und
def undefV : V := .d (.tup [])

def lookT (t : Nat) : List (Nat × V) → V
  | [] => und
  | (u, v) :: r => if u == t then v else lookT t r

def St.get (X : Ctx) (st : St) : Operand → V
  | .tmp t => lookT t st.s
  | .const v => .d (D.ofVal 6 v)
  | .global g => match X.glob g with
    | some cs => .d (.ref cs 0)
    | none => und
  | .func f => .d (.fn f)

def St.put (st : St) (dst : Option Tmp) (v : V) : St :=
  match dst with
  | some t => { s := (t, v) :: st.s, h := st.h, og := st.og.filter fun x => x.1 != t && x.2 != .slot t }
  | none => st

/- Types. -/
def isAggT (P : Program) (t : TypeId) : Bool :=
  match P.underlying t with
  | some (.struct _) => true
  | some (.array _ _) => true
  | _ => false
/-- Is it a struct or an array? -/
def aggT (P : Program) (t : TypeId) : Option Bool :=
  match P.underlying t with
  | some (.struct _) => some true
  | some (.array _ _) => some true
  | some _ => some false
  | none => none
def sizeT (P : Program) (t : TypeId) : Option Nat := (P.info? t).map (·.size)
def elemT (P : Program) (t : TypeId) : Option TypeId :=
  match P.underlying t with
  | some (.slice e) => some e
  | _ => none
def fieldT (P : Program) (t : TypeId) (f : Nat) : Option (Nat × TypeId) :=
  match P.underlying t with
  | some (.struct fs) => (fs[f]?).map fun x => (x.offset, x.type)
  | _ => none
def zeroT (P : Program) (t : TypeId) : Option D :=
  match P.info? t with
  | some i => i.zero.map (D.ofVal 6)
  | none => none

def D.cells : D → List D
  | .agg cs => cs
  | d => [d]
def V.cells : V → List V
  | .d (.agg cs) => cs.map .d
  | .agg vs => vs
  | v => [v]

def aggV (vs : List V) : V :=
  match toDs vs with
  | some ds => .d (.agg ds)
  | none => .agg vs

/-- A struct that is built: slices of it that are nil may be appended to. -/
def V.isTail : V → Bool
  | .tail .. => true
  | _ => false
def aggB (vs : List V) : V := if vs.any V.isTail then .agg vs else aggV vs
/-- .. and as it is handed on. -/
def V.flat : V → V
  | .agg vs => aggV (vs.map V.copy)
  | v => v

/-- Is it known how many cells it has? -/
def V.sure : V → Bool
  | .d .und | .d (.tup _) | .tup _ => false
  | _ => true

/-- A part of cells: an aggregate, or one cell. -/
def partD (P : Program) (t : TypeId) (cs : List D) (off : Nat) : Option D :=
  match sizeT P t, aggT P t with
  | some n, some true => if off + n ≤ cs.length then some (.agg ((cs.drop off).take n)) else none
  | some _, some false => cs[off]?
  | _, _ => none
def partV (P : Program) (t : TypeId) (vs : List V) (off : Nat) : Option V :=
  match sizeT P t, aggT P t with
  | some n, some true =>
    if off + n ≤ vs.length then some (aggV (((vs.drop off).take n).map V.copy)) else none
  | some _, some false => (vs[off]?).map V.copy
  | _, _ => none

def splice {α : Type} (xs : List α) (off : Nat) (ys : List α) : List α := xs.take off ++ ys ++ xs.drop (off + ys.length)

/-- A slice's cells and length, as data. -/
def V.slice? : V → Option (List D × Nat)
  | .d (.sl c n) => some (c, n)
  | .d .nilsl => some ([], 0)
  | .tail _ c n => some (c, n)
  | .full c n => some (c, n)
  | _ => none

/- What is pure data of a box is frozen, and what it points to. -/
def mapH (f : List Ob → V → Option (D × List Ob)) : List Ob → List V → Option (List D × List Ob)
  | h, [] => some ([], h)
  | h, v :: vs => match f h v with
    | some (d, h) => match mapH f h vs with
      | some (ds, h) => some (d :: ds, h)
      | none => none
    | none => none
def freezeN : Nat → List Ob → V → Option (D × List Ob)
  | 0, h, v => v.toD.map fun d => (d, h)
  | k + 1, h, v => match v with
    | .obj id off => match h[id]? with
      | some (.frozen ds) => some (.ref ds off, h)
      | some (.cells vs) => match mapH (freezeN k) h vs with
        | some (ds, h1) => match h1[id]? with
          | some (.cells _) => if ds.all D.one then some (.ref ds off, h1.set id (.frozen ds)) else none
          | _ => none
        | none => none
      | _ => none
    | .osl id off n => if off = 0 ∧ n ≠ 0 then match h[id]? with
      | some (.frozen ds) => some (.sl ds n, h)
      | some (.cells vs) => match mapH (freezeN k) h vs with
        | some (ds, h1) => match h1[id]? with
          | some (.cells _) => if ds.all D.one then some (.sl ds n, h1.set id (.frozen ds)) else none
          | _ => none
        | none => none
      | _ => none
      else none
    | v => v.toD.map fun d => (d, h)
def freeze (h : List Ob) (v : V) : Option (D × List Ob) := freezeN 4 h v

def bigLen : Nat := 140737488355328

/-- One operation of the pure kind, by the model itself. -/
def pureOp (X : Ctx) (ρ : Operand → V) (o : Oper) : Option D :=
  if o.op.operands.toList.all fun x => (((ρ x).toD).bind D.toVal).isSome then
    match pureRun X.P (execOp (fun x => (((ρ x).toD).bind D.toVal).getD undef) o) with
    | some (.value v) => some (D.ofVal 6 v)
    | _ => none
  else none

/-- Calls: on what is all plain, with an answer that is plain; and any others. -/
structure CallF where
  p : FuncId → List V → Option V
  i : FuncId → List V → List Ob → Option (V × List Ob)

def setOg (st : St) (dst : Option Tmp) (l : Loc) : St :=
  match dst with
  | some t => { st with og := (t, l) :: st.og }
  | none => st

def intOfV : V → Option (IntKind × Int)
  | .d (.int k n) => some (k, n)
  | _ => none

/-- The place that an operand was read from. -/
def ogOf (st : St) : Operand → Option Loc
  | .tmp t => (st.og.find? fun x => x.1 == t).map (·.2)
  | _ => none

/-- What stands at a place; and that copy put in its stead. -/
def locGet (st : St) : Loc → Option V
  | .slot t => some (lookT t st.s)
  | .cell id j => match st.h[id]? with
    | some (.cells vs) => vs[j]?
    | _ => none
def locCopy (st : St) : Loc → St
  | .slot t => match lookT t st.s with
    | .tail _ c n => { st with s := (t, .d (.sl c n)) :: st.s }
    | _ => st
  | .cell id j => match st.h[id]? with
    | some (.cells vs) => { st with h := st.h.set id (.cells (vs.set j ((vs.getD j undefV).copy))) }
    | _ => st

/-- What is appended: a slice's cells, or a string's bytes. -/
def srcOf (P : Program) (u : TypeId) (v : V) : Option (List D × Nat) :=
  match P.underlying u, v with
  | some (.slice _), v => v.slice?
  | some .string, .d (.str s) => some (s.map fun b => .int .u8 b.toNat, s.length)
  | _, _ => none

/-- 'append(s, xs...)'. -/
def appendOp (X : Ctx) (st : St) (t u : TypeId) (s x : Operand) : Option (St × V) :=
  match elemT X.P t, (elemT X.P t).bind (X.P.info? ·), srcOf X.P u (st.get X x) with
  | some E, some i, some (cs, m) =>
    if i.size != 0 && cs.length == m * i.size && cs.all D.one && (zeroT X.P E).any (fun z => z.cells.length == i.size) then
      let go := fun (c : List D) (n : Nat) => if (n + m) * i.bytes ≤ bigLen ∧ n + m ≤ bigLen then some (V.tail E (c ++ cs) (n + m)) else none
      match st.get X s with
      | .d .nilsl => if m = 0 then some (st, .d .nilsl) else (go [] 0).map fun v => (st, v)
      | .full c n => if m = 0 then some (st, .full c n) else if c.length = n * i.size ∧ c.all D.one then (go c n).map fun v => (st, v) else none
      | .tail E' c n => if E' = E ∧ c.length = n * i.size then
          match s with
          | .tmp ts => (go c n).map fun v => (locCopy st (.slot ts), v)
          | _ => none
        else none
      | _ =>
        match ogOf st s with
        | some l => match locGet st l with
          | some (.tail E' c n) => if E' = E ∧ c.length = n * i.size then (go c n).map fun v => (locCopy st l, v) else none
          | _ => none
        | none => none
    else none
  | _, _, _ => none


def V.isSl : V → Bool
  | .d (.sl _ n) => n != 0
  | .tail _ _ n => n != 0
  | .full .. | .osl .. => true
  | _ => false
def V.isPt : V → Bool
  | .d (.ref ..) | .obj .. => true
  | _ => false
def V.isFn : V → Bool
  | .d (.fn _) | .clo .. => true
  | _ => false
def V.isIf : V → Bool
  | .d (.ifc ..) => true
  | _ => false
def V.isMp : V → Bool
  | .mp _ => true
  | _ => false
def V.nilSl : V → Bool
  | .d .nilsl => true
  | _ => false
def V.nilPt : V → Bool
  | .d .nil => true
  | _ => false
def V.nilFn : V → Bool
  | .d .nilfn => true
  | _ => false
def V.nilIf : V → Bool
  | .d .nilifc => true
  | _ => false
def V.nilMp : V → Bool
  | .d .nilmp => true
  | _ => false
/-- 'x == nil' and its kin, where x is no plain value: both are surely unlike. -/
def unlike (P : Program) (t : TypeId) (x y : V) : Bool :=
  match P.underlying t with
  | some (.slice _) => (x.isSl && y.nilSl) || (x.nilSl && y.isSl)
  | some (.pointer _) => (x.isPt && y.nilPt) || (x.nilPt && y.isPt)
  | some (.func ..) => (x.isFn && y.nilFn) || (x.nilFn && y.isFn)
  | some (.interface _) => (x.isIf && y.nilIf) || (x.nilIf && y.isIf)
  | some (.map ..) => (x.isMp && y.nilMp) || (x.nilMp && y.isMp)
  | _ => false

def boundOf (ρ : Operand → V) (dflt : Nat) : Option Operand → Option Nat
  | none => some dflt
  | some x => match ρ x with
    | .d (.int _ i) => if 0 ≤ i then some i.toNat else none
    | _ => none

/-- 's[lo:hi:mx]'. -/
def sliceOp (X : Ctx) (ρ : Operand → V) (t : TypeId) (x : Operand) (lo hi mx : Option Operand) : Option V :=
  match X.P.underlying t, ρ x with
  | some .string, .d (.str s) =>
    if mx.isSome then none else
    match boundOf ρ 0 lo, boundOf ρ s.length hi with
    | some l, some h => if l ≤ h ∧ h ≤ s.length then some (.d (.str ((s.take h).drop l))) else none
    | _, _ => none
  | some (.slice e), .d .nilsl =>
    if (sizeT X.P e).isSome && (mx.isNone || hi.isSome) then
      match boundOf ρ 0 lo, boundOf ρ 0 hi, boundOf ρ 0 mx with
      | some 0, some 0, some 0 => some (.d .nilsl)
      | _, _, _ => none
    else none
  | some (.slice e), v =>
    match v.slice?, sizeT X.P e with
    | some (c, n), some z =>
      match boundOf ρ 0 lo, boundOf ρ n hi with
      | some l, some h =>
        if l ≤ h ∧ h ≤ n ∧ c.length = n * z then
          let c' := (c.take (h * z)).drop (l * z)
          match mx with
          | none => some (.d (.sl c' (h - l)))
          | some m => match boundOf ρ 0 (some m) with
            | some m => if m = h ∧ hi.isSome ∧ n ≠ 0 then some (.full c' (h - l)) else none
            | none => none
        else none
      | _, _ => none
    | _, _ => match v, sizeT X.P e with
      | .osl id off n, some z =>
        if mx.isSome then none else
        match boundOf ρ 0 lo, boundOf ρ n hi with
        | some l, some h => if l ≤ h ∧ h ≤ n ∧ (l < n ∨ l = 0) then some (.osl id (off + l * z) (h - l)) else none
        | _, _ => none
      | _, _ => none
  | _, _ => none

/-- The address of an element. -/
def indexAddrOp (X : Ctx) (ρ : Operand → V) (t : TypeId) (x i : Operand) : Option V :=
  match ρ i with
  | .d (.int _ k) =>
    if 0 ≤ k then
      match X.P.underlying t with
      | some (.slice e) => match sizeT X.P e with
        | some z =>
          match ρ x with
          | .osl id off n => if k < n then some (.obj id (off + k.toNat * z)) else none
          | v => match v.slice? with
            | some (c, n) => if k < n ∧ c.length = n * z then some (.d (.ref c (k.toNat * z))) else none
            | none => none
        | none => none
      | some (.array n e) => match sizeT X.P e with
        | some z =>
          if k < n then
            match ρ x with
            | .obj id off => some (.obj id (off + k.toNat * z))
            | .d (.ref c off) => some (.d (.ref c (off + k.toNat * z)))
            | _ => none
          else none
        | none => none
      | _ => none
    else none
  | _ => none

def fieldAddrOp (X : Ctx) (ρ : Operand → V) (t : TypeId) (x : Operand) (f : Nat) : Option V :=
  match fieldT X.P t f with
  | some (o, ft) => match sizeT X.P ft with
    | some z =>
      if z = 0 then none else
      match ρ x with
      | .obj id off => some (.obj id (off + o))
      | .d (.ref c off) => some (.d (.ref c (off + o)))
      | _ => none
    | none => none
  | none => none

def loadOp (X : Ctx) (ρ : Operand → V) (h : List Ob) (t : TypeId) (p : Operand) : Option V :=
  match ρ p with
  | .d (.ref c off) => (partD X.P t c off).map .d
  | .obj id off => match h[id]? with
    | some (.frozen c) => (partD X.P t c off).map .d
    | some (.cells vs) => partV X.P t vs off
    | _ => none
  | _ => none

/-- The parts of an aggregate that is built, on cells of zero. -/
def fillV (place : Nat → Option (Nat × Nat)) : List V → List (Nat × V) → Option (List V)
  | cs, [] => some cs
  | cs, (i, v) :: r => match place i with
    | some (off, n) => let xs := v.copy.cells
      if v.sure ∧ xs.length = n ∧ off + n ≤ cs.length then fillV place (splice cs off xs) r else none
    | none => none

def partsV (ρ : Operand → V) (parts : Array (Nat × Operand)) : List (Nat × V) := parts.toList.map fun (i, x) => (i, ρ x)

/-- A nil slice may be appended to. -/
def nilTail (P : Program) (t : TypeId) (x : Operand) (v : V) : V :=
  match x with
  | .const (.slice none 0 0) => match elemT P t with
    | some E => .tail E [] 0
    | none => v
  | _ => v
def D.nilB : D → Bool
  | .sl [] 0 => true
  | _ => false
def openD (P : Program) (t : TypeId) (d : D) : V :=
  if d.nilB then
    match elemT P t with
    | some E => .tail E [] 0
    | none => .d d
  else .d d
/-- Of a zero value that is boxed. -/
def openZero (P : Program) (t : TypeId) (cs : List D) : List V :=
  if cs.any D.nilB then
    match P.cellTypes P.depth t with
    | some ts => if ts.length = cs.length then List.zipWith (openD P) ts cs else cs.map V.d
    | none => cs.map V.d
  else cs.map V.d

def buildOp (X : Ctx) (ρ : Operand → V) (t : TypeId) (parts : Array (Nat × Operand)) : Option V :=
  match zeroT X.P t with
  | none => none
  | some z =>
    match X.P.underlying t with
    | some (.struct fs) =>
      if fs.all fun f => (sizeT X.P f.type).isSome then
        (fillV (fun i => (fs[i]?).map fun f => (f.offset, (sizeT X.P f.type).getD 0)) (openZero X.P t z.cells) (partsV ρ parts)).map aggB
      else none
    | some (.array _ e) =>
      match sizeT X.P e with
      | some n => (fillV (fun i => some (i * n, n)) (z.cells.map .d) (partsV ρ parts)).map aggV
      | none => none
    | _ => none

def buildSliceV (X : Ctx) (ρ : Operand → V) (t : TypeId) (len : Nat) (parts : Array (Nat × Operand)) : Option (List V) :=
  match elemT X.P t with
  | none => none
  | some e => match sizeT X.P e, zeroT X.P e with
    | some n, some z =>
      if n = 0 ∨ len * n > 100000 ∨ z.cells.length ≠ n then none else
      fillV (fun i => some (i * n, n)) ((List.replicate len z.cells).flatten.map .d) (partsV ρ parts)
    | _, _ => none

def buildSliceOp (X : Ctx) (ρ : Operand → V) (t : TypeId) (len : Nat) (parts : Array (Nat × Operand)) : Option V :=
  match buildSliceV X ρ t len parts with
  | some vs => match toDs vs with
    | some ds => if ds.all D.one then some (.full ds len) else none
    | none => none
  | none => none

def copies (ρ : Operand → V) (xs : Array Operand) : List V := xs.toList.map fun x => (ρ x).copy.flat

def V.pure : V → Bool
  | .d _ | .tail .. | .full .. => true
  | _ => false

/-- The function that a value calls, and the arguments ahead and behind. -/
def calleeOf : V → Option (FuncId × List V × List V)
  | .d (.fn f) => some (f, [], [])
  | .clo (.func f) a b => some (f, a, b)
  | _ => none

def lenOp (X : Ctx) (ρ : Operand → V) (o : Oper) (x : Operand) (t : TypeId) : Option V :=
  if (elemT X.P t).isSome then
    match (ρ x).slice? with
    | some (_, n) => some (.d (.int .i64 n))
    | none => match ρ x with
      | .osl _ _ n => some (.d (.int .i64 n))
      | _ => none
  else (pureOp X ρ o).map .d

/-- Is one cell like another? -/
def eqLeaf (P : Program) (t : TypeId) : Option D → Option D → Option Bool
  | some (.int k a), some (.int k' b) => match P.underlying t with
    | some (.int _) => if k = k' then some (a == b) else none
    | _ => none
  | some (.bool a), some (.bool b) => match P.underlying t with
    | some .bool => some (a == b)
    | _ => none
  | some (.str a), some (.str b) => match P.underlying t with
    | some .string => some (a == b)
    | _ => none
  | _, _ => none
def eqFs (P : Program) (xs ys : List D) : List Field → Option Bool
  | [] => some true
  | f :: fs => if f.name = "_" then none else
    match eqLeaf P f.type xs[f.offset]? ys[f.offset]?, eqFs P xs ys fs with
    | some a, some b => some (a && b)
    | _, _ => none
/-- Structs of plain fields. -/
def eqAgg (P : Program) (t : TypeId) (xs ys : List D) : Option Bool :=
  match P.underlying t with
  | some (.struct fs) => if P.stoodInHeld t || P.eqGuardType P.depth t then none else eqFs P xs ys fs.toList
  | _ => none
def eqOp (P : Program) (op : BinOp) (t : TypeId) (x y : V) : Option Bool :=
  match op, x, y with
  | .eql, .d (.agg xs), .d (.agg ys) => eqAgg P t xs ys
  | .neq, .d (.agg xs), .d (.agg ys) => (eqAgg P t xs ys).map fun b => !b
  | _, _, _ => none

/-- An operation that turns nothing but its own temporary. -/
def valOp (X : Ctx) (call : CallF) (ρ : Operand → V) (h : List Ob) (o : Oper) : Option V :=
  match o.op with
  | .move x => some (ρ x).copy
  | .pick c a b =>
    match ρ c with
    | .d (.bool t) => some (ρ (if t then a else b)).copy
    | _ => none
  | .build t parts => buildOp X ρ t parts
  | .buildSlice t len parts => buildSliceOp X ρ t len parts
  | .load t p => loadOp X ρ h t p
  | .nilCheck x =>
    match ρ x with
    | .obj id off => some (.obj id off)
    | .d (.ref c off) => some (.d (.ref c off))
    | .d (.fn f) => some (.d (.fn f))
    | .clo (.func f) a b => some (.clo (.func f) a b)
    | _ => none
  | .binOp op t x y _ =>
    if unlike X.P t (ρ x) (ρ y) then
      match op with
      | .eql => some (.d (.bool false))
      | .neq => some (.d (.bool true))
      | _ => none
    else match eqOp X.P op t (ρ x) (ρ y) with
      | some b => some (.d (.bool b))
      | none => (pureOp X ρ o).map .d
  | .unOp .. => (pureOp X ρ o).map .d
  | .convert .. => (pureOp X ρ o).map .d
  | .makeFunc fn first cap => some (.clo fn (copies ρ first) (copies ρ cap))
  | .slice t x lo hi mx => sliceOp X ρ t x lo hi mx
  | .fieldAddr t x f => fieldAddrOp X ρ t x f
  | .field t x f =>
    match fieldT X.P t f, ρ x with
    | some (off, ft), .d (.agg cs) => (partD X.P ft cs off).map .d
    | some (off, ft), .agg vs => partV X.P ft vs off
    | _, _ => none
  | .indexAddr t x i => indexAddrOp X ρ t x i
  | .index t x i =>
    match X.P.underlying t, ρ x, ρ i with
    | some (.array n e), .d (.agg cs), .d (.int _ k) =>
      match sizeT X.P e with
      | some z => if 0 ≤ k ∧ k < n then (partD X.P e cs (k.toNat * z)).map .d else none
      | none => none
    | some .string, .d (.str s), .d (.int _ k) =>
      if 0 ≤ k then (s[k.toNat]?).map fun b => .d (.int .u8 b.toNat) else none
    | _, _, _ => none
  | .extract x i =>
    match ρ x with
    | .d (.tup ds) => (ds[i]?).map .d
    | .tup vs => (vs[i]?).map V.copy
    | _ => none
  | .call c =>
    match c.callee with
    | .builtin .len => match c.args.toList, c.argTypes.toList with
      | [x], [t] => lenOp X ρ o x t
      | _, _ => none
    | .builtin .min => (pureOp X ρ o).map .d
    | .builtin .max => (pureOp X ρ o).map .d
    | .value f =>
      match calleeOf (ρ f) with
      | some (g, a, b) =>
        let args := a ++ copies ρ c.args ++ b
        if args.all V.pure then call.p g args else none
      | none => none
    | _ => none
  | _ => none

/-- A store into a box; into an elder one only what is pure. -/
def storeOp (X : Ctx) (base : Nat) (st : St) (t : TypeId) (p x : Operand) : Option St :=
  match st.get X p, sizeT X.P t with
  | .obj id off, some n =>
    match st.h[id]? with
    | some (.cells vs) =>
      let xs := (st.get X x).cells
      if (st.get X x).sure ∧ xs.length = n ∧ off + n ≤ vs.length ∧ xs.all V.one ∧ (base ≤ id ∨ (toDs xs).isSome) then
        let st := match x with
          | .tmp ts => locCopy st (.slot ts)
          | _ => st
        some { s := st.s, h := st.h.set id (.cells (splice vs off xs)), og := st.og.filter fun y => match y.2 with | .cell i _ => i != id | _ => true }
      else none
    | _ => none
  | _, _ => none

def makeSliceOp (X : Ctx) (st : St) (t : TypeId) (l c : Operand) : Option (V × List Ob) :=
  match elemT X.P t, intOfV (st.get X l), intOfV (st.get X c) with
  | some e, some (_, l), some (_, c) =>
    match X.P.info? e, zeroT X.P e with
    | some i, some z =>
      if 0 ≤ l ∧ l ≤ c ∧ c * i.bytes ≤ bigLen ∧ c ≤ bigLen ∧ i.size ≠ 0 ∧ z.cells.length = i.size then
        if l = 0 then some (.tail e [] 0, st.h)
        else if l = c then some (.osl st.h.length 0 l.toNat, st.h ++ [.cells ((List.replicate l.toNat z.cells).flatten.map .d)])
        else none
      else none
    | _, _ => none
  | _, _, _ => none


/-- One operation. 'base': boxes from there on are the call's own. -/
def stepOp (X : Ctx) (call : CallF) (base : Nat) (o : Oper) (st : St) : Option St :=
  match valOp X call (st.get X) st.h o with
  | some v =>
    match o.op with
    | .move (.tmp t) => some (setOg (st.put o.dst v) o.dst (.slot t))
    | .load t p => match isAggT X.P t, st.get X p with
      | false, .obj id off => some (setOg (st.put o.dst v) o.dst (.cell id off))
      | _, _ => some (st.put o.dst v)
    | _ => some (st.put o.dst v)
  | none =>
    match o.op with
    | .assign x =>
      match x with
      | .tmp t => some ((locCopy st (.slot t)).put o.dst (st.get X x))
      | _ => some (st.put o.dst (nilTail X.P o.type x (st.get X x)))
    | .alloc t =>
      match zeroT X.P t with
      | some z => if z.cells.all D.one then some ({ st with h := st.h ++ [Ob.cells (openZero X.P t z.cells)] }.put o.dst (.obj st.h.length 0)) else none
      | none => none
    | .box _ x =>
      let vs := (st.get X x).copy.cells
      if (st.get X x).sure && vs.all V.one then some ({ st with h := st.h ++ [Ob.cells vs] }.put o.dst (.obj st.h.length 0)) else none
    | .store t p x => (storeOp X base st t p x).map fun s => s.put o.dst undefV
    | .call c =>
      match c.callee with
      | .builtin .append =>
        match c.args.toList, c.argTypes.toList with
        | [s, x], [t, u] => (appendOp X st t u s x).map fun r => r.1.put o.dst r.2
        | _, _ => none
      | .value f =>
        match calleeOf (st.get X f) with
        | some (g, a, b) => (call.i g (a ++ copies (st.get X) c.args ++ b) st.h).map fun r => { s := st.s, h := r.2, og := [] : St }.put o.dst r.1
        | none => none
      | _ => none
    | _ => none

/- OPERATIONS OF A SECOND ROW: iterators over strings, maps, slices that are made, interfaces, conversions of bytes. -/
def ogBut (id : Nat) (og : List (Nat × Loc)) : List (Nat × Loc) := og.filter fun y => match y.2 with | .cell i _ => i != id | _ => true
def isSliceT (P : Program) (t : TypeId) : Bool :=
  match P.underlying t with
  | some (.slice _) => true
  | _ => false
def isMapT (P : Program) (t : TypeId) : Bool :=
  match P.underlying t with
  | some (.map _ _) => true
  | _ => false
def isNew (P : Program) (o : Oper) : Bool :=
  match o.op with
  | .range .. | .next .. | .makeMap .. | .lookup .. | .mapUpdate .. | .insert .. | .makeInterface .. | .typeAssert .. | .makeSlice .. => true
  | .convert s t _ => isSliceT P s || isSliceT P t
  | .call c => match c.callee with
    | .builtin .copy => true
    | .builtin .len => match c.argTypes.toList with
      | [t] => isMapT P t
      | _ => false
    | _ => false
  | _ => false

def keyOk (P : Program) (kt : TypeId) (d : D) : Bool :=
  match P.underlying kt, d with
  | some (.int k), .int k' _ => k' == k
  | some .string, .str _ => true
  | some .bool, .bool _ => true
  | _, _ => false
def keySame : D → D → Option Bool
  | .int k a, .int k' b => if k = k' then some (a == b) else none
  | .str a, .str b => some (a == b)
  | .bool a, .bool b => some (a == b)
  | _, _ => none
def mapFind (k : D) : List (D × D) → Nat → Option (Option (Nat × D))
  | [], _ => some none
  | e :: es, i => match keySame k e.1 with
    | some true => some (some (i, e.2))
    | some false => mapFind k es (i + 1)
    | none => none
def mapOf (h : List Ob) : V → Option (List (D × D))
  | .mp id => match h[id]? with
    | some (.map es _) => some es
    | _ => none
  | .d .nilmp => some []
  | _ => none
/-- What a map of such entries has of a key. -/
def lookV (X : Ctx) (t : TypeId) (es : Option (List (D × D))) (k : V) (ok : Bool) : Option V :=
  match X.P.underlying t with
  | some (.map kt et) => match es, k with
    | some es, .d kd =>
      if keyOk X.P kt kd then
        match mapFind kd es 0 with
        | some (some (_, v)) => some (if ok then .d (.tup [v, .bool true]) else .d v)
        | some none => (zeroT X.P et).map fun z => if ok then .d (.tup [z, .bool false]) else .d z
        | none => none
      else none
    | _, _ => none
  | _ => none
def mapGet (X : Ctx) (st : St) (t : TypeId) (x k : Operand) (ok : Bool) : Option V := lookV X t (mapOf st.h (st.get X x)) (st.get X k) ok
def mapSet (X : Ctx) (st : St) (t : TypeId) (m k x : Operand) : Option St :=
  match X.P.underlying t with
  | some (.map kt _) => match st.get X m, st.get X k, (st.get X x).toD with
    | .mp id, .d kd, some xd => match st.h[id]? with
      | some (.map es ck) =>
        if keyOk X.P kt kd then
          match mapFind kd es 0 with
          | some (some (i, _)) => some { s := st.s, h := st.h.set id (.map (es.set i (kd, xd)) ck), og := ogBut id st.og }
          | some none => some { s := st.s, h := st.h.set id (.map (es ++ [(kd, xd)]) (ck + 1)), og := ogBut id st.og }
          | none => none
        else none
      | _ => none
    | _, _, _ => none
  | _ => none

/-- Bytes as text. -/
def bytesOf : List D → Option (List UInt8)
  | [] => some []
  | .int .u8 n :: r => match bytesOf r with
    | some l => some (UInt8.ofNat n.toNat :: l)
    | none => none
  | _ => none

/-- Bytes to text, and text to bytes. -/
def convV (X : Ctx) (s t : TypeId) (x : V) : Option V :=
  match X.P.underlying s, X.P.underlying t with
  | some (.slice e), some .string => match X.P.underlying e, x.slice? with
    | some (.int .u8), some (c, n) => if c.length = n then (bytesOf c).map fun l => .d (.str l) else none
    | _, _ => none
  | some .string, some (.slice e) => match X.P.underlying e, x with
    | some (.int .u8), .d (.str l) => if sizeT X.P e = some 1 ∧ l.length ≤ bigLen then some (.d (.sl (l.map fun b => .int .u8 b.toNat) l.length)) else none
    | _, _ => none
  | _, _ => none

def assertOp (X : Ctx) (st : St) (x : Operand) (t : TypeId) (ok : Bool) : Option V :=
  match X.P.underlying t with
  | some (.interface _) | none => none
  | some _ => match st.get X x with
    | .d (.ifc u v) =>
      if u = t then some (if ok then .d (.tup [v, .bool true]) else .d v)
      else if ok then (zeroT X.P t).map fun z => .d (.tup [z, .bool false]) else none
    | .d .nilifc => if ok then (zeroT X.P t).map fun z => .d (.tup [z, .bool false]) else none
    | _ => none

/-- The cells that 'copy' reads: so many elements of so many cells. -/
def copySrc (h : List Ob) (z : Nat) (v : V) : Option (List V × Nat) :=
  match v with
  | .d (.str s) => if z = 1 then some (s.map fun b => .d (.int .u8 b.toNat), s.length) else none
  | .osl id off n => match h[id]? with
    | some (.cells vs) => if off + n * z ≤ vs.length then some (((vs.drop off).take (n * z)).map V.copy, n) else none
    | _ => none
  | v => match v.slice? with
    | some (c, n) => if c.length = n * z then some (c.map .d, n) else none
    | none => none

def stepNew (X : Ctx) (base : Nat) (st : St) (o : Oper) : Option St :=
  match o.op with
  | .range t x => match X.P.underlying t, st.get X x with
    | some .string, .d (.str s) => some ({ st with h := st.h ++ [Ob.iter s 0] }.put o.dst (.it st.h.length))
    | _, _ => none
  | .next it true => match st.get X it with
    | .it id => match st.h[id]? with
      | some (.iter s pos) =>
        some (if pos < s.length then { s := st.s, h := st.h.set id (.iter s (pos + (Utf8.decode ⟨s.toArray⟩ pos).2)), og := ogBut id st.og : St }.put o.dst (.d (.tup [.bool true, .int .i64 pos, .int .i32 (Utf8.decode ⟨s.toArray⟩ pos).1]))
          else st.put o.dst (.d (.tup [.bool false])))
      | _ => none
    | _ => none
  | .makeMap t x => match X.P.underlying t with
    | some (.map _ _) => match x.map (st.get X) with
      | none | some (.d (.int _ _)) => some ({ st with h := st.h ++ [Ob.map [] 0] }.put o.dst (.mp st.h.length))
      | _ => none
    | _ => none
  | .lookup t x k ok => (mapGet X st t x k ok).map fun v => st.put o.dst v
  | .mapUpdate t m k x | .insert t m k x => (mapSet X st t m k x).map fun s => s.put o.dst undefV
  | .makeInterface t x => match X.P.underlying t with
    | some (.interface _) | none => none
    | some _ => (st.get X x).toD.map fun d => st.put o.dst (.d (.ifc t d))
  | .typeAssert x _ t ok => (assertOp X st x t ok).map fun v => st.put o.dst v
  | .makeSlice t l c => (makeSliceOp X st t l c).map fun r => { st with h := r.2 }.put o.dst r.1
  | .convert s t x => (convV X s t (st.get X x)).map fun v => st.put o.dst v
  | .call c => match c.callee with
    | .builtin .copy => match c.args.toList, c.argTypes.toList with
      | [d, x], [t, _] => match elemT X.P t, st.get X d with
        | some e, .osl id off n => match sizeT X.P e, st.h[id]? with
          | some z, some (.cells vs) => match copySrc st.h z (st.get X x) with
            | some (cs, m) =>
              let k := min m n
              let xs := cs.take (k * z)
              if off + n * z ≤ vs.length ∧ xs.all V.one ∧ (base ≤ id ∨ (toDs xs).isSome) then
                some ({ s := st.s, h := st.h.set id (.cells (splice vs off xs)), og := ogBut id st.og : St }.put o.dst (.d (.int .i64 k)))
              else none
            | none => none
          | _, _ => none
        | _, _ => none
      | _, _ => none
    | .builtin .len => match c.args.toList with
      | [x] => (mapOf st.h (st.get X x)).map fun es => st.put o.dst (.d (.int .i64 es.length))
      | _ => none
    | _ => none
  | _ => none

/-- One operation, of both rows. -/
def stepAll (X : Ctx) (call : CallF) (base : Nat) (o : Oper) (st : St) : Option St :=
  if isNew X.P o then stepNew X base st o else stepOp X call base o st

def guardOf (X : Ctx) (ops : Array Oper) (st : St) (o : Oper) : Option Bool :=
  match o.guard with
  | none => some true
  | some (j, want) => match (ops[j]?).bind (·.dst) with
    | none => none
    | some t => match st.get X (.tmp t) with
      | .d (.bool b) => some (b == want)
      | .d (.tup []) => some false
      | _ => none

def dstOk (N : Nat) (o : Oper) : Bool :=
  match o.dst with
  | some t => decide (t < N)
  | none => true

def runOps (X : Ctx) (call : CallF) (base N : Nat) (ops : Array Oper) : List Oper → St → Option St
  | [], st => some st
  | o :: r, st =>
    if dstOk N o then
      match guardOf X ops st o with
      | some true => match stepAll X call base o st with
        | some st => runOps X call base N ops r st
        | none => none
      | some false => runOps X call base N ops r (st.put o.dst undefV)
      | none => none
    else none

/-- What an operation waits for itself. -/
def directs (o : Oper) : List Nat := o.after.toList.filterMap fun e => if Region.binds .any e then some e.on else none
/-- What an operation waits for at all, as a mask, of those ahead. -/
def maskOf (ms : List Nat) (o : Oper) : Nat := (directs o).foldl (fun m j => m ||| (1 <<< j) ||| ms.getD j 0) 0
def masks : List Oper → List Nat → List Nat
  | [], ms => ms
  | o :: r, ms => masks r (ms ++ [maskOf ms o])
/-- A copy of a slot that no operation writes: it may come first. -/
def freeMv (ops : Array Oper) (j : Nat) : Bool :=
  match ops[j]? with
  | some o => (match o.op with
    | .move (.tmp t) => !(ops.toList.any fun p => p.dst == some t)
    | _ => false) && o.guard.isNone && o.after.size == 0 && o.dst.isSome && Region.free .any ops (Array.replicate ops.size false) j
  | none => false
def freesOf (ops : Array Oper) : List Nat := if Region.noSelect ops then (List.range ops.size).filter (freeMv ops) else []
def maskL (l : List Nat) : Nat := l.foldl (fun m j => m ||| (1 <<< j)) 0
def fullAt (F m i : Nat) : Bool := (m ||| F) &&& ((1 <<< i) - 1) == (1 <<< i) - 1
/-- How many there are at the end that wait for all ahead of them (but those that may come first). -/
def fulls (F n : Nat) : List Nat → Nat
  | [] => 0
  | m :: r => if fullAt F m (n - 1) then fulls F (n - 1) r + 1 else 0
def drawF (ops : Array Oper) (F : List Nat) : Option (Nat × List Nat) :=
  let ms := masks ops.toList []
  let k := ops.size - fulls (maskL F) ops.size ms.reverse
  let F := F.filter fun j => decide (j < k)
  let A := (ops.toList.take k).zipIdx
  if (ops.toList.zipIdx.all fun x => (directs x.1).all fun j => decide (j < x.2)) &&
     (A.all fun x => A.all fun y => match y.1.dst with
       | some t => (!(x.1.looksAt ops).contains t || (decide (y.2 < x.2) && (ms.getD x.2 0).testBit y.2)) && (x.2 == y.2 || x.1.dst != some t)
       | none => true) &&
     ((ops.toList.zipIdx.drop k).all fun x => fullAt (maskL F) (ms.getD x.2 0) x.2)
  then some (k, F) else none
/-- The order of a region that draws: from operation k on each one waits for all that are ahead of it, but those that may come first; what the others look at that they write themselves they wait for. -/
def drawOk (ops : Array Oper) : Option Nat :=
  match drawF ops (freesOf ops) with
  | some r => some r.1
  | none => (drawF ops []).map (·.1)

def V.low0 (n : Nat) : V → Bool
  | .d _ | .full .. => true
  | .obj id _ => decide (id < n)
  | _ => false
def V.low (n : Nat) : V → Bool
  | .d _ | .tail .. | .full .. => true
  | .obj id _ | .osl id _ _ | .mp id | .it id => decide (id < n)
  | .clo _ a b => a.all (V.low0 n) && b.all (V.low0 n)
  | _ => false
def Ob.low (n : Nat) : Ob → Bool
  | .cells vs => vs.all (V.low n)
  | _ => true

/-- What one of the first operations comes to. -/
structure Rec where
  v : V
  og : Option Loc
  ob : List Ob
  /-- what the first boxes have become -/
  fr : List Ob

/-- How many boxes, from the first on, a call can reach. -/
def reach (h : List Ob) (args : List V) : Option Nat := (List.range (h.length + 1)).find? fun m => args.all (V.low m) && (h.take m).all (Ob.low m)
/-- A call on boxes that answers what is plain and makes none. -/
def callA (call : CallF) (h0 : List Ob) (ρ : Operand → V) (o : Oper) : Option (V × List Ob) :=
  match o.op with
  | .call c => match c.callee with
    | .value f => match calleeOf (ρ f) with
      | some (g, a, b) => if (a ++ copies ρ c.args ++ b).all V.pure then none else
        match reach h0 (a ++ copies ρ c.args ++ b) with
        | some m => match call.i g (a ++ copies ρ c.args ++ b) (h0.take m) with
          | some (v, h1) => if v.pure && h1.length == m && m != 0 then some (v, h1) else none
          | none => none
        | none => none
      | none => none
    | _ => none
  | _ => none
/-- The box that a load reads. -/
def ldOf (ρ : Operand → V) (o : Oper) : Option Nat :=
  match o.op with
  | .load _ p => match ρ p with
    | .obj id _ => some id
    | _ => none
  | _ => none
/-- Which boxes it turns. -/
def touches (ρ : Operand → V) (o : Oper) (rc : Rec) : List Nat :=
  match o.op with
  | .store _ p _ => match ρ p with
    | .obj id _ => [id]
    | _ => []
  | _ => List.range rc.fr.length
/-- The number; the last one ahead that was not plain; which boxes were turned, which were read. -/
structure Bk where
  i : Nat
  np : Option Nat
  tch : List Nat
  lds : List Nat
def Rec.plainB (r : Rec) : Bool := r.fr.isEmpty && r.ob.isEmpty
/-- May it stand behind that one? -/
def behindNp (ops : Array Oper) (o : Oper) (q : Bk) : Bool :=
  match q.np with
  | none => true
  | some j => (match o.op with | .call _ => false | _ => true) && ((masks ops.toList []).getD q.i 0).testBit j
/-- What is read must not be turned beside it; those that turn something come in one order. -/
def beside (ops : Array Oper) (ρ : Operand → V) (o : Oper) (rc : Rec) (q : Bk) : Option Bk :=
  if rc.plainB then
    match ldOf ρ o with
    | some id => if q.tch.contains id then none else some ⟨q.i + 1, q.np, q.tch, id :: q.lds⟩
    | none => some ⟨q.i + 1, q.np, q.tch, q.lds⟩
  else if behindNp ops o q && !((touches ρ o rc).any q.lds.contains) then some ⟨q.i + 1, some q.i, touches ρ o rc ++ q.tch, q.lds⟩
  else none

def recA (X : Ctx) (call : CallF) (ops : Array Oper) (h0 : List Ob) (o : Oper) (st : St) : Option Rec :=
  match guardOf X ops st o with
  | some false => some ⟨undefV, none, [], []⟩
  | some true =>
    match valOp X call (st.get X) h0 o with
    | some v =>
      match o.op with
      | .move (.tmp t) => some ⟨v, some (.slot t), [], []⟩
      | .load t p => match isAggT X.P t, st.get X p with
        | false, .obj id off => some ⟨v, some (.cell id off), [], []⟩
        | _, _ => some ⟨v, none, [], []⟩
      | _ => some ⟨v, none, [], []⟩
    | none =>
      match o.op with
      | .alloc t => match zeroT X.P t with
        | some z => if z.cells.all D.one && st.h.length == h0.length then some ⟨.obj h0.length 0, none, [Ob.cells (openZero X.P t z.cells)], []⟩ else none
        | none => none
      | .assign x => some ⟨(st.get X x).copy, none, [], []⟩
      | .store t p x => match st.get X p, sizeT X.P t with
        | .obj id off, some n => match st.h[id]? with
          | some (.cells vs) =>
            if (st.get X x).sure = true ∧ (st.get X x).isTail = false ∧ (st.get X x).cells.length = n ∧ off + n ≤ vs.length ∧ (st.get X x).cells.all V.one = true ∧ (toDs (st.get X x).cells).isSome = true
            then some ⟨undefV, none, [], st.h.take id ++ [.cells (splice vs off (st.get X x).cells)]⟩ else none
          | _ => none
        | _, _ => none
      | .call _ => if st.h.length == h0.length then (callA call h0 (st.get X) o).map fun r => ⟨r.1, none, [], r.2⟩ else none
      | _ => none
  | none => none

/-- The boxes behind it. -/
def Rec.eff (r : Rec) (h : List Ob) : List Ob := (match r.fr with | [] => h | _ :: _ => r.fr ++ h.drop r.fr.length) ++ r.ob
def Rec.on (r : Rec) (dst : Option Tmp) (st : St) : St :=
  match r.og with
  | some l => setOg ({ st with h := r.eff st.h }.put dst r.v) dst l
  | none => { st with h := r.eff st.h }.put dst r.v

def runA (X : Ctx) (call : CallF) (N : Nat) (ops : Array Oper) (h0 : List Ob) : List Oper → Bk → St → Option St
  | [], _, st => some st
  | o :: r, q, st =>
    if dstOk N o then
      match recA X call ops h0 o st with
      | some rc => match beside ops (st.get X) o rc q with
        | some q => runA X call N ops h0 r q (rc.on o.dst st)
        | none => none
      | none => none
    else none

/-- Does each operation wait for earlier ones alone, whatever the reading? -/
def backAll (ops : Array Oper) : Bool := ops.toList.zipIdx.all fun x => x.1.after.toList.all fun e => decide (e.on < x.2)

/-- An order in which each comes behind those that it waits for. -/
def waitsIn (md : Region.Mode) (ops : Array Oper) (L : List Nat) (i : Nat) : Bool :=
  match ops[i]? with
  | some o => o.after.toList.all fun e => !Region.binds md e || L.contains e.on
  | none => false
def topo (md : Region.Mode) (ops : Array Oper) : Nat → List Nat → List Nat
  | 0, L => L
  | k + 1, L => match (List.range ops.size).find? fun i => !L.contains i && waitsIn md ops L i with
    | some i => topo md ops k (i :: L)
    | none => L
def topoOk (md : Region.Mode) (ops : Array Oper) : List Nat → Bool
  | [] => true
  | i :: r => waitsIn md ops r i && topoOk md ops r
def prog (md : Region.Mode) (ops : Array Oper) : Bool :=
  topoOk md ops (topo md ops ops.size []) && (List.range ops.size).all fun i => (topo md ops ops.size []).contains i
/-- Is every operation carried out, in whatever reading? -/
def drawGo (X : Ctx) (ops : Array Oper) : Bool := X.P.follows .mixedOrders || !Region.departs ops || backAll ops || (prog .text ops && prog .gc ops)

def bk0 : Bk := ⟨0, none, [], []⟩
def runDraw (X : Ctx) (call : CallF) (base N : Nat) (ops : Array Oper) (k : Nat) (st : St) : Option St :=
  if drawGo X ops then
    match runA X call N ops st.h (ops.toList.take k) bk0 st with
    | some st => runOps X call base N ops (ops.toList.drop k) st
    | none => none
  else none

/- What is read ahead of being written. Masks are numbers. -/
def opUses (o : Op) (m : Nat) : Nat := o.operands.toList.foldl (fun m x => match x with | .tmp t => m ||| (1 <<< t) | _ => m) m
def clearBit (m t : Nat) : Nat := if m.testBit t then m ^^^ (1 <<< t) else m
def liveOps (ops : Array Oper) (out : Nat) : Nat :=
  ops.toList.foldr (fun o m =>
    let m := match o.dst with
      | some t => clearBit m t
      | none => m
    let m := match o.guard with
      | some (j, _) => match (ops[j]?).bind (·.dst) with
        | some t => m ||| (1 <<< t)
        | none => m
      | none => m
    opUses o.op m) out

/-- The code, with the slots that are read from a place on. -/
inductive AC where
  | skip
  | region (ops : Array Oper) (keep : List Nat)
  | draw (ops : Array Oper) (k : Nat) (keep : List Nat)
  | seq (a b : AC)
  | cond (c : Operand) (a b : AC)
  | block (id : Nat) (b : AC)
  | loop (keep : List Nat) (b : AC)
  | exit (id : Nat)
  | ret
  | bad

def bitsOf (n m : Nat) : List Nat := (List.range n).filter fun t => m.testBit t

def exLook (id dflt : Nat) : List (Nat × Nat) → Nat
  | [] => dflt
  | (i, m) :: r => if i == id then m else exLook id dflt r

/-- The annotated code, and what is read from its beginning on; 'nx': behind it, 'ex': behind an exit. -/
def annot (n all rets : Nat) : Code → Nat → List (Nat × Nat) → AC × Nat
  | .skip, nx, _ => (.skip, nx)
  | .region _ ops false, nx, _ => (.region ops (bitsOf n nx), liveOps ops nx)
  | .region _ ops true, nx, _ => (match drawOk ops with | some k => .draw ops k (bitsOf n nx) | none => .bad, liveOps ops nx)
  | .seq a b, nx, ex =>
    let rb := annot n all rets b nx ex
    let ra := annot n all rets a rb.2 ex
    (.seq ra.1 rb.1, ra.2)
  | .cond c a b, nx, ex =>
    let ra := annot n all rets a nx ex
    let rb := annot n all rets b nx ex
    (.cond c ra.1 rb.1, (match c with | .tmp t => 1 <<< t | _ => 0) ||| ra.2 ||| rb.2)
  | .block id b, nx, ex => let r := annot n all rets b nx ((id, nx) :: ex); (.block id r.1, r.2)
  | .loop b, _, ex =>
    let m := (annot n all rets b 0 ex).2
    let m := (annot n all rets b m ex).2
    let r := annot n all rets b m ex
    (.loop (bitsOf n m) r.1, m)
  | .exit id, _, ex => (.exit id, exLook id all ex)
  | .scope b, nx, ex => annot n all rets b nx ex
  | .label _, nx, _ => (.skip, nx)
  | .ret, _, _ => (.ret, rets)
  | .rangeFunc .., _, _ | .goto _, _, _ | .refuse _, _, _ => (.bad, all)

/-- What is not read any more is forgotten. -/
def keepS (keep : List Nat) (s : List (Nat × V)) : List (Nat × V) := keep.map fun t => (t, lookT t s)

/-- At a loop's head: boxes, too. -/
def clean (keep : List Nat) (n : Nat) (st : St) : St :=
  let s := keepS keep st.s
  if s.all (fun x => V.low n x.2) && (st.h.take n).all (Ob.low n) then { s := s, h := st.h.take n, og := [] } else { s := s, h := st.h, og := [] }

inductive Ex where
  | nrm
  | exit (id : Nat)
  | ret

def loopN (body : St → Option (Ex × St)) (keep : List Nat) (n : Nat) : Nat → St → Option (Ex × St)
  | 0, _ => none
  | k + 1, st => match body (clean keep n st) with
    | some (.nrm, st) => loopN body keep n k st
    | r => r

def exec (X : Ctx) (call : CallF) (base N fuel : Nat) : AC → St → Option (Ex × St)
  | .skip, st => some (.nrm, st)
  | .region ops keep, st =>
    match runOps X call base N ops ops.toList { st with og := [] } with
    | some st => some (.nrm, { st with s := keepS keep st.s, og := [] })
    | none => none
  | .draw ops k keep, st =>
    match runDraw X call base N ops k { st with og := [] } with
    | some st => some (.nrm, { st with s := keepS keep st.s, og := [] })
    | none => none
  | .seq a b, st => match exec X call base N fuel a st with
    | some (.nrm, st) => exec X call base N fuel b st
    | r => r
  | .cond c a b, st => match st.get X c with
    | .d (.bool true) => exec X call base N fuel a st
    | .d (.bool false) => exec X call base N fuel b st
    | _ => none
  | .block id b, st => match exec X call base N fuel b st with
    | some (.exit i, st) => some (if i = id then .nrm else .exit i, st)
    | r => r
  | .loop keep b, st => loopN (fun st => exec X call base N fuel b st) keep st.h.length fuel st
  | .exit id, st => some (.exit id, st)
  | .ret, st => some (.ret, st)
  | .bad, _ => none

/-- One result. -/
def resultOf (X : Ctx) (st : St) : ResultVar → Option V
  | .tmp t => some (lookT t st.s).flat
  | .cell a t => match lookT a st.s with
    | .obj id off => match st.h[id]? with
      | some (.cells vs) => partV X.P t vs off
      | some (.frozen ds) => (partD X.P t ds off).map .d
      | _ => none
    | .d (.ref c off) => (partD X.P t c off).map .d
    | _ => none

def frzRes (X : Ctx) (t : TypeId) (h : List Ob) (v : V) : Option (V × List Ob) :=
  if X.frz t then
    match v with
    | .obj .. | .osl .. => match freeze h v with
      | some r => some (.d r.1, r.2)
      | none => some (v, h)
    | _ => some (v, h)
  else some (v, h)

def frzAll (X : Ctx) : List TypeId → List Ob → List V → Option (List V × List Ob)
  | t :: ts, h, v :: vs => match frzRes X t h v.copy with
    | some (v, h) => match frzAll X ts h vs with
      | some (vs, h) => some (v :: vs, h)
      | none => none
    | none => none
  | _, h, [] => some ([], h)
  | [], _, _ :: _ => none

def resultsOf (X : Ctx) (st : St) : List ResultVar → Option (List V)
  | [] => some []
  | r :: rs => match resultOf X st r, resultsOf X st rs with
    | some v, some vs => some (v :: vs)
    | _, _ => none

def results (X : Ctx) (fn : Func) (st : St) : Option (V × List Ob) :=
  match fn.results.toList, fn.resultTypes.toList with
  | [r], [t] => match resultOf X st r with
    | some v => frzRes X t st.h v
    | none => none
  | [_], _ => none
  | rs, ts => match resultsOf X st rs with
    | some vs => (frzAll X ts st.h vs).map fun r => (match toDs r.1 with | some ds => .d (.tup ds) | none => .tup r.1, r.2)
    | none => none

def retMask (fn : Func) : Nat := fn.results.toList.foldl (fun m r => m ||| (1 <<< (match r with | .tmp t => t | .cell a _ => a))) 0

def argEnv : Nat → List V → List (Nat × V)
  | _, [] => []
  | n, v :: vs => (n, v) :: argEnv (n + 1) vs

def annotFn (fn : Func) (c : Code) : AC := (annot fn.ntmps ((1 <<< fn.ntmps) - 1) (retMask fn) c (retMask fn) []).1

/-- A function's body on its arguments and the boxes that it can reach. -/
def bodyOn (X : Ctx) (call : CallF) (fuel : Nat) (fn : Func) (c : Code) (args : List V) (h : List Ob) : Option (V × List Ob) :=
  match exec X call h.length fn.ntmps fuel (annotFn fn c) { s := argEnv 0 args, h := h, og := [] } with
  | some (.nrm, st) => results X fn st
  | some (.ret, st) => results X fn st
  | _ => none

mutual
def V.shift (n : Nat) : V → V
  | .obj id off => .obj (n + id) off
  | .osl id off k => .osl (n + id) off k
  | .mp id => .mp (n + id)
  | .it id => .it (n + id)
  | .clo f a b => .clo f (shifts n a) (shifts n b)
  | .agg vs => .agg (shifts n vs)
  | .tup vs => .tup (shifts n vs)
  | v => v
def shifts (n : Nat) : List V → List V
  | [] => []
  | v :: vs => V.shift n v :: shifts n vs
end
def Ob.shift (n : Nat) : Ob → Ob
  | .cells vs => .cells (shifts n vs)
  | o => o

/-- A function on what is all plain: it runs on no boxes but its own. -/
def runP (X : Ctx) (call : CallF) (fuel : Nat) (g : FuncId) (args : List V) : Option (V × List Ob) :=
  match X.ext g with
  | some F => match toDs args with
    | some ds => (F ds).map fun v => (v, [])
    | none => none
  | none =>
    match X.P.funcs[g]? with
    | none => none
    | some fn => match fn.body with
      | none => none
      | some c => if fn.name == "runtime.NumGoroutine" then none else bodyOn X call fuel fn c (args.map V.copy) []

/-- What a function on boxes answers that is not run. -/
def xiOf (X : Ctx) (g : FuncId) (args : List V) (h : List Ob) : Option (Option (V × List Ob)) :=
  if args.all V.pure then none else
  match X.exti g with
  | none => none
  | some F => some (match F args h with
    | some (v, h') => if v.pure && h'.length == h.length then some (v, h') else none
    | none => none)

/-- A function on any arguments, on the boxes that there are. -/
def runI (X : Ctx) (call : CallF) (fuel : Nat) (g : FuncId) (args : List V) (h : List Ob) : Option (V × List Ob) :=
  match xiOf X g args h with
  | some r => r
  | none =>
  match X.P.funcs[g]? with
  | none => none
  | some fn => match fn.body with
    | none => none
    | some c => if fn.name == "runtime.NumGoroutine" || (X.ext g).isSome then none else
      match bodyOn X call fuel fn c (args.map V.copy) h with
      | some (v, h') => if v.pure then some (v, h'.take h.length) else some (v, h')
      | none => none

def callN (X : Ctx) (fuel : Nat) : Nat → CallF
  | 0 => ⟨fun _ _ => none, fun _ _ _ => none⟩
  | k + 1 =>
    { p := fun g args => match runP X (callN X fuel k) fuel g args with
        | some (v, _) => if v.pure then some v else none
        | none => none
      i := fun g args h => if args.all V.pure then
          match runP X (callN X fuel k) fuel g args with
          | some (v, h') => some (v.shift h.length, h ++ h'.map (Ob.shift h.length))
          | none => none
        else runI X (callN X fuel k) fuel g args h }

end Go.Proofs.YtpbhfbphefmchaaDoor.Pv
/- Compare: plain: runes out of bytes: the model's way and the reference's are one. -/
set_option linter.unusedVariables false
set_option linter.unusedSimpArgs false
namespace Go.Proofs.YtpbhfbphefmchaaDoor.Cmp
open Go
abbrev Str := List UInt8
/-- The k'th byte; 0 behind the end. -/
def by_ (t : Str) (k : Nat) : Nat := (t.getD k 0).toNat
theorem by_lt (t : Str) (k : Nat) : by_ t k < 256 := UInt8.toNat_lt _
def cont (t : Str) (k : Nat) : Bool := decide (k < t.length) && by_ t k / 64 == 2
/-- What the model reads at a text's beginning. -/
def decL (t : Str) : Nat × Nat :=
  if by_ t 0 < 128 then (by_ t 0, 1)
  else if (by_ t 0 / 32 == 6 && cont t 1) = true then
    if (by_ t 0 % 32) * 64 + by_ t 1 % 64 ≥ 128 then ((by_ t 0 % 32) * 64 + by_ t 1 % 64, 2) else (65533, 1)
  else if (by_ t 0 / 16 == 14 && cont t 1 && cont t 2) = true then
    if (decide ((by_ t 0 % 16) * 4096 + (by_ t 1 % 64) * 64 + by_ t 2 % 64 ≥ 2048) && Utf8.valid (((by_ t 0 % 16) * 4096 + (by_ t 1 % 64) * 64 + by_ t 2 % 64 : Nat) : Int)) = true then ((by_ t 0 % 16) * 4096 + (by_ t 1 % 64) * 64 + by_ t 2 % 64, 3) else (65533, 1)
  else if (by_ t 0 / 8 == 30 && cont t 1 && cont t 2 && cont t 3) = true then
    if (decide ((by_ t 0 % 8) * 262144 + (by_ t 1 % 64) * 4096 + (by_ t 2 % 64) * 64 + by_ t 3 % 64 ≥ 65536) && Utf8.valid (((by_ t 0 % 8) * 262144 + (by_ t 1 % 64) * 4096 + (by_ t 2 % 64) * 64 + by_ t 3 % 64 : Nat) : Int)) = true then ((by_ t 0 % 8) * 262144 + (by_ t 1 % 64) * 4096 + (by_ t 2 % 64) * 64 + by_ t 3 % 64, 4) else (65533, 1)
  else (65533, 1)
theorem get_drop (s : Str) (i k : Nat) : ((⟨s.toArray⟩ : ByteArray).get! (i + k)).toNat = by_ (s.drop i) k := by
  unfold by_
  congr 1
  show (s.toArray)[i + k]! = _
  rw [List.getD_eq_getElem?_getD, List.getElem?_drop]
  simp only [getElem!_def, List.getElem?_toArray]
  cases s[i + k]? <;> rfl
theorem cont_drop (s : Str) (i k : Nat) : (decide (i + k < (⟨s.toArray⟩ : ByteArray).size) && by_ (s.drop i) k / 64 == 2) = cont (s.drop i) k := by
  unfold cont
  have : (i + k < (⟨s.toArray⟩ : ByteArray).size) ↔ k < (s.drop i).length := by
    have : (⟨s.toArray⟩ : ByteArray).size = s.length := by simp [ByteArray.size]
    rw [this, List.length_drop]; omega
  simp only [this]
theorem decode_drop (s : Str) (i : Nat) : Utf8.decode ⟨s.toArray⟩ i = decL (s.drop i) := by
  unfold Utf8.decode decL
  simp only [get_drop, cont_drop, Utf8.runeError]
/- the reference's -/
def goodR (r : Int) : Bool := decide (0 ≤ r) && decide (r ≤ 1114111) && (decide (r < 55296) || decide (r > 57343))
def sizeR (r : Int) : Int := if goodR r then (if r < 128 then 1 else if r < 2048 then 2 else if r < 65536 then 3 else 4) else 0
def bI (t : Str) (k : Nat) : Int := (by_ t k : Int)
def num (t : Str) : Nat → Int
  | 1 => bI t 0
  | 2 => 64 * (bI t 0 - 192) + bI t 1 - 128
  | 3 => 64 * (64 * (bI t 0 - 224) + bI t 1 - 128) + bI t 2 - 128
  | _ => 64 * (64 * (64 * (bI t 0 - 240) + bI t 1 - 128) + bI t 2 - 128) + bI t 3 - 128
def encR (r : Int) : Str := (Utf8.encode r).data.toList
/-- Have the first n bytes the form of n? -/
def okN (t : Str) (n : Nat) : Bool := decide (n ≤ t.length) && (sizeR (num t n) == n && encR (num t n) == t.take n)
def refStep (t : Str) : Int × Int :=
  if okN t 1 then (num t 1, 1) else if okN t 2 then (num t 2, 2) else if okN t 3 then (num t 3, 3) else if okN t 4 then (num t 4, 4) else (65533, 1)
theorem ofNat_inj {x b : Nat} (hx : x < 256) (hb : b < 256) : UInt8.ofNat x = UInt8.ofNat b ↔ x = b := by
  constructor
  · intro h
    have := congrArg UInt8.toNat h
    rw [UInt8.toNat_ofNat', UInt8.toNat_ofNat'] at this
    omega
  · intro h; rw [h]
theorem by_ofNat (t : Str) (k : Nat) (hk : k < t.length) : t[k]? = some (UInt8.ofNat (by_ t k)) := by
  unfold by_
  rw [List.getD_eq_getElem?_getD, List.getElem?_eq_getElem hk]
  simp
theorem take1 {t : Str} (h : 1 ≤ t.length) : t.take 1 = [UInt8.ofNat (by_ t 0)] := by
  apply List.ext_getElem?
  intro i
  match i with
  | 0 => rw [List.getElem?_take_of_lt (by omega), by_ofNat t 0 (by omega)]; rfl
  | i + 1 => rw [List.getElem?_eq_none (by rw [List.length_take]; omega)]; rfl
theorem take2 {t : Str} (h : 2 ≤ t.length) : t.take 2 = [UInt8.ofNat (by_ t 0), UInt8.ofNat (by_ t 1)] := by
  apply List.ext_getElem?
  intro i
  match i with
  | 0 => rw [List.getElem?_take_of_lt (by omega), by_ofNat t 0 (by omega)]; rfl
  | 1 => rw [List.getElem?_take_of_lt (by omega), by_ofNat t 1 (by omega)]; rfl
  | i + 2 => rw [List.getElem?_eq_none (by rw [List.length_take]; omega)]; rfl
theorem take3 {t : Str} (h : 3 ≤ t.length) : t.take 3 = [UInt8.ofNat (by_ t 0), UInt8.ofNat (by_ t 1), UInt8.ofNat (by_ t 2)] := by
  apply List.ext_getElem?
  intro i
  match i with
  | 0 => rw [List.getElem?_take_of_lt (by omega), by_ofNat t 0 (by omega)]; rfl
  | 1 => rw [List.getElem?_take_of_lt (by omega), by_ofNat t 1 (by omega)]; rfl
  | 2 => rw [List.getElem?_take_of_lt (by omega), by_ofNat t 2 (by omega)]; rfl
  | i + 3 => rw [List.getElem?_eq_none (by rw [List.length_take]; omega)]; rfl
theorem take4 {t : Str} (h : 4 ≤ t.length) : t.take 4 = [UInt8.ofNat (by_ t 0), UInt8.ofNat (by_ t 1), UInt8.ofNat (by_ t 2), UInt8.ofNat (by_ t 3)] := by
  apply List.ext_getElem?
  intro i
  match i with
  | 0 => rw [List.getElem?_take_of_lt (by omega), by_ofNat t 0 (by omega)]; rfl
  | 1 => rw [List.getElem?_take_of_lt (by omega), by_ofNat t 1 (by omega)]; rfl
  | 2 => rw [List.getElem?_take_of_lt (by omega), by_ofNat t 2 (by omega)]; rfl
  | 3 => rw [List.getElem?_take_of_lt (by omega), by_ofNat t 3 (by omega)]; rfl
  | i + 4 => rw [List.getElem?_eq_none (by rw [List.length_take]; omega)]; rfl
theorem valid_goodR (r : Int) : Utf8.valid r = goodR r := by
  unfold Utf8.valid goodR
  rw [Bool.eq_iff_iff]
  simp only [Bool.and_eq_true, Bool.or_eq_true, decide_eq_true_eq]
  omega
theorem enc1 {r : Int} (h0 : 0 ≤ r) (h1 : r < 128) : encR r = [UInt8.ofNat r.toNat] := by
  have hv : Utf8.valid r = true := by rw [valid_goodR]; unfold goodR; simp; omega
  unfold encR Utf8.encode
  simp only [hv, if_true]
  rw [if_pos (by omega)]
theorem enc2 {r : Int} (h0 : 128 ≤ r) (h1 : r < 2048) : encR r = [UInt8.ofNat (192 + r.toNat / 64), UInt8.ofNat (128 + r.toNat % 64)] := by
  have hv : Utf8.valid r = true := by rw [valid_goodR]; unfold goodR; simp; omega
  unfold encR Utf8.encode
  simp only [hv, if_true]
  rw [if_neg (by omega), if_pos (by omega)]
theorem enc3 {r : Int} (h0 : 2048 ≤ r) (h1 : r < 65536) (hg : goodR r = true) : encR r = [UInt8.ofNat (224 + r.toNat / 4096), UInt8.ofNat (128 + r.toNat / 64 % 64), UInt8.ofNat (128 + r.toNat % 64)] := by
  have hv : Utf8.valid r = true := by rw [valid_goodR]; exact hg
  unfold encR Utf8.encode
  simp only [hv, if_true]
  rw [if_neg (by omega), if_neg (by omega), if_pos (by omega)]
theorem enc4 {r : Int} (h0 : 65536 ≤ r) (hg : goodR r = true) : encR r = [UInt8.ofNat (240 + r.toNat / 262144), UInt8.ofNat (128 + r.toNat / 4096 % 64), UInt8.ofNat (128 + r.toNat / 64 % 64), UInt8.ofNat (128 + r.toNat % 64)] := by
  have hv : Utf8.valid r = true := by rw [valid_goodR]; exact hg
  unfold encR Utf8.encode
  simp only [hv, if_true]
  rw [if_neg (by omega), if_neg (by omega), if_neg (by omega)]
theorem good_iff (r : Int) : goodR r = true ↔ (0 ≤ r ∧ r ≤ 1114111 ∧ (r < 55296 ∨ r > 57343)) := by
  unfold goodR
  simp only [Bool.and_eq_true, Bool.or_eq_true, decide_eq_true_eq]
  omega
theorem size1_iff (r : Int) : sizeR r = 1 ↔ (0 ≤ r ∧ r < 128) := by
  unfold sizeR
  by_cases h : goodR r = true
  · rw [if_pos h]
    rw [good_iff] at h
    constructor
    · intro e; split at e
      · omega
      · split at e
        · omega
        · split at e <;> omega
    · intro e; rw [if_pos e.2]
  · rw [if_neg h]
    rw [good_iff] at h
    omega
theorem size2_iff (r : Int) : sizeR r = 2 ↔ (128 ≤ r ∧ r < 2048) := by
  unfold sizeR
  by_cases h : goodR r = true
  · rw [if_pos h]
    rw [good_iff] at h
    constructor
    · intro e; split at e
      · omega
      · split at e
        · omega
        · split at e <;> omega
    · intro e; rw [if_neg (by omega), if_pos e.2]
  · rw [if_neg h]
    rw [good_iff] at h
    omega
theorem size3_iff (r : Int) : sizeR r = 3 ↔ (2048 ≤ r ∧ r < 65536 ∧ goodR r = true) := by
  unfold sizeR
  by_cases h : goodR r = true
  · rw [if_pos h]
    constructor
    · intro e; split at e
      · omega
      · split at e
        · omega
        · split at e
          · exact ⟨by omega, by omega, h⟩
          · omega
    · intro e; rw [if_neg (by omega), if_neg (by omega), if_pos e.2.1]
  · rw [if_neg h]
    constructor
    · omega
    · intro e; exact (h e.2.2).elim
theorem size4_iff (r : Int) : sizeR r = 4 ↔ (65536 ≤ r ∧ goodR r = true) := by
  unfold sizeR
  by_cases h : goodR r = true
  · rw [if_pos h]
    constructor
    · intro e; split at e
      · omega
      · split at e
        · omega
        · split at e
          · omega
          · exact ⟨by omega, h⟩
    · intro e; rw [if_neg (by omega), if_neg (by omega), if_neg (by omega)]
  · rw [if_neg h]
    constructor
    · omega
    · intro e; exact (h e.2).elim
theorem ok1 {t : Str} (h : t ≠ []) : okN t 1 = decide (by_ t 0 < 128) := by
  have hl : 1 ≤ t.length := by cases t with | nil => exact (h rfl).elim | cons => simp
  have hb := by_lt t 0
  unfold okN
  rw [Bool.eq_iff_iff]
  simp only [Bool.and_eq_true, decide_eq_true_eq, beq_iff_eq, num, bI]
  rw [show ((1 : Nat) : Int) = 1 from rfl, size1_iff]
  constructor
  · intro ⟨_, h2, _⟩; omega
  · intro h2
    refine ⟨hl, ⟨by omega, by omega⟩, ?_⟩
    rw [enc1 (by omega) (by omega), take1 hl]
    simp
theorem ok2 (t : Str) : okN t 2 = (by_ t 0 / 32 == 6 && cont t 1 && decide ((by_ t 0 % 32) * 64 + by_ t 1 % 64 ≥ 128)) ∧ (okN t 2 = true → num t 2 = ((by_ t 0 % 32) * 64 + by_ t 1 % 64 : Nat)) := by
  have b0 := by_lt t 0
  have b1 := by_lt t 1
  have key : okN t 2 = true ↔ 2 ≤ t.length ∧ by_ t 0 / 32 = 6 ∧ by_ t 1 / 64 = 2 ∧ (by_ t 0 % 32) * 64 + by_ t 1 % 64 ≥ 128 := by
    unfold okN
    simp only [Bool.and_eq_true, decide_eq_true_eq, beq_iff_eq]
    rw [show ((2 : Nat) : Int) = 2 from rfl, size2_iff]
    constructor
    · intro ⟨hl, hz, he⟩
      rw [enc2 hz.1 hz.2, take2 hl] at he
      simp only [num, bI] at he hz
      simp only [List.cons.injEq, and_true] at he
      rw [ofNat_inj (by omega) b0, ofNat_inj (by omega) b1] at he
      omega
    · intro ⟨hl, h0, h1, h2⟩
      have hz : 128 ≤ num t 2 ∧ num t 2 < 2048 := by simp only [num, bI]; omega
      refine ⟨hl, hz, ?_⟩
      rw [enc2 hz.1 hz.2, take2 hl]
      simp only [num, bI] at *
      simp only [List.cons.injEq, and_true]
      rw [ofNat_inj (by omega) b0, ofNat_inj (by omega) b1]
      omega
  refine ⟨?_, fun h => ?_⟩
  · rw [Bool.eq_iff_iff, key]
    unfold cont
    simp only [Bool.and_eq_true, decide_eq_true_eq, beq_iff_eq]
    omega
  · have := key.1 h
    simp only [num, bI]
    omega
theorem ok3 (t : Str) : okN t 3 = (by_ t 0 / 16 == 14 && cont t 1 && cont t 2 && (decide ((by_ t 0 % 16) * 4096 + (by_ t 1 % 64) * 64 + by_ t 2 % 64 ≥ 2048) && goodR (((by_ t 0 % 16) * 4096 + (by_ t 1 % 64) * 64 + by_ t 2 % 64 : Nat) : Int))) ∧
    (okN t 3 = true → num t 3 = ((by_ t 0 % 16) * 4096 + (by_ t 1 % 64) * 64 + by_ t 2 % 64 : Nat)) := by
  have b0 := by_lt t 0
  have b1 := by_lt t 1
  have b2 := by_lt t 2
  have key : okN t 3 = true ↔ 3 ≤ t.length ∧ by_ t 0 / 16 = 14 ∧ by_ t 1 / 64 = 2 ∧ by_ t 2 / 64 = 2 ∧ (by_ t 0 % 16) * 4096 + (by_ t 1 % 64) * 64 + by_ t 2 % 64 ≥ 2048 ∧ goodR (((by_ t 0 % 16) * 4096 + (by_ t 1 % 64) * 64 + by_ t 2 % 64 : Nat) : Int) = true := by
    unfold okN
    simp only [Bool.and_eq_true, decide_eq_true_eq, beq_iff_eq]
    rw [show ((3 : Nat) : Int) = 3 from rfl, size3_iff]
    constructor
    · intro ⟨hl, hz, he⟩
      rw [enc3 hz.1 hz.2.1 hz.2.2, take3 hl] at he
      obtain ⟨z1, z2, z3⟩ := hz
      rw [good_iff] at z3 ⊢
      simp only [num, bI] at he z1 z2 z3
      simp only [List.cons.injEq, and_true] at he
      rw [ofNat_inj (by omega) b0, ofNat_inj (by omega) b1, ofNat_inj (by omega) b2] at he
      omega
    · intro ⟨hl, h0, h1, h2, h3, h4⟩
      rw [good_iff] at h4
      have hz : 2048 ≤ num t 3 ∧ num t 3 < 65536 ∧ (num t 3 < 55296 ∨ num t 3 > 57343) := by simp only [num, bI]; omega
      have hg : goodR (num t 3) = true := by rw [good_iff]; omega
      refine ⟨hl, ⟨hz.1, hz.2.1, hg⟩, ?_⟩
      rw [enc3 hz.1 hz.2.1 hg, take3 hl]
      simp only [num, bI] at *
      simp only [List.cons.injEq, and_true]
      rw [ofNat_inj (by omega) b0, ofNat_inj (by omega) b1, ofNat_inj (by omega) b2]
      omega
  refine ⟨?_, fun h => ?_⟩
  · rw [Bool.eq_iff_iff, key]
    unfold cont
    simp only [Bool.and_eq_true, decide_eq_true_eq, beq_iff_eq]
    constructor
    · intro ⟨q0, q1, q2, q3, q4, q5⟩; exact ⟨⟨⟨q1, by omega, q2⟩, by omega, q3⟩, q4, q5⟩
    · intro ⟨⟨⟨q1, q6, q2⟩, q7, q3⟩, q4, q5⟩; exact ⟨by omega, q1, q2, q3, q4, q5⟩
  · have := key.1 h
    simp only [num, bI]
    omega
theorem ok4 (t : Str) : okN t 4 = (by_ t 0 / 8 == 30 && cont t 1 && cont t 2 && cont t 3 && (decide ((by_ t 0 % 8) * 262144 + (by_ t 1 % 64) * 4096 + (by_ t 2 % 64) * 64 + by_ t 3 % 64 ≥ 65536) && goodR (((by_ t 0 % 8) * 262144 + (by_ t 1 % 64) * 4096 + (by_ t 2 % 64) * 64 + by_ t 3 % 64 : Nat) : Int))) ∧
    (okN t 4 = true → num t 4 = ((by_ t 0 % 8) * 262144 + (by_ t 1 % 64) * 4096 + (by_ t 2 % 64) * 64 + by_ t 3 % 64 : Nat)) := by
  have b0 := by_lt t 0
  have b1 := by_lt t 1
  have b2 := by_lt t 2
  have b3 := by_lt t 3
  have key : okN t 4 = true ↔ 4 ≤ t.length ∧ by_ t 0 / 8 = 30 ∧ by_ t 1 / 64 = 2 ∧ by_ t 2 / 64 = 2 ∧ by_ t 3 / 64 = 2 ∧ (by_ t 0 % 8) * 262144 + (by_ t 1 % 64) * 4096 + (by_ t 2 % 64) * 64 + by_ t 3 % 64 ≥ 65536 ∧ goodR (((by_ t 0 % 8) * 262144 + (by_ t 1 % 64) * 4096 + (by_ t 2 % 64) * 64 + by_ t 3 % 64 : Nat) : Int) = true := by
    unfold okN
    simp only [Bool.and_eq_true, decide_eq_true_eq, beq_iff_eq]
    rw [show ((4 : Nat) : Int) = 4 from rfl, size4_iff]
    constructor
    · intro ⟨hl, hz, he⟩
      rw [enc4 hz.1 hz.2, take4 hl] at he
      obtain ⟨z1, z3⟩ := hz
      rw [good_iff] at z3 ⊢
      simp only [num, bI] at he z1 z3
      simp only [List.cons.injEq, and_true] at he
      rw [ofNat_inj (by omega) b0, ofNat_inj (by omega) b1, ofNat_inj (by omega) b2, ofNat_inj (by omega) b3] at he
      omega
    · intro ⟨hl, h0, h1, h2, h3, h4, h5⟩
      rw [good_iff] at h5
      have hz : 65536 ≤ num t 4 ∧ num t 4 ≤ 1114111 := by simp only [num, bI]; omega
      have hg : goodR (num t 4) = true := by rw [good_iff]; omega
      refine ⟨hl, ⟨hz.1, hg⟩, ?_⟩
      rw [enc4 hz.1 hg, take4 hl]
      simp only [num, bI] at *
      simp only [List.cons.injEq, and_true]
      rw [ofNat_inj (by omega) b0, ofNat_inj (by omega) b1, ofNat_inj (by omega) b2, ofNat_inj (by omega) b3]
      omega
  refine ⟨?_, fun h => ?_⟩
  · rw [Bool.eq_iff_iff, key]
    unfold cont
    simp only [Bool.and_eq_true, decide_eq_true_eq, beq_iff_eq]
    constructor
    · intro ⟨q0, q1, q2, q3, q6, q4, q5⟩; exact ⟨⟨⟨⟨q1, by omega, q2⟩, by omega, q3⟩, by omega, q6⟩, q4, q5⟩
    · intro ⟨⟨⟨⟨q1, _, q2⟩, _, q3⟩, q8, q6⟩, q4, q5⟩; exact ⟨by omega, q1, q2, q3, q6, q4, q5⟩
  · have := key.1 h
    simp only [num, bI]
    omega
/-- The reference's step is the model's. -/
theorem step_eq {t : Str} (h : t ≠ []) : refStep t = (((decL t).1 : Int), ((decL t).2 : Int)) := by
  unfold refStep decL
  rw [ok1 h]
  by_cases h1 : by_ t 0 < 128
  · rw [if_pos (by simpa using h1), if_pos h1]; rfl
  rw [if_neg (by simpa using h1), if_neg h1]
  obtain ⟨e2, n2⟩ := ok2 t
  obtain ⟨e3, n3⟩ := ok3 t
  obtain ⟨e4, n4⟩ := ok4 t
  simp only [valid_goodR]
  by_cases c2 : (by_ t 0 / 32 == 6 && cont t 1) = true
  · rw [if_pos c2]
    have f3 : okN t 3 = false := by
      rw [e3]
      simp only [Bool.and_eq_true, beq_iff_eq] at c2
      have : (by_ t 0 / 16 == 14) = false := by rw [beq_eq_false_iff_ne]; omega
      rw [this]; rfl
    have f4 : okN t 4 = false := by
      rw [e4]
      simp only [Bool.and_eq_true, beq_iff_eq] at c2
      have : (by_ t 0 / 8 == 30) = false := by rw [beq_eq_false_iff_ne]; omega
      rw [this]; rfl
    rw [f3, f4]
    by_cases d2 : (by_ t 0 % 32) * 64 + by_ t 1 % 64 ≥ 128
    · have f2 : okN t 2 = true := by rw [e2, c2]; simpa using d2
      rw [if_pos f2, if_pos d2, n2 f2]; rfl
    · have f2 : okN t 2 = false := by rw [e2, c2]; simpa using d2
      rw [f2, if_neg d2]; rfl
  · rw [if_neg c2]
    have f2 : okN t 2 = false := by
      rw [e2]
      simp only [Bool.not_eq_true] at c2
      rw [c2]; rfl
    rw [f2]
    simp only [Bool.false_eq_true, if_false]
    by_cases c3 : (by_ t 0 / 16 == 14 && cont t 1 && cont t 2) = true
    · rw [if_pos c3]
      have f4 : okN t 4 = false := by
        rw [e4]
        simp only [Bool.and_eq_true, beq_iff_eq] at c3
        have : (by_ t 0 / 8 == 30) = false := by rw [beq_eq_false_iff_ne]; omega
        rw [this]; rfl
      rw [f4, e3, c3]
      by_cases d3 : (decide ((by_ t 0 % 16) * 4096 + (by_ t 1 % 64) * 64 + by_ t 2 % 64 ≥ 2048) && goodR (((by_ t 0 % 16) * 4096 + (by_ t 1 % 64) * 64 + by_ t 2 % 64 : Nat) : Int)) = true
      · rw [if_pos d3, d3]
        have f3 : okN t 3 = true := by rw [e3, c3, d3]; rfl
        rw [n3 f3]; rfl
      · rw [if_neg d3]
        simp only [Bool.not_eq_true] at d3
        rw [d3]; rfl
    · rw [if_neg c3]
      have f3 : okN t 3 = false := by
        rw [e3]
        simp only [Bool.not_eq_true] at c3
        rw [c3]; rfl
      rw [f3]
      simp only [Bool.false_eq_true, if_false]
      by_cases c4 : (by_ t 0 / 8 == 30 && cont t 1 && cont t 2 && cont t 3) = true
      · rw [if_pos c4, e4, c4]
        by_cases d4 : (decide ((by_ t 0 % 8) * 262144 + (by_ t 1 % 64) * 4096 + (by_ t 2 % 64) * 64 + by_ t 3 % 64 ≥ 65536) && goodR (((by_ t 0 % 8) * 262144 + (by_ t 1 % 64) * 4096 + (by_ t 2 % 64) * 64 + by_ t 3 % 64 : Nat) : Int)) = true
        · rw [if_pos d4, d4]
          have f4 : okN t 4 = true := by rw [e4, c4, d4]; rfl
          rw [n4 f4]; rfl
        · rw [if_neg d4]
          simp only [Bool.not_eq_true] at d4
          rw [d4]; rfl
      · rw [if_neg c4]
        have f4 : okN t 4 = false := by
          rw [e4]
          simp only [Bool.not_eq_true] at c4
          rw [c4]; rfl
        rw [f4]; rfl
end Go.Proofs.YtpbhfbphefmchaaDoor.Cmp
/- Compare: plain: texts and their runes; lines. -/
set_option linter.unusedVariables false
set_option linter.unusedSimpArgs false
namespace Go.Proofs.YtpbhfbphefmchaaDoor.Cmp
open Go
theorem decL_pos (t : Str) : 1 ≤ (decL t).2 ∧ (decL t).2 ≤ 4 := by
  unfold decL
  repeat' split
  all_goals simp
theorem decL_good (t : Str) : goodR (((decL t).1 : Nat) : Int) = true := by
  have b0 := by_lt t 0
  unfold decL
  simp only [valid_goodR]
  split
  · rw [good_iff]; dsimp only; omega
  · split
    · split
      · rw [good_iff]; dsimp only; omega
      · decide
    · split
      · split
        · rename_i h; simp only [Bool.and_eq_true] at h; exact h.2
        · decide
      · split
        · split
          · rename_i h; simp only [Bool.and_eq_true] at h; exact h.2
          · decide
        · decide
/-- A text's runes, as the model reads them. -/
def decF : Nat → Str → List Int
  | 0, _ => []
  | f + 1, t => if t = [] then [] else ((decL t).1 : Int) :: decF f (t.drop (decL t).2)
def dec (s : Str) : List Int := decF s.length s
theorem decF_fuel : ∀ (f : Nat) (t : Str), t.length ≤ f → decF f t = dec t := by
  intro f
  induction f using Nat.strongRecOn with
  | _ f ih =>
    intro t h
    unfold dec
    cases t with
    | nil => cases f <;> rfl
    | cons c t =>
      cases f with
      | zero => simp at h
      | succ f =>
        have hp := decL_pos (c :: t)
        have hd : ((c :: t).drop (decL (c :: t)).2).length ≤ t.length := by rw [List.length_drop]; simp; omega
        simp only [List.length_cons] at h ⊢
        rw [decF, decF, if_neg (by simp), if_neg (by simp)]
        rw [ih f (by omega) _ (by omega)]
        by_cases e : f = t.length
        · subst e; rw [ih t.length (by omega) _ hd]
        · rw [ih t.length (by omega) _ hd]
theorem dec_nil : dec [] = [] := rfl
theorem dec_cons {t : Str} (h : t ≠ []) : dec t = ((decL t).1 : Int) :: dec (t.drop (decL t).2) := by
  cases t with
  | nil => exact (h rfl).elim
  | cons c t =>
    have hp := decL_pos (c :: t)
    have hd : ((c :: t).drop (decL (c :: t)).2).length ≤ t.length := by rw [List.length_drop]; simp; omega
    show decF (t.length + 1) (c :: t) = _
    rw [decF, if_neg (by simp), decF_fuel _ _ hd]
theorem dec_len : ∀ (n : Nat) (t : Str), t.length ≤ n → (dec t).length ≤ t.length := by
  intro n
  induction n with
  | zero => intro t h; cases t with | nil => simp [dec_nil] | cons => simp at h
  | succ n ih =>
    intro t h
    cases t with
    | nil => simp [dec_nil]
    | cons c t =>
      rw [dec_cons (by simp)]
      have hp := decL_pos (c :: t)
      have hd : ((c :: t).drop (decL (c :: t)).2).length ≤ t.length := by rw [List.length_drop]; simp; omega
      have := ih _ (Nat.le_trans hd (by simpa using h))
      simp only [List.length_cons]
      omega
theorem dec_le (t : Str) : (dec t).length ≤ t.length := dec_len _ t (Nat.le_refl _)
def Goods (l : List Int) : Prop := ∀ r ∈ l, goodR r = true
theorem dec_goods : ∀ (n : Nat) (t : Str), t.length ≤ n → Goods (dec t) := by
  intro n
  induction n with
  | zero => intro t h; cases t with | nil => intro r hr; simp [dec_nil] at hr | cons => simp at h
  | succ n ih =>
    intro t h
    cases t with
    | nil => intro r hr; simp [dec_nil] at hr
    | cons c t =>
      rw [dec_cons (by simp)]
      have hp := decL_pos (c :: t)
      have hd : ((c :: t).drop (decL (c :: t)).2).length ≤ t.length := by rw [List.length_drop]; simp; omega
      intro r hr
      rcases List.mem_cons.1 hr with rfl | hr
      · exact decL_good _
      · exact ih _ (Nat.le_trans hd (by simpa using h)) r hr
theorem dec_good (t : Str) : Goods (dec t) := dec_goods _ t (Nat.le_refl _)
def encAll (l : List Int) : Str := l.flatMap encR
theorem encAll_nil : encAll [] = [] := rfl
theorem encAll_cons (r : Int) (l : List Int) : encAll (r :: l) = encR r ++ encAll l := rfl
theorem encAll_append (a b : List Int) : encAll (a ++ b) = encAll a ++ encAll b := by simp [encAll]
theorem by_cons0 (x : UInt8) (t : Str) : by_ (x :: t) 0 = x.toNat := rfl
theorem by_cons (x : UInt8) (t : Str) (k : Nat) : by_ (x :: t) (k + 1) = by_ t k := rfl
theorem ofNat_toNat {n : Nat} (h : n < 256) : (UInt8.ofNat n).toNat = n := by rw [UInt8.toNat_ofNat']; omega
theorem size_cases {r : Int} (h : goodR r = true) : (0 ≤ r ∧ r < 128) ∨ (128 ≤ r ∧ r < 2048) ∨ (2048 ≤ r ∧ r < 65536) ∨ (65536 ≤ r ∧ r ≤ 1114111) := by
  rw [good_iff] at h; omega
/-- What was written is read. -/
theorem decL_enc {r : Int} (h : goodR r = true) (u : Str) : decL (encR r ++ u) = (r.toNat, (encR r).length) := by
  have hg := h
  rw [good_iff] at hg
  rcases size_cases h with c | c | c | c
  · rw [enc1 c.1 c.2]
    unfold decL
    simp only [List.cons_append, List.nil_append, by_cons0, ofNat_toNat (show r.toNat < 256 by omega)]
    rw [if_pos (by omega)]; rfl
  · rw [enc2 c.1 c.2]
    have e0 : by_ ([UInt8.ofNat (192 + r.toNat / 64), UInt8.ofNat (128 + r.toNat % 64)] ++ u) 0 = 192 + r.toNat / 64 := ofNat_toNat (by omega)
    have e1 : by_ ([UInt8.ofNat (192 + r.toNat / 64), UInt8.ofNat (128 + r.toNat % 64)] ++ u) 1 = 128 + r.toNat % 64 := ofNat_toNat (by omega)
    unfold decL cont
    rw [e0, e1]
    rw [if_neg (by omega), if_pos (by simp; omega), if_pos (by omega)]
    simp only [List.length_cons, List.length_nil, Prod.mk.injEq, and_true]
    omega
  · rw [enc3 c.1 c.2 h]
    have e0 : by_ ([UInt8.ofNat (224 + r.toNat / 4096), UInt8.ofNat (128 + r.toNat / 64 % 64), UInt8.ofNat (128 + r.toNat % 64)] ++ u) 0 = 224 + r.toNat / 4096 := ofNat_toNat (by omega)
    have e1 : by_ ([UInt8.ofNat (224 + r.toNat / 4096), UInt8.ofNat (128 + r.toNat / 64 % 64), UInt8.ofNat (128 + r.toNat % 64)] ++ u) 1 = 128 + r.toNat / 64 % 64 := ofNat_toNat (by omega)
    have e2 : by_ ([UInt8.ofNat (224 + r.toNat / 4096), UInt8.ofNat (128 + r.toNat / 64 % 64), UInt8.ofNat (128 + r.toNat % 64)] ++ u) 2 = 128 + r.toNat % 64 := ofNat_toNat (by omega)
    have en : (224 + r.toNat / 4096) % 16 * 4096 + (128 + r.toNat / 64 % 64) % 64 * 64 + (128 + r.toNat % 64) % 64 = r.toNat := by omega
    have er : ((r.toNat : Nat) : Int) = r := by omega
    unfold decL cont
    rw [e0, e1, e2, en]
    simp only [valid_goodR, er, h]
    rw [if_neg (by omega), if_neg (by simp; omega), if_pos (by simp; omega), if_pos (by simp; omega)]
    rfl
  · rw [enc4 c.1 h]
    have e0 : by_ ([UInt8.ofNat (240 + r.toNat / 262144), UInt8.ofNat (128 + r.toNat / 4096 % 64), UInt8.ofNat (128 + r.toNat / 64 % 64), UInt8.ofNat (128 + r.toNat % 64)] ++ u) 0 = 240 + r.toNat / 262144 := ofNat_toNat (by omega)
    have e1 : by_ ([UInt8.ofNat (240 + r.toNat / 262144), UInt8.ofNat (128 + r.toNat / 4096 % 64), UInt8.ofNat (128 + r.toNat / 64 % 64), UInt8.ofNat (128 + r.toNat % 64)] ++ u) 1 = 128 + r.toNat / 4096 % 64 := ofNat_toNat (by omega)
    have e2 : by_ ([UInt8.ofNat (240 + r.toNat / 262144), UInt8.ofNat (128 + r.toNat / 4096 % 64), UInt8.ofNat (128 + r.toNat / 64 % 64), UInt8.ofNat (128 + r.toNat % 64)] ++ u) 2 = 128 + r.toNat / 64 % 64 := ofNat_toNat (by omega)
    have e3 : by_ ([UInt8.ofNat (240 + r.toNat / 262144), UInt8.ofNat (128 + r.toNat / 4096 % 64), UInt8.ofNat (128 + r.toNat / 64 % 64), UInt8.ofNat (128 + r.toNat % 64)] ++ u) 3 = 128 + r.toNat % 64 := ofNat_toNat (by omega)
    have en : (240 + r.toNat / 262144) % 8 * 262144 + (128 + r.toNat / 4096 % 64) % 64 * 4096 + (128 + r.toNat / 64 % 64) % 64 * 64 + (128 + r.toNat % 64) % 64 = r.toNat := by omega
    have er : ((r.toNat : Nat) : Int) = r := by omega
    unfold decL cont
    rw [e0, e1, e2, e3, en]
    simp only [valid_goodR, er, h]
    rw [if_neg (by omega), if_neg (by simp; omega), if_neg (by simp; omega), if_pos (by simp; omega), if_pos (by simp; omega)]
    rfl
theorem enc_ne {r : Int} (h : goodR r = true) : encR r ≠ [] := by
  rcases size_cases h with c | c | c | c
  · rw [enc1 c.1 c.2]; simp
  · rw [enc2 c.1 c.2]; simp
  · rw [enc3 c.1 c.2 h]; simp
  · rw [enc4 c.1 h]; simp
theorem dec_enc1 {r : Int} (h : goodR r = true) (u : Str) : dec (encR r ++ u) = r :: dec u := by
  have hn : encR r ++ u ≠ [] := by simp [enc_ne h]
  rw [dec_cons hn, decL_enc h]
  have := (good_iff r).1 h
  simp only [List.drop_left]
  congr 1
  omega
theorem dec_encAll {l : List Int} (h : Goods l) (u : Str) : dec (encAll l ++ u) = l ++ dec u := by
  induction l with
  | nil => rfl
  | cons r l ih =>
    rw [encAll_cons, List.append_assoc, dec_enc1 (h r (by simp)), ih (fun x hx => h x (by simp [hx]))]
    rfl
theorem dec_enc {l : List Int} (h : Goods l) : dec (encAll l) = l := by
  have := dec_encAll h []
  simpa [dec_nil] using this
/-- A text made right. -/
def clean (s : Str) : Str := encAll (dec s)
theorem dec_clean (s : Str) : dec (clean s) = dec s := dec_enc (dec_good s)
/- lines -/
def linesG : List Int → List Int → List (List Int)
  | acc, [] => if acc = [] then [] else [acc]
  | acc, r :: l => if r = 10 then (acc ++ [r]) :: linesG [] l else linesG (acc ++ [r]) l
def linesR (l : List Int) : List (List Int) := linesG [] l
theorem linesG_flat : ∀ (l acc : List Int), (linesG acc l).flatten = acc ++ l
  | [], acc => by unfold linesG; split <;> simp_all
  | r :: l, acc => by
    unfold linesG
    split
    · rw [List.flatten_cons, linesG_flat l []]; simp
    · rw [linesG_flat l]; simp
theorem linesR_flat (l : List Int) : (linesR l).flatten = l := by rw [linesR, linesG_flat]; rfl
theorem linesG_ne : ∀ (l acc : List Int), ∀ x ∈ linesG acc l, x ≠ []
  | [], acc, x, h => by
    unfold linesG at h
    split at h
    · simp at h
    · rename_i hne; simp at h; subst h; exact hne
  | r :: l, acc, x, h => by
    unfold linesG at h
    split at h
    · rcases List.mem_cons.1 h with rfl | h
      · simp
      · exact linesG_ne l [] x h
    · exact linesG_ne l _ x h
/-- A text's lines. -/
def linesS (s : Str) : List Str := (linesR (dec s)).map encAll
/-- Pieces of a text, each with its newline. -/
def afterP : Str → List Str
  | [] => [[]]
  | c :: s => if c = 10 then [10] :: afterP s else (c :: (afterP s).headD []) :: (afterP s).tail
theorem afterP_ne : ∀ s, afterP s ≠ []
  | [] => by simp [afterP]
  | c :: s => by unfold afterP; split <;> simp
theorem indexByte_none (s : Str) (c : UInt8) : Lib.indexByte s c < 0 ↔ c ∉ s := by
  induction s with
  | nil => simp [Lib.indexByte]
  | cons b s ih =>
    have := Lib.indexByte_ge s c
    unfold Lib.indexByte
    by_cases h : (b == c) = true
    · rw [if_pos h]; simp at h; simp [h]
    · rw [if_neg h]
      simp only [beq_iff_eq] at h
      simp only [List.mem_cons, not_or]
      split
      · rename_i h2
        have h2 := ih.1 (by have := beq_iff_eq.1 h2; omega)
        exact ⟨fun _ => ⟨fun e => h e.symm, h2⟩, fun _ => by decide⟩
      · rename_i h2
        constructor
        · intro h3; omega
        · intro ⟨_, h3⟩
          have := ih.2 h3
          exact (h2 (beq_iff_eq.2 (by omega))).elim
theorem after_split : ∀ s : Str, Lib.splitK [10] 1 (s.count 10) s = afterP s
  | [] => by simp [Lib.splitK, afterP]
  | c :: s => by
    have ih := after_split s
    by_cases hc : c = 10
    · subst hc
      have hi : Lib.index (10 :: s) [10] = 0 := by rw [Lib.index_one]; rfl
      have hk : (10 :: s).count (10 : UInt8) = s.count 10 + 1 := by simp
      rw [hk]
      unfold Lib.splitK afterP
      rw [hi, if_neg (by decide), if_pos rfl]
      simp [ih]
    · have hk : (c :: s).count (10 : UInt8) = s.count 10 := by rw [List.count_cons]; simp [hc]
      rw [hk]
      unfold afterP
      rw [if_neg hc, ← ih]
      cases hn : s.count (10 : UInt8) with
      | zero => simp [Lib.splitK]
      | succ k =>
        have hm : (10 : UInt8) ∈ s := List.count_pos_iff.1 (by omega)
        have h1 : ¬ Lib.indexByte s 10 < 0 := fun h => (indexByte_none s 10).1 h hm
        obtain ⟨j, hj⟩ : ∃ j : Nat, Lib.indexByte s 10 = j := ⟨(Lib.indexByte s 10).toNat, by omega⟩
        have h2 : Lib.index s [10] = (j : Int) := by rw [Lib.index_one, hj]
        have h3 : Lib.index (c :: s) [10] = ((j + 1 : Nat) : Int) := by
          rw [Lib.index_one]
          unfold Lib.indexByte
          rw [if_neg (by simpa using hc), hj, if_neg (by simp)]
          omega
        have n2 : ¬ ((Lib.index s [10] == -1) = true) := by rw [h2]; simp
        have n3 : ¬ ((Lib.index (c :: s) [10] == -1) = true) := by rw [h3]; simp <;> omega
        unfold Lib.splitK
        rw [if_neg n2, if_neg n3, h2, h3]
        simp
def nonE (s : Str) : Bool := !(s == [])
theorem afterP_noNl {a : Str} (h : (10 : UInt8) ∉ a) (t : Str) : afterP (a ++ t) = (a ++ (afterP t).headD []) :: (afterP t).tail := by
  induction a with
  | nil =>
    cases ht : afterP t with
    | nil => exact (afterP_ne t ht).elim
    | cons x l => simp [ht]
  | cons c a ih =>
    simp only [List.mem_cons, not_or] at h
    rw [List.cons_append, afterP, if_neg (fun e => h.1 e.symm), ih h.2]
    rfl
theorem enc_noNl {r : Int} (h : goodR r = true) (h10 : r ≠ 10) : (10 : UInt8) ∉ encR r := by
  have n10 : ∀ n, n < 256 → n ≠ 10 → (10 : UInt8) ≠ UInt8.ofNat n := fun n hn hne e => by
    have := congrArg UInt8.toNat e
    rw [ofNat_toNat hn] at this
    exact hne this.symm
  have hg := (good_iff r).1 h
  rcases size_cases h with c | c | c | c
  · rw [enc1 c.1 c.2]
    simp only [List.mem_cons, List.not_mem_nil, or_false]
    exact n10 _ (by omega) (by omega)
  · rw [enc2 c.1 c.2]
    simp only [List.mem_cons, List.not_mem_nil, or_false, not_or]
    exact ⟨n10 _ (by omega) (by omega), n10 _ (by omega) (by omega)⟩
  · rw [enc3 c.1 c.2 h]
    simp only [List.mem_cons, List.not_mem_nil, or_false, not_or]
    exact ⟨n10 _ (by omega) (by omega), n10 _ (by omega) (by omega), n10 _ (by omega) (by omega)⟩
  · rw [enc4 c.1 h]
    simp only [List.mem_cons, List.not_mem_nil, or_false, not_or]
    exact ⟨n10 _ (by omega) (by omega), n10 _ (by omega) (by omega), n10 _ (by omega) (by omega), n10 _ (by omega) (by omega)⟩
theorem encAll_noNl : ∀ {l : List Int}, Goods l → (∀ r ∈ l, r ≠ 10) → (10 : UInt8) ∉ encAll l
  | [], _, _ => by simp [encAll]
  | r :: l, h, h10 => by
    rw [encAll_cons, List.mem_append, not_or]
    exact ⟨enc_noNl (h r (by simp)) (h10 r (by simp)), encAll_noNl (fun x hx => h x (by simp [hx])) (fun x hx => h10 x (by simp [hx]))⟩
theorem encAll_ne {l : List Int} (h : Goods l) (hne : l ≠ []) : encAll l ≠ [] := by
  cases l with
  | nil => exact (hne rfl).elim
  | cons r l => rw [encAll_cons]; simp [enc_ne (h r (by simp))]
theorem lines_after : ∀ (l acc : List Int), Goods l → Goods acc → (∀ r ∈ acc, r ≠ 10) → (afterP (encAll acc ++ encAll l)).filter nonE = (linesG acc l).map encAll
  | [], acc, _, ha, hn => by
    rw [encAll_nil, afterP_noNl (encAll_noNl ha hn)]
    simp only [afterP, List.headD_cons, List.tail_cons, List.append_nil, linesG]
    by_cases e : acc = []
    · subst e; rfl
    · rw [if_neg e]
      have : nonE (encAll acc) = true := by unfold nonE; simp [encAll_ne ha e]
      simp [this]
  | r :: l, acc, hl, ha, hn => by
    have hr := hl r (by simp)
    have hl' : Goods l := fun x hx => hl x (by simp [hx])
    by_cases e : r = 10
    · subst e
      have e10 : encR 10 = [10] := by decide
      rw [encAll_cons, e10, afterP_noNl (encAll_noNl ha hn)]
      have ih := lines_after l [] hl' (fun x hx => by simp at hx) (fun x hx => by simp at hx)
      rw [encAll_nil, List.nil_append] at ih
      rw [show [10] ++ encAll l = 10 :: encAll l from rfl, afterP, if_pos rfl]
      simp only [List.headD_cons, List.tail_cons, linesG, if_true, List.map_cons]
      rw [encAll_append, ← ih]
      have : nonE (encAll acc ++ [10]) = true := by unfold nonE; simp
      rw [List.filter_cons, if_pos this]
      rfl
    · have ih := lines_after l (acc ++ [r]) hl' (fun x hx => by
        rcases List.mem_append.1 hx with h | h
        · exact ha x h
        · simp at h; subst h; exact hr) (fun x hx => by
        rcases List.mem_append.1 hx with h | h
        · exact hn x h
        · simp at h; subst h; exact e)
      rw [encAll_cons, ← List.append_assoc]
      rw [encAll_append] at ih
      have e1 : encAll [r] = encR r := by simp [encAll]
      rw [e1] at ih
      rw [ih, linesG, if_neg e]
/-- The program's lines are the reference's. -/
theorem lines_eq (s : Str) : (afterP (clean s)).filter nonE = linesS s := by
  have := lines_after (dec s) [] (dec_good s) (fun x hx => by simp at hx) (fun x hx => by simp at hx)
  simpa [encAll_nil, linesS, linesR, clean] using this
end Go.Proofs.YtpbhfbphefmchaaDoor.Cmp
/- Compare: plain: lines in common; the edits that make one text of the other. -/
set_option linter.unusedVariables false
set_option linter.unusedSimpArgs false
namespace Go.Proofs.YtpbhfbphefmchaaDoor.Cmp
open Go
/-- A row of the table out of the next one. -/
def lcsRow (x : Str) (la : List Str → Nat) : List Str → Nat
  | [] => 0
  | y :: b => if x = y then la b + 1 else max (la (y :: b)) (lcsRow x la b)
def lcs : List Str → List Str → Nat
  | [] => fun _ => 0
  | x :: a => lcsRow x (lcs a)
theorem lcs_nil (b : List Str) : lcs [] b = 0 := rfl
theorem lcs_nil' (a : List Str) : lcs a [] = 0 := by cases a <;> rfl
theorem lcs_eq (x : Str) (a b : List Str) : lcs (x :: a) (x :: b) = lcs a b + 1 := by
  show lcsRow x (lcs a) (x :: b) = _
  rw [lcsRow, if_pos rfl]
theorem lcs_ne {x y : Str} (h : x ≠ y) (a b : List Str) : lcs (x :: a) (y :: b) = max (lcs a (y :: b)) (lcs (x :: a) b) := by
  show lcsRow x (lcs a) (y :: b) = _
  rw [lcsRow, if_neg h]
  rfl
theorem lcs_step : ∀ (n : Nat) (a b : List Str), a.length + b.length ≤ n → (∀ x, lcs a b ≤ lcs (x :: a) b ∧ lcs (x :: a) b ≤ lcs a b + 1) ∧ (∀ y, lcs a b ≤ lcs a (y :: b) ∧ lcs a (y :: b) ≤ lcs a b + 1) := by
  intro n
  induction n using Nat.strongRecOn with
  | _ n ih =>
    intro a b h
    constructor
    · intro x
      cases b with
      | nil => simp [lcs_nil']
      | cons y b =>
        by_cases e : x = y
        · subst e
          rw [lcs_eq]
          have h1 := (ih (a.length + b.length) (by simp at h; omega) a b (Nat.le_refl _)).2 x
          omega
        · rw [lcs_ne e]
          have h1 := (ih (a.length + b.length) (by simp at h; omega) a b (Nat.le_refl _)).1 x
          have h2 := (ih (a.length + b.length) (by simp at h; omega) a b (Nat.le_refl _)).2 y
          omega
    · intro y
      cases a with
      | nil => simp [lcs_nil]
      | cons x a =>
        by_cases e : x = y
        · subst e
          rw [lcs_eq]
          have h1 := (ih (a.length + b.length) (by simp at h; omega) a b (Nat.le_refl _)).1 x
          omega
        · rw [lcs_ne e]
          have h1 := (ih (a.length + b.length) (by simp at h; omega) a b (Nat.le_refl _)).1 x
          have h2 := (ih (a.length + b.length) (by simp at h; omega) a b (Nat.le_refl _)).2 y
          omega
theorem lcs_up (x : Str) (a b : List Str) : lcs a b ≤ lcs (x :: a) b ∧ lcs (x :: a) b ≤ lcs a b + 1 := (lcs_step _ a b (Nat.le_refl _)).1 x
theorem lcs_up' (y : Str) (a b : List Str) : lcs a b ≤ lcs a (y :: b) ∧ lcs a (y :: b) ≤ lcs a b + 1 := (lcs_step _ a b (Nat.le_refl _)).2 y
theorem lcs_comm : ∀ (n : Nat) (a b : List Str), a.length + b.length ≤ n → lcs a b = lcs b a := by
  intro n
  induction n using Nat.strongRecOn with
  | _ n ih =>
    intro a b h
    cases a with
    | nil => rw [lcs_nil, lcs_nil']
    | cons x a =>
      cases b with
      | nil => rw [lcs_nil, lcs_nil']
      | cons y b =>
        simp only [List.length_cons] at h
        by_cases e : x = y
        · subst e
          rw [lcs_eq, lcs_eq, ih _ (by omega) a b (Nat.le_refl _)]
        · rw [lcs_ne e, lcs_ne (Ne.symm e), ih (a.length + (b.length + 1)) (by omega) a (y :: b) (by simp), ih (a.length + 1 + b.length) (by omega) (x :: a) b (by simp)]
          omega
theorem lcs_sym (a b : List Str) : lcs a b = lcs b a := lcs_comm _ a b (Nat.le_refl _)
theorem lcs_le : ∀ (a b : List Str), lcs a b ≤ a.length
  | [], b => by rw [lcs_nil]; simp
  | x :: a, b => by
    have := (lcs_up x a b).2
    have := lcs_le a b
    simp; omega
theorem lcs_le' (a b : List Str) : lcs a b ≤ b.length := by rw [lcs_sym]; exact lcs_le b a
/-- What stands at a place of the table. -/
def cm (a b : List Str) (i j : Nat) : Nat := lcs (a.drop i) (b.drop j)
def ln (a : List Str) (i : Nat) : Str := a.getD i []
theorem drop_ln {a : List Str} {i : Nat} (h : i < a.length) : a.drop i = ln a i :: a.drop (i + 1) := by
  rw [List.drop_eq_getElem_cons h]
  congr 1
  unfold ln
  rw [List.getD_eq_getElem?_getD, List.getElem?_eq_getElem h]
  rfl
theorem cm_end (a b : List Str) (i j : Nat) (h : a.length ≤ i ∨ b.length ≤ j) : cm a b i j = 0 := by
  unfold cm
  rcases h with h | h
  · rw [List.drop_eq_nil_of_le h, lcs_nil]
  · rw [List.drop_eq_nil_of_le h, lcs_nil']
theorem cm_eq {a b : List Str} {i j : Nat} (hi : i < a.length) (hj : j < b.length) (h : ln a i = ln b j) : cm a b i j = cm a b (i + 1) (j + 1) + 1 := by
  unfold cm
  rw [drop_ln hi, drop_ln hj, h, lcs_eq]
theorem cm_ne {a b : List Str} {i j : Nat} (hi : i < a.length) (hj : j < b.length) (h : ln a i ≠ ln b j) : cm a b i j = max (cm a b (i + 1) j) (cm a b i (j + 1)) := by
  unfold cm
  rw [drop_ln hi, drop_ln hj, lcs_ne h, ← drop_ln hi, ← drop_ln hj]
/-- The reference's way. -/
theorem cm_ref {a b : List Str} {i j : Nat} (hi : i < a.length) (hj : j < b.length) :
    cm a b i j = (if ln a i = ln b j ∧ cm a b (i + 1) (j + 1) + 1 > max (cm a b i (j + 1)) (cm a b (i + 1) j) then cm a b (i + 1) (j + 1) + 1 else max (cm a b i (j + 1)) (cm a b (i + 1) j)) := by
  have h1 : cm a b (i + 1) (j + 1) ≤ cm a b i (j + 1) ∧ cm a b i (j + 1) ≤ cm a b (i + 1) (j + 1) + 1 := by
    unfold cm; rw [drop_ln hi]; exact lcs_up _ _ _
  have h2 : cm a b (i + 1) (j + 1) ≤ cm a b (i + 1) j ∧ cm a b (i + 1) j ≤ cm a b (i + 1) (j + 1) + 1 := by
    unfold cm; rw [drop_ln hj]; exact lcs_up' _ _ _
  by_cases e : ln a i = ln b j
  · rw [cm_eq hi hj e]
    by_cases c : cm a b (i + 1) (j + 1) + 1 > max (cm a b i (j + 1)) (cm a b (i + 1) j)
    · rw [if_pos ⟨e, c⟩]
    · rw [if_neg (fun h => c h.2)]; omega
  · rw [if_neg (fun h => e h.1), cm_ne hi hj e]; omega
theorem cm_le (a b : List Str) (i j : Nat) : cm a b i j ≤ a.length := by
  have := lcs_le (a.drop i) (b.drop j)
  unfold cm
  rw [List.length_drop] at this
  omega
/- edits -/
abbrev Ed := Int × Int × Str
def cnt (s : Str) : Int := ((dec s).length : Int)
def flush (at_ fr : Int) (text : Str) : List Ed := if at_ > fr ∨ text ≠ [] then [(fr, at_, text)] else []
def ed : List Str → List Str → Int → Int → Str → List Ed
  | [], [], at_, fr, text => flush at_ fr text
  | x :: a, [], at_, fr, text => ed a [] (at_ + cnt x) fr text
  | [], y :: b, at_, fr, text => ed [] b at_ fr (text ++ y)
  | x :: a, y :: b, at_, fr, text =>
    if x = y then flush at_ fr text ++ ed a b (at_ + cnt x) (at_ + cnt x) []
    else if lcs a (y :: b) ≥ lcs (x :: a) b then ed a (y :: b) (at_ + cnt x) fr text
    else ed (x :: a) b at_ fr (text ++ y)
termination_by a b => a.length + b.length
theorem ed_nil (at_ fr : Int) (text : Str) : ed [] [] at_ fr text = flush at_ fr text := by rw [ed]
theorem ed_left (x : Str) (a : List Str) (at_ fr : Int) (text : Str) : ed (x :: a) [] at_ fr text = ed a [] (at_ + cnt x) fr text := by rw [ed]
theorem ed_right (y : Str) (b : List Str) (at_ fr : Int) (text : Str) : ed [] (y :: b) at_ fr text = ed [] b at_ fr (text ++ y) := by rw [ed]
theorem ed_both (x y : Str) (a b : List Str) (at_ fr : Int) (text : Str) : ed (x :: a) (y :: b) at_ fr text =
    if x = y then flush at_ fr text ++ ed a b (at_ + cnt x) (at_ + cnt x) []
    else if lcs a (y :: b) ≥ lcs (x :: a) b then ed a (y :: b) (at_ + cnt x) fr text
    else ed (x :: a) b at_ fr (text ++ y) := by rw [ed]
/-- The edits of two texts' lines. -/
def edits0 (x y : List Str) : List Ed := ed x y 0 0 []
/- edits done, from the last one on -/
def put (l : List Int) (fr to : Int) (t : List Int) : List Int := l.take fr.toNat ++ t ++ l.drop to.toNat
def done (l : List Int) : List Ed → List Int
  | [] => l
  | e :: es => put (done l es) e.1 e.2.1 (dec e.2.2)
def Lines (l : List Str) (rs : List (List Int)) : Prop := l = rs.map encAll ∧ ∀ r ∈ rs, Goods r ∧ r ≠ []
theorem cnt_enc {r : List Int} (h : Goods r) : cnt (encAll r) = r.length := by unfold cnt; rw [dec_enc h]
theorem enc_inj {r s : List Int} (hr : Goods r) (hs : Goods s) (h : encAll r = encAll s) : r = s := by rw [← dec_enc hr, h, dec_enc hs]
theorem done_flush {A D R : List Int} {at_ fr : Int} {T : List Int} (hT : Goods T) (hf : fr = A.length) (ha : at_ = (A.length + D.length : Nat)) (es : List Ed) (l : List Int) (h : done l es = A ++ D ++ R) :
    done l (flush at_ fr (encAll T) ++ es) = A ++ T ++ R := by
  unfold flush
  split
  · show put (done l es) fr at_ (dec (encAll T)) = _
    rw [h, dec_enc hT]
    unfold put
    have e1 : fr.toNat = A.length := by omega
    have e2 : at_.toNat = (A ++ D).length := by rw [List.length_append]; omega
    rw [e1, e2]
    rw [List.drop_left, List.append_assoc A D R, List.take_left]
  · rename_i hn
    have hD : D = [] := by
      apply List.length_eq_zero_iff.1
      apply Classical.byContradiction
      intro h0
      exact hn (.inl (by omega))
    have hT0 : T = [] := by
      apply Classical.byContradiction
      intro h0
      exact hn (.inr (encAll_ne hT h0))
    subst hD
    subst hT0
    simpa using h
theorem goods_append {a b : List Int} (ha : Goods a) (hb : Goods b) : Goods (a ++ b) := fun x hx => by
  rcases List.mem_append.1 hx with h | h
  · exact ha x h
  · exact hb x h
theorem goods_nil : Goods [] := fun x hx => by simp at hx
/-- The edits make the other text. -/
theorem done_ed : ∀ (n : Nat) (x y : List Str) (rx ry : List (List Int)) (A D T : List Int) (at_ fr : Int), x.length + y.length ≤ n → Lines x rx → Lines y ry → Goods T → fr = A.length → at_ = (A.length + D.length : Nat) →
    done (A ++ D ++ rx.flatten) (ed x y at_ fr (encAll T)) = A ++ T ++ ry.flatten := by
  intro n
  induction n with
  | zero =>
    intro x y rx ry A D T at_ fr hn hx hy hT hf ha
    cases x with
    | cons => simp at hn
    | nil =>
    cases y with
    | cons => simp at hn
    | nil =>
    have rx0 : rx = [] := List.map_eq_nil_iff.1 hx.1.symm
    have ry0 : ry = [] := List.map_eq_nil_iff.1 hy.1.symm
    subst rx0; subst ry0
    rw [ed_nil]
    have := done_flush (R := []) hT hf ha [] (A ++ D) (by simp [done])
    simpa using this
  | succ n ih =>
    intro x y rx ry A D T at_ fr hn hx hy hT hf ha
    cases x with
    | nil =>
      have rx0 : rx = [] := List.map_eq_nil_iff.1 hx.1.symm
      subst rx0
      cases y with
      | nil =>
        have ry0 : ry = [] := List.map_eq_nil_iff.1 hy.1.symm
        subst ry0
        rw [ed_nil]
        have := done_flush (R := []) hT hf ha [] (A ++ D) (by simp [done])
        simpa using this
      | cons y0 y =>
        cases ry with
        | nil => simp [Lines] at hy
        | cons r0 ry =>
          obtain ⟨e1, e2⟩ := hy
          simp only [List.map_cons, List.cons.injEq] at e1
          obtain ⟨rfl, rfl⟩ := e1
          rw [ed_right, ← encAll_append]
          rw [ih [] _ [] ry A D (T ++ r0) at_ fr (by simp at hn ⊢; omega) hx ⟨rfl, fun r hr => e2 r (by simp [hr])⟩ (goods_append hT (e2 r0 (by simp)).1) hf ha]
          simp
    | cons x0 x =>
      cases rx with
      | nil => simp [Lines] at hx
      | cons q0 rx =>
        obtain ⟨d1, d2⟩ := hx
        simp only [List.map_cons, List.cons.injEq] at d1
        obtain ⟨rfl, rfl⟩ := d1
        have hq := d2 q0 (by simp)
        have hx' : Lines (rx.map encAll) rx := ⟨rfl, fun r hr => d2 r (by simp [hr])⟩
        have drop : ∀ y ry, Lines y ry → (rx.map encAll).length + y.length ≤ n → done (A ++ D ++ (q0 :: rx).flatten) (ed (rx.map encAll) y (at_ + cnt (encAll q0)) fr (encAll T)) = A ++ T ++ ry.flatten := by
          intro y ry hy hn
          have := ih (rx.map encAll) y rx ry A (D ++ q0) T (at_ + cnt (encAll q0)) fr hn hx' hy hT hf (by rw [cnt_enc hq.1, List.length_append]; omega)
          rw [← this]
          simp
        cases y with
        | nil =>
          rw [ed_left]
          exact drop [] ry hy (by simp at hn ⊢; omega)
        | cons y0 y =>
          cases ry with
          | nil => simp [Lines] at hy
          | cons r0 ry =>
            have hyy := hy
            obtain ⟨e1, e2⟩ := hy
            simp only [List.map_cons, List.cons.injEq] at e1
            obtain ⟨rfl, rfl⟩ := e1
            have hr := e2 r0 (by simp)
            have hy' : Lines (ry.map encAll) ry := ⟨rfl, fun r hr => e2 r (by simp [hr])⟩
            rw [ed_both]
            split
            · rename_i e
              have : q0 = r0 := enc_inj hq.1 hr.1 e
              subst this
              have h1 := ih (rx.map encAll) (ry.map encAll) rx ry (A ++ D ++ q0) [] [] (at_ + cnt (encAll q0)) (at_ + cnt (encAll q0)) (by simp at hn ⊢; omega) hx' hy' goods_nil (by rw [cnt_enc hq.1]; simp; omega) (by rw [cnt_enc hq.1]; simp; omega)
              rw [encAll_nil] at h1
              have h2 := done_flush (R := q0 ++ ry.flatten) hT hf ha (ed (rx.map encAll) (ry.map encAll) (at_ + cnt (encAll q0)) (at_ + cnt (encAll q0)) []) (A ++ D ++ (q0 :: rx).flatten) (by
                rw [show A ++ D ++ (q0 :: rx).flatten = A ++ D ++ q0 ++ [] ++ rx.flatten by simp, h1]; simp)
              rw [h2]
              simp
            · split
              · exact drop _ _ hyy (by simp at hn ⊢; omega)
              · rw [← encAll_append]
                rw [ih (encAll q0 :: rx.map encAll) (ry.map encAll) (q0 :: rx) ry A D (T ++ r0) at_ fr (by simp at hn ⊢; omega) ⟨rfl, d2⟩ hy' (goods_append hT hr.1) hf ha]
                simp
theorem lines_Lines (s : Str) : Lines (linesS s) (linesR (dec s)) := by
  refine ⟨rfl, fun r hr => ⟨fun x hx => ?_, linesG_ne _ _ r hr⟩⟩
  refine dec_good s x ?_
  have : x ∈ (linesR (dec s)).flatten := List.mem_flatten.2 ⟨r, hr, hx⟩
  rwa [linesR_flat] at this
theorem done_edits (a b : Str) : done (dec a) (edits0 (linesS a) (linesS b)) = dec b := by
  have := done_ed _ (linesS a) (linesS b) _ _ [] [] [] 0 0 (Nat.le_refl _) (lines_Lines a) (lines_Lines b) goods_nil rfl rfl
  rw [encAll_nil] at this
  simpa [linesR_flat, edits0] using this
/-- Edits in order, within so many runes. -/
def Ordered (n : Int) : Int → List Ed → Prop
  | _, [] => True
  | last, e :: es => last ≤ e.1 ∧ e.1 ≤ e.2.1 ∧ e.2.1 ≤ n ∧ Ordered n e.2.1 es
theorem Ordered.mono {n a b : Int} (h : a ≤ b) : ∀ {es : List Ed}, Ordered n b es → Ordered n a es
  | [], _ => trivial
  | e :: es, ⟨h1, h2⟩ => ⟨Int.le_trans h h1, h2⟩
def total (x : List Str) : Int := (x.map cnt).sum
theorem cnt_nonneg (s : Str) : 0 ≤ cnt s := by unfold cnt; omega
theorem total_nonneg (x : List Str) : 0 ≤ total x := by
  induction x with
  | nil => simp [total]
  | cons s x ih =>
    have := cnt_nonneg s
    simp only [total, List.map_cons, List.sum_cons] at *
    omega
theorem total_cons (s : Str) (x : List Str) : total (s :: x) = cnt s + total x := rfl
theorem ord_flush {n last at_ fr : Int} (hl : last ≤ fr) (hf : fr ≤ at_) (hn : at_ ≤ n) (text : Str) {es : List Ed} (h : Ordered n at_ es) : Ordered n last (flush at_ fr text ++ es) := by
  unfold flush
  split
  · exact ⟨hl, hf, hn, h⟩
  · exact h.mono (by omega)
theorem ord_ed : ∀ (k : Nat) (x y : List Str) (n last at_ fr : Int) (text : Str), x.length + y.length ≤ k → last ≤ fr → fr ≤ at_ → at_ + total x ≤ n → Ordered n last (ed x y at_ fr text) := by
  intro k
  induction k with
  | zero =>
    intro x y n last at_ fr text hk hl hf hn
    cases x with
    | cons => simp at hk
    | nil =>
    cases y with
    | cons => simp at hk
    | nil =>
    rw [ed_nil]
    have := ord_flush (es := []) hl hf (by simpa [total] using hn) text trivial
    simpa using this
  | succ k ih =>
    intro x y n last at_ fr text hk hl hf hn
    cases x with
    | nil =>
      cases y with
      | nil =>
        rw [ed_nil]
        have := ord_flush (es := []) hl hf (by simpa [total] using hn) text trivial
        simpa using this
      | cons y0 y => rw [ed_right]; exact ih _ _ n last at_ fr _ (by simp at hk ⊢; omega) hl hf hn
    | cons x0 x =>
      have hc := cnt_nonneg x0
      have ht := total_nonneg x
      rw [total_cons] at hn
      cases y with
      | nil => rw [ed_left]; exact ih _ _ n last _ fr _ (by simp at hk ⊢; omega) hl (by omega) (by omega)
      | cons y0 y =>
        rw [ed_both]
        split
        · exact ord_flush hl hf (by omega) text ((ih x y n (at_ + cnt x0) (at_ + cnt x0) (at_ + cnt x0) [] (by simp at hk ⊢; omega) (Int.le_refl _) (Int.le_refl _) (by omega)).mono (by omega))
        · split
          · exact ih _ _ n last _ fr _ (by simp at hk ⊢; omega) hl (by omega) (by omega)
          · exact ih _ _ n last at_ fr _ (by simp at hk ⊢; omega) hl hf (by rw [total_cons]; omega)
theorem total_lines {x : List Str} {rx : List (List Int)} (h : Lines x rx) : total x = rx.flatten.length := by
  obtain ⟨rfl, h⟩ := h
  induction rx with
  | nil => rfl
  | cons r rx ih =>
    rw [List.map_cons, total_cons, cnt_enc (h r (by simp)).1, ih (fun s hs => h s (by simp [hs]))]
    simp
theorem ord_edits (a b : Str) : Ordered (dec a).length 0 (edits0 (linesS a) (linesS b)) := by
  refine ord_ed _ _ _ _ 0 0 0 [] (Nat.le_refl _) (Int.le_refl _) (Int.le_refl _) ?_
  rw [total_lines (lines_Lines a), linesR_flat]
  omega
/- like texts -/
theorem ed_same : ∀ (x : List Str) (at_ : Int), ed x x at_ at_ [] = []
  | [], at_ => by rw [ed_nil]; unfold flush; simp
  | s :: x, at_ => by rw [ed_both, if_pos rfl, ed_same x]; unfold flush; simp
theorem ed_pending : ∀ (k : Nat) (x y : List Str) (at_ fr : Int) (text : Str), x.length + y.length ≤ k → (at_ > fr ∨ text ≠ []) → ed x y at_ fr text ≠ [] := by
  intro k
  induction k with
  | zero =>
    intro x y at_ fr text hk h
    cases x with
    | cons => simp at hk
    | nil =>
    cases y with
    | cons => simp at hk
    | nil => rw [ed_nil]; unfold flush; rw [if_pos h]; simp
  | succ k ih =>
    intro x y at_ fr text hk h
    cases x with
    | nil =>
      cases y with
      | nil => rw [ed_nil]; unfold flush; rw [if_pos h]; simp
      | cons y0 y =>
        rw [ed_right]
        refine ih _ _ _ _ _ (by simp at hk ⊢; omega) ?_
        rcases h with h | h
        · exact .inl h
        · exact .inr (by simp [h])
    | cons x0 x =>
      have hc := cnt_nonneg x0
      have hd : at_ + cnt x0 > fr ∨ text ≠ [] := by
        rcases h with h | h
        · exact .inl (by omega)
        · exact .inr h
      cases y with
      | nil => rw [ed_left]; exact ih _ _ _ _ _ (by simp at hk ⊢; omega) hd
      | cons y0 y =>
        rw [ed_both]
        split
        · unfold flush; rw [if_pos h]; simp
        · split
          · exact ih _ _ _ _ _ (by simp at hk ⊢; omega) hd
          · refine ih _ _ _ _ _ (by simp at hk ⊢; omega) ?_
            rcases h with h | h
            · exact .inl h
            · exact .inr (by simp [h])
theorem ed_empty : ∀ (x y : List Str) (rx ry : List (List Int)) (at_ : Int), Lines x rx → Lines y ry → ed x y at_ at_ [] = [] → x = y
  | [], [], _, _, _, _, _, _ => rfl
  | x0 :: x, [], rx, ry, at_, hx, hy, h => by
    exfalso
    rw [ed_left] at h
    have hc : cnt x0 > 0 := by
      obtain ⟨e, hg⟩ := hx
      cases rx with
      | nil => simp at e
      | cons r rx =>
        simp only [List.map_cons, List.cons.injEq] at e
        rw [e.1, cnt_enc (hg r (by simp)).1]
        have := List.length_pos_iff.2 (hg r (by simp)).2
        omega
    exact ed_pending _ _ _ _ _ _ (Nat.le_refl _) (.inl (by omega)) h
  | [], y0 :: y, rx, ry, at_, hx, hy, h => by
    exfalso
    rw [ed_right] at h
    have hc : y0 ≠ [] := by
      obtain ⟨e, hg⟩ := hy
      cases ry with
      | nil => simp at e
      | cons r ry =>
        simp only [List.map_cons, List.cons.injEq] at e
        rw [e.1]
        exact encAll_ne (hg r (by simp)).1 (hg r (by simp)).2
    exact ed_pending _ _ _ _ _ _ (Nat.le_refl _) (.inr (by simp [hc])) h
  | x0 :: x, y0 :: y, rx, ry, at_, hx, hy, h => by
    have hc : cnt x0 > 0 := by
      obtain ⟨e, hg⟩ := hx
      cases rx with
      | nil => simp at e
      | cons r rx =>
        simp only [List.map_cons, List.cons.injEq] at e
        rw [e.1, cnt_enc (hg r (by simp)).1]
        have := List.length_pos_iff.2 (hg r (by simp)).2
        omega
    have hc2 : y0 ≠ [] := by
      obtain ⟨e, hg⟩ := hy
      cases ry with
      | nil => simp at e
      | cons r ry =>
        simp only [List.map_cons, List.cons.injEq] at e
        rw [e.1]
        exact encAll_ne (hg r (by simp)).1 (hg r (by simp)).2
    rw [ed_both] at h
    split at h
    · rename_i e
      subst e
      obtain ⟨_, h2⟩ := List.append_eq_nil_iff.1 h
      cases rx with
      | nil => simp [Lines] at hx
      | cons r rx =>
        cases ry with
        | nil => simp [Lines] at hy
        | cons q ry =>
          obtain ⟨e1, g1⟩ := hx
          obtain ⟨e2, g2⟩ := hy
          simp only [List.map_cons, List.cons.injEq] at e1 e2
          rw [ed_empty x y rx ry _ ⟨e1.2, fun z hz => g1 z (by simp [hz])⟩ ⟨e2.2, fun z hz => g2 z (by simp [hz])⟩ h2]
    · split at h
      · exact (ed_pending _ _ _ _ _ _ (Nat.le_refl _) (.inl (by omega)) h).elim
      · exact (ed_pending _ _ _ _ _ _ (Nat.le_refl _) (.inr (by simp [hc2])) h).elim
theorem same_iff (a b : Str) : edits0 (linesS a) (linesS b) = [] ↔ clean a = clean b := by
  constructor
  · intro h
    have := ed_empty _ _ _ _ 0 (lines_Lines a) (lines_Lines b) h
    have h2 := congrArg total this
    have e : (linesR (dec a)) = linesR (dec b) := by
      have h3 : (linesS a).map dec = (linesS b).map dec := by rw [this]
      have back : ∀ s, (linesS s).map dec = linesR (dec s) := fun s => by
        obtain ⟨_, hg⟩ := lines_Lines s
        unfold linesS
        rw [List.map_map]
        refine (List.map_congr_left (g := id) fun r hr => ?_).trans (List.map_id _)
        exact dec_enc (hg r hr).1
      rw [back, back] at h3
      exact h3
    have := congrArg List.flatten e
    rw [linesR_flat, linesR_flat] at this
    unfold clean
    rw [this]
  · intro h
    have : dec a = dec b := by rw [← dec_clean a, h, dec_clean]
    unfold linesS
    rw [this]
    exact ed_same _ 0
/- nothing -/
theorem ed_put : ∀ (y : List Str) (at_ fr : Int) (text : Str), ed [] y at_ fr text = flush at_ fr (text ++ y.flatten)
  | [], at_, fr, text => by rw [ed_nil]; simp
  | s :: y, at_, fr, text => by rw [ed_right, ed_put y]; simp
theorem ed_drop : ∀ (x : List Str) (at_ fr : Int) (text : Str), ed x [] at_ fr text = flush (at_ + total x) fr text
  | [], at_, fr, text => by rw [ed_nil]; simp [total]
  | s :: x, at_, fr, text => by rw [ed_left, ed_drop x, total_cons, Int.add_assoc]
theorem flatten_enc : ∀ rx : List (List Int), (rx.map encAll).flatten = encAll rx.flatten
  | [] => rfl
  | r :: rx => by rw [List.map_cons, List.flatten_cons, flatten_enc rx, List.flatten_cons, encAll_append]
theorem lines_flat (s : Str) : (linesS s).flatten = clean s := by
  unfold linesS clean
  rw [flatten_enc, linesR_flat]
end Go.Proofs.YtpbhfbphefmchaaDoor.Cmp
/- Compare: numbers, walked: like lines have one number. -/
set_option linter.unusedVariables false
set_option linter.unusedSimpArgs false
namespace Go.Proofs.YtpbhfbphefmchaaDoor.Cmp
open Go Go.RowKit Go.Maps Go.Proofs
/- lines seen, in order -/
def addK (K : List Str) (x : Str) : List Str := if x ∈ K then K else K ++ [x]
def keysK (K : List Str) (l : List Str) : List Str := l.foldl addK K
def idx (K : List Str) (x : Str) : Int := (K.idxOf x : Nat)
theorem addK_pre (K : List Str) (x : Str) : K <+: addK K x := by unfold addK; split <;> simp
theorem addK_mem (K : List Str) (x : Str) : x ∈ addK K x := by unfold addK; split <;> simp_all
theorem keysK_snoc (K l : List Str) (x : Str) : keysK K (l ++ [x]) = addK (keysK K l) x := by simp [keysK]
theorem keysK_pre : ∀ (l K : List Str), K <+: keysK K l
  | [], K => by simp [keysK]
  | x :: l, K => (addK_pre K x).trans (keysK_pre l (addK K x))
theorem idx_pre {K K' : List Str} (h : K <+: K') {x : Str} (hx : x ∈ K) : idx K' x = idx K x := by
  obtain ⟨t, rfl⟩ := h
  unfold idx
  rw [List.idxOf_append, if_pos hx]
/-- The numbers of lines, behind those that were seen. -/
def numsK (K l : List Str) : List Int := l.map (idx (keysK K l))
theorem keysK_mem (K l : List Str) : ∀ x ∈ l, x ∈ keysK K l := by
  intro x hx
  obtain ⟨a, b, rfl⟩ := List.append_of_mem hx
  have : keysK K (a ++ x :: b) = keysK (addK (keysK K a) x) b := by simp [keysK]
  rw [this]
  exact (keysK_pre b _).subset (addK_mem _ _)
theorem numsK_snoc (K l : List Str) (x : Str) : numsK K (l ++ [x]) = numsK K l ++ [idx (addK (keysK K l) x) x] := by
  unfold numsK
  rw [keysK_snoc, List.map_append]
  congr 1
  refine List.map_congr_left fun y hy => ?_
  exact idx_pre (addK_pre _ _) (keysK_mem K l y hy)
abbrev DU := DataW Unit
/-- The map holds the lines that were seen, each with its number. -/
structure MapRel (D : DU) (K : List Str) : Prop where
  size : Maps.size D = K.length
  has : ∀ x : Str, Maps.has D (.string x) = decide (x ∈ K)
  at_ : ∀ x ∈ K, D.atKey (.string x) (.lit (.int .i64 0)) = .lit (.int .i64 (idx K x))
theorem mapRel_nil : MapRel (.map []) [] := ⟨rfl, fun x => by simp [Maps.has], fun x hx => by simp at hx⟩
theorem isKey_str (x : Str) : WideAt.IsKeyLit (.string x) := by trivial
theorem MapRel.put {D : DU} {K : List Str} (h : MapRel D K) (ht : Maps.Tidy D) {x : Str} (hx : x ∉ K) : MapRel (D.put (.string x) (.lit (.int .i64 (K.length : Nat)))) (K ++ [x]) := by
  have hi := ht.isMap
  have hne : ∀ y, y ≠ x → (Lit.string y) ≠ Lit.string x := fun y e h => e (by injection h)
  refine ⟨?_, fun y => ?_, fun y hy => ?_⟩
  · rw [Maps.size_put ht, h.has x, if_neg (by simpa using hx), h.size]; simp
  · by_cases e : y = x
    · subst e; rw [Maps.has_put_same hi (isKey_str _)]; simp
    · rw [Maps.has_put_other (hne y e), h.has y]; simp [e]
  · by_cases e : y = x
    · subst e
      rw [Maps.atKey_put_same hi (isKey_str _)]
      unfold idx
      rw [List.idxOf_append, if_neg hx]
      simp
    · have hy' : y ∈ K := by
        rcases List.mem_append.1 hy with h | h
        · exact h
        · simp at h; exact (e h).elim
      rw [Maps.atKey_put_other (hne y e), h.at_ y hy', idx_pre (K := K) (K' := K ++ [x]) (by simp) hy']
/-- What lies below stays, but for one block. -/
structure But (B mb : Nat) (w w' : World) : Prop where
  os : w'.os = w.os
  tape : w'.tape = w.tape
  output : w'.output = w.output
  size : w.heap.size ≤ w'.heap.size
  block : ∀ k, k < B → k ≠ mb → w'.heap[k]? = w.heap[k]?
theorem But.refl (B mb : Nat) (w : World) : But B mb w w := ⟨rfl, rfl, rfl, Nat.le_refl _, fun _ _ _ => rfl⟩
theorem But.alloc {B mb : Nat} {w w' : World} (h : But B mb w w') (hB : B ≤ w'.heap.size) (o : Obj) : But B mb w (w'.alloc o) :=
  ⟨h.os, h.tape, h.output, by have := h.size; simp; omega, fun k hk hne => (Below.heap_alloc _ _ _ (by omega)).trans (h.block k hk hne)⟩
theorem But.grown {B mb : Nat} {w w' w2 : World} {row : Option Nat} (h : But B mb w w') (hB : B ≤ w'.heap.size) (g : w'.grownBy w2 row) (hr : ∀ k, row = some k → k = mb ∨ B ≤ k) : But B mb w w2 :=
  ⟨g.os.trans h.os, g.tape.trans h.tape, g.output.trans h.output, Nat.le_trans h.size g.size, fun k hk hne => (g.block k (by omega) (fun e => by
    rcases hr k e.symm with h | h
    · exact hne h
    · omega)).trans (h.block k hk hne)⟩
abbrev tInt : TypeId := 3
abbrev tStr : TypeId := 9
abbrev tInts : TypeId := 39
abbrev tMap : TypeId := 69
theorem uStr : Tryd.prog.underlying tStr = some .string := by kernel_rfl
theorem uInt : Tryd.prog.underlying tInt = some (.int .i64) := by kernel_rfl
theorem uInts : Tryd.prog.underlying tInts = some (.slice tInt) := by kernel_rfl
theorem uMap : Tryd.prog.underlying tMap = some (.map tStr tInt) := by kernel_rfl
theorem strLaw : Keyed Tryd.prog tStr := string_keyed uStr
theorem zInt (w : World) : (zeroValue tInt).run Tryd.prog w = .ok (.int .i64 0) w := by kernel_rfl
theorem iInt : (Tryd.prog.info? tInt).map (fun i => (i.zero, i.size, i.bytes)) = some (some (.int .i64 0), 1, 8) := by kernel_rfl
def StrAt (w : World) (ad : Option Addr) (mb : Nat) (l : List Str) : Prop :=
  ∀ k, k < l.length → ∃ b off, ad = some ⟨b, off, none⟩ ∧ b ≠ mb ∧ b < w.heap.size ∧ w.cell? ⟨b, off + k, none⟩ = some (.string ⟨(ln l k).toArray⟩)
theorem take_ln {l : List Str} {k : Nat} (hk : k < l.length) : l.take (k + 1) = l.take k ++ [ln l k] := by
  rw [List.take_add_one, List.getElem?_eq_getElem hk]
  unfold ln
  rw [List.getD_eq_getElem?_getD, List.getElem?_eq_getElem hk]
  rfl
theorem row_ne' {w : World} {base mb : Nat} {v : Value} {zs : List Int} (h : w.ownsInts base tInt .i64 v zs) (hm : mb < base) : v.ownBlock ≠ some mb := fun e => by
  have := (h.1.lt mb e).1
  omega
set_option maxHeartbeats 4000000 in
set_option maxRecDepth 1000000 in
theorem numbers_walk (mb n0 len cap : Nat) (ad : Option Addr) (K l : List Str) (D : DU) (w : World) (hlen : l.length = len) (hl : len ≤ 1000000) (hn0 : n0 ≤ 1000000) (hsz : ∀ x ∈ l, x.length ≤ 1000000)
    (hs : StrAt w ad mb l) (hm : mb < w.heap.size) (hown : w.ownsMap Tryd.prog tStr (plainElem Tryd.prog tInt) mb n0 D) (hrel : MapRel D K) (hK : K.length ≤ 1000000) :
    Calls Tryd.prog 39 #[.map (some mb), .slice ad len cap] w fun E W => ∃ v D', E = .returned v ∧ W.ownsMap Tryd.prog tStr (plainElem Tryd.prog tInt) mb (n0 + len) D' ∧ MapRel D' (keysK K l) ∧ W.ownsInts w.heap.size tInt .i64 v (numsK K l) ∧ But w.heap.size mb w W := by
  obtain ⟨i0, hi, hz0, hz1, hz2⟩ := info_parts iInt
  go_enter Tryd.func39, Tryd.ntmps39
  go_wp2
  have hrel0 := hrel
  clear hrel
  go_loopw [5, 12] (fun v i wr => ∃ (k : Nat) (D' : DU), k ≤ len ∧ i = .int .i64 k ∧ wr.ownsMap Tryd.prog tStr (plainElem Tryd.prog tInt) mb (n0 + k) D' ∧ MapRel D' (keysK K (l.take k)) ∧ wr.ownsInts w.heap.size tInt .i64 v (numsK K (l.take k)) ∧ But w.heap.size mb w wr)
    (fun _ i _ => len - (intOf i).toNat)
  case atStart => exact ⟨0, D, Nat.zero_le _, rfl, hown, by simpa [keysK] using hrel0, World.ownsInts_nil _ _ _ _, But.refl _ _ _⟩
  case round =>
    obtain ⟨k, D', hk, rfl, hown', hr', hrow, hbut⟩ := hrel
    by_cases hlt : k < len
    · obtain ⟨b, off, rfl, hbm, hbw, hc0⟩ := hs k (by omega)
      have hcx : wr.cell? ⟨b, off + k, none⟩ = some (.string ⟨(ln l k).toArray⟩) := by
        rw [← hc0]
        exact World.cell?_of_block (a := ⟨b, off + k, none⟩) (hbut.block b hbw hbm)
      have hmem : ln l k ∈ l := by
        unfold ln
        rw [List.getD_eq_getElem?_getD, List.getElem?_eq_getElem (by omega)]
        exact List.getElem_mem _
      have hkey : keyOf Tryd.prog tStr (.string ⟨(ln l k).toArray⟩) = some (.string (ln l k)) := by
        have := WideMaps.keyOf_string_mk uStr (s := ⟨(ln l k).toArray⟩) (by have := hsz _ hmem; simp [ByteArray.size]; unfold maxLen; omega)
        simpa using this
      have hKl : (keysK K (l.take k)).length ≤ K.length + k := by
        have : ∀ (l K : List Str), (keysK K l).length ≤ K.length + l.length := by
          intro l
          induction l with
          | nil => intro K; simp [keysK]
          | cons x l ih =>
            intro K
            have := ih (addK K x)
            have h2 : (addK K x).length ≤ K.length + 1 := by unfold addK; split <;> simp
            simp only [keysK, List.foldl_cons, List.length_cons] at *
            omega
        have := this (l.take k) K
        rw [List.length_take] at this
        omega
      have hsize := hr'.size
      have hhas := hr'.has (ln l k)
      by_cases hin : ln l k ∈ keysK K (l.take k)
      · have hat := hr'.at_ _ hin
        have hadd : addK (keysK K (l.take k)) (ln l k) = keysK K (l.take k) := by unfold addK; rw [if_pos hin]
        have hb : Maps.has D' (.string (ln l k)) = true := by rw [hhas]; simpa using hin
        go_wp2_with (first
          | (at_lookup; refine wpList_lookup_own_ok_int _ rfl _ _ tMap rfl tStr tInt .i64 strLaw uMap uInt (zInt _) mb _ D' rfl hown' _ _ rfl hkey ?_; intro c hat1 hwc1; rw [hb])
          | (at_lookup; refine wpList_lookup_own_int _ rfl _ _ tMap rfl tStr tInt .i64 strLaw uMap uInt (zInt _) mb _ D' rfl hown' _ _ rfl hkey ?_; intro c2 hat2 hwc2)
          | (at_builtin; refine wpList_append_own _ rfl _ _ tInts rfl w.heap.size tInt i0 (.int .i64 0) 1 8 uInts hi hz0 hz1 hz2 rfl (by decide) _ _ _ rfl (hrow.1.alloc _) ⟨wr.heap.size, 0, none⟩ 1 1 [.int .i64 c2] rfl rfl (cell_one_new _ _ _) (ints_oneCell .i64 [c2]) (by unfold maxLen; rw [numsK, List.length_map, List.length_take]; omega) (by rw [numsK, List.length_map, List.length_take]; omega) (by have := hbut.size; simp; omega) ?_; intro v2 w2 hown2 hgrow2 hnil2)
          | go_in)
        obtain rfl : c2 = idx (keysK K (l.take k)) (ln l k) := by
          have := hat.symm.trans hat2
          injection this with h1
          injection h1 with _ h2
          exact h2.symm
        go_roundw
        case rel =>
          refine ⟨k + 1, D', by omega, by go_num, ?_, ?_, ?_, ?_⟩
          · exact ((hown'.mono (by omega)).alloc _).kept hgrow2 (row_ne' hrow hm).symm
          · rw [take_ln (by omega), keysK_snoc, hadd]; exact hr'
          · rw [take_ln (by omega), numsK_snoc, hadd]
            exact hrow.appended hown2 hwc2
          · exact (hbut.alloc hbut.size _).grown (by have := hbut.size; simp; omega) hgrow2 (fun j hj => .inr (hrow.1.lt j hj).1)
        case measure => simp [intOf]; omega
      · have hadd : addK (keysK K (l.take k)) (ln l k) = keysK K (l.take k) ++ [ln l k] := by unfold addK; rw [if_neg hin]
        have hb : Maps.has D' (.string (ln l k)) = false := by rw [hhas]; simpa using hin
        have hr2 := hr'.put (hown'.tidy strLaw) hin
        have hat := hr2.at_ (ln l k) (by simp)
        have hwl : (Lit.int .i64 ((keysK K (l.take k)).length : Int)).wf = true := by simp [Lit.wf, IntKind.min, IntKind.max, IntKind.bits, IntKind.signed]; omega
        go_wp2_with (first
          | (at_lookup; refine wpList_lookup_own_ok_int _ rfl _ _ tMap rfl tStr tInt .i64 strLaw uMap uInt (zInt _) mb _ D' rfl hown' _ _ rfl hkey ?_; intro c hat1 hwc1; rw [hb])
          | (at_len; refine wpList_len_own _ rfl _ tMap rfl tStr tInt uMap _ mb _ D' rfl hown' ?_; rw [hsize])
          | (at_mapUpdate; refine wpList_mapUpdate_own _ rfl _ _ _ tMap rfl tStr tInt strLaw uMap (plainElem (H := Unit) Tryd.prog tInt) mb _ D' rfl hown' (by unfold maxLen; omega) _ _ _ rfl rfl hkey _ [] (plainElem_int uInt hwl) ?_; intro w1 hown1 hgrow1)
          | (at_lookup; refine wpList_lookup_own_int _ rfl _ _ tMap rfl tStr tInt .i64 strLaw uMap uInt (zInt _) mb _ _ rfl hown1 _ _ rfl hkey ?_; intro c2 hat2 hwc2)
          | (at_builtin; refine wpList_append_own _ rfl _ _ tInts rfl w.heap.size tInt i0 (.int .i64 0) 1 8 uInts hi hz0 hz1 hz2 rfl (by decide) _ _ _ rfl ((hrow.1.kept hgrow1 (.inr (row_ne' hrow hm))).alloc _) ⟨w1.heap.size, 0, none⟩ 1 1 [.int .i64 c2] rfl rfl (cell_one_new _ _ _) (ints_oneCell .i64 [c2]) (by unfold maxLen; rw [numsK, List.length_map, List.length_take]; omega) (by rw [numsK, List.length_map, List.length_take]; omega) (by have := hbut.size; have := hgrow1.size; simp; omega) ?_; intro v2 w2 hown2 hgrow2 hnil2)
          | go_in)
        obtain rfl : c2 = idx (keysK K (l.take k) ++ [ln l k]) (ln l k) := by
          have := hat.symm.trans hat2
          injection this with h1
          injection h1 with _ h2
          exact h2.symm
        have hrow1 := hrow.kept hgrow1 (.inr (row_ne' hrow hm))
        go_roundw
        case rel =>
          refine ⟨k + 1, D'.put (.string (ln l k)) (.lit (.int .i64 ((keysK K (l.take k)).length : Nat))), by omega, by go_num, ?_, ?_, ?_, ?_⟩
          · exact (hown1.alloc _).kept hgrow2 (row_ne' hrow hm).symm
          · rw [take_ln (by omega), keysK_snoc, hadd]; exact hr2
          · rw [take_ln (by omega), numsK_snoc, hadd]
            exact hrow1.appended hown2 hwc2
          · have b1 := hbut.grown hbut.size hgrow1 (fun j hj => .inl (by cases hj; rfl))
            exact (b1.alloc b1.size _).grown (by have := b1.size; simp; omega) hgrow2 (fun j hj => .inr (hrow.1.lt j hj).1)
        case measure => simp [intOf]; omega
    · obtain rfl : k = len := by omega
      have ht : l.take k = l := List.take_of_length_le (by omega)
      rw [ht] at hr' hrow
      go_wp2
      go_ret
      exact ⟨_, _, rfl, hown', hr', hrow, hbut⟩
end Go.Proofs.YtpbhfbphefmchaaDoor.Cmp
