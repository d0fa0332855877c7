/- Pv: a machine on pure data. A function of the program is run on data (a slice is the list of its cells; memory is only what is boxed). Where it gives no answer nothing is claimed. This text has the definitions alone. -/
import Derived.WalkKit
import Derived.Orders
set_option linter.unusedSimpArgs false
set_option linter.unusedVariables false
namespace Go.Proofs.Ytaobccodpdmieaa.Pv
open Go

/-- Data. 'sl': a slice's cells and its length; 'ref': a pointer into cells that do not turn any more. 'und': whatever. -/
inductive D where
  | und
  | int (k : IntKind) (n : Int)
  | bool (b : Bool)
  | str (s : List UInt8)
  | nil
  | nilsl
  | nilmp
  | nilfn
  | nilifc
  | fn (f : FuncId)
  | ref (cells : List D) (off : Nat)
  | sl (cells : List D) (n : Nat)
  | ifc (t : TypeId) (v : D)
  | agg (cells : List D)
  | tup (vs : List D)
  deriving Inhabited

/-- What a slot or a box holds. 'tail': a slice that alone may grow in place; 'full': one without room; 'obj': a pointer into a box; 'osl': a slice over a box. -/
inductive V where
  | d (x : D)
  | tail (E : TypeId) (cells : List D) (n : Nat)
  | full (cells : List D) (n : Nat)
  | obj (id off : Nat)
  | osl (id off n : Nat)
  | clo (fn : Fn) (first cap : List V)
  | agg (vs : List V)
  | tup (vs : List V)
  | mp (id : Nat)
  | it (id : Nat)
  deriving Inhabited

/-- A box. -/
inductive Ob where
  | cells (vs : List V)
  | frozen (ds : List D)
  | map (es : List (D × D)) (clock : Nat)
  | iter (s : List UInt8) (pos : Nat)
  deriving Inhabited

/-- Where a temporary was read from. -/
inductive Loc where
  | slot (t : Nat)
  | cell (id j : Nat)
  deriving DecidableEq

structure St where
  s : List (Nat × V)
  h : List Ob
  og : List (Nat × Loc)

structure Ctx where
  P : Program
  /-- the package-level variables that are known -/
  glob : Nat → Option (List D)
  /-- functions that are not run: what they answer -/
  ext : FuncId → Option (List D → Option V)
  /-- types of pointers that, handed back, point to what does not turn any more -/
  frz : TypeId → Bool

/- Data and the model's values. -/
mutual
def D.toVal : D → Option Value
  | .int k n => some (.int k n)
  | .bool b => some (.bool b)
  | .str s => some (.string ⟨s.toArray⟩)
  | .nil => some (.pointer none)
  | .nilsl => some (.slice none 0 0)
  | .nilmp => some (.map none)
  | .nilfn => some .nilFunc
  | .nilifc => some .nilIface
  | .fn f => some (.func (.func f) #[] #[])
  | .ifc t v => match D.toVal v with
    | some x => some (.iface t x)
    | none => none
  | .agg cs => match D.toVals cs with
    | some xs => some (.agg xs.toArray)
    | none => none
  | .tup cs => match D.toVals cs with
    | some xs => some (.tuple xs.toArray)
    | none => none
  | .und | .ref .. | .sl .. => none
def D.toVals : List D → Option (List Value)
  | [] => some []
  | d :: ds => match D.toVal d, D.toVals ds with
    | some x, some xs => some (x :: xs)
    | _, _ => none
end

def D.ofVal : Nat → Value → D
  | 0, _ => .und
  | n + 1, v => match v with
    | .int k x => .int k x
    | .bool b => .bool b
    | .string s => .str s.data.toList
    | .pointer none => .nil
    | .slice none l c => if l = 0 ∧ c = 0 then .nilsl else .und
    | .map none => .nilmp
    | .nilFunc => .nilfn
    | .nilIface => .nilifc
    | .func (.func f) a b => if a.size = 0 ∧ b.size = 0 then .fn f else .und
    | .iface t x => .ifc t (D.ofVal n x)
    | .agg cs => .agg (cs.toList.map (D.ofVal n))
    | .tuple cs => .tup (cs.toList.map (D.ofVal n))
    | _ => .und

def V.toD : V → Option D
  | .d x => some x
  | .tail _ c n => some (.sl c n)
  | .full c n => some (.sl c n)
  | _ => none

/-- A copy: it may not grow in place. -/
def V.copy : V → V
  | .tail _ c n => .d (.sl c n)
  | v => v

def toDs : List V → Option (List D)
  | [] => some []
  | v :: vs => match v.toD, toDs vs with
    | some d, some ds => some (d :: ds)
    | _, _ => none

/-- May it stand in one cell? -/
def D.one : D → Bool
  | .agg _ | .tup _ | .und => false
  | _ => true
def V.one : V → Bool
  | .d x => x.one
  | .agg _ | .tup _ => false
  | _ => true

/-- A computation of the model that looks at no world. -/
def pureRun {α : Type} (P : Program) : Sem α → Option α
  | .pure a => some a
  | .program k => pureRun P (k P)
  | _ => none

def und : V := .d .und
def undefV : V := .d (.tup [])

def lookT (t : Nat) : List (Nat × V) → V
  | [] => und
  | (u, v) :: r => if u == t then v else lookT t r

def St.get (X : Ctx) (st : St) : Operand → V
  | .tmp t => lookT t st.s
  | .const v => .d (D.ofVal 6 v)
  | .global g => match X.glob g with
    | some cs => .d (.ref cs 0)
    | none => und
  | .func f => .d (.fn f)

def St.put (st : St) (dst : Option Tmp) (v : V) : St :=
  match dst with
  | some t => { s := (t, v) :: st.s, h := st.h, og := st.og.filter fun x => x.1 != t && x.2 != .slot t }
  | none => st

/- Types. -/
def isAggT (P : Program) (t : TypeId) : Bool :=
  match P.underlying t with
  | some (.struct _) => true
  | some (.array _ _) => true
  | _ => false
/-- Is it a struct or an array? -/
def aggT (P : Program) (t : TypeId) : Option Bool :=
  match P.underlying t with
  | some (.struct _) => some true
  | some (.array _ _) => some true
  | some _ => some false
  | none => none
def sizeT (P : Program) (t : TypeId) : Option Nat := (P.info? t).map (·.size)
def elemT (P : Program) (t : TypeId) : Option TypeId :=
  match P.underlying t with
  | some (.slice e) => some e
  | _ => none
def fieldT (P : Program) (t : TypeId) (f : Nat) : Option (Nat × TypeId) :=
  match P.underlying t with
  | some (.struct fs) => (fs[f]?).map fun x => (x.offset, x.type)
  | _ => none
def zeroT (P : Program) (t : TypeId) : Option D :=
  match P.info? t with
  | some i => i.zero.map (D.ofVal 6)
  | none => none

def D.cells : D → List D
  | .agg cs => cs
  | d => [d]
def V.cells : V → List V
  | .d (.agg cs) => cs.map .d
  | .agg vs => vs
  | v => [v]

def aggV (vs : List V) : V :=
  match toDs vs with
  | some ds => .d (.agg ds)
  | none => .agg vs

/-- Is it known how many cells it has? -/
def V.sure : V → Bool
  | .d .und | .d (.tup _) | .tup _ => false
  | _ => true

/-- A part of cells: an aggregate, or one cell. -/
def partD (P : Program) (t : TypeId) (cs : List D) (off : Nat) : Option D :=
  match sizeT P t, aggT P t with
  | some n, some true => if off + n ≤ cs.length then some (.agg ((cs.drop off).take n)) else none
  | some _, some false => cs[off]?
  | _, _ => none
def partV (P : Program) (t : TypeId) (vs : List V) (off : Nat) : Option V :=
  match sizeT P t, aggT P t with
  | some n, some true =>
    if off + n ≤ vs.length then some (aggV (((vs.drop off).take n).map V.copy)) else none
  | some _, some false => (vs[off]?).map V.copy
  | _, _ => none

def splice {α : Type} (xs : List α) (off : Nat) (ys : List α) : List α := xs.take off ++ ys ++ xs.drop (off + ys.length)

/-- A slice's cells and length, as data. -/
def V.slice? : V → Option (List D × Nat)
  | .d (.sl c n) => some (c, n)
  | .d .nilsl => some ([], 0)
  | .tail _ c n => some (c, n)
  | .full c n => some (c, n)
  | _ => none

/- What is pure data of a box is frozen. -/
def freeze (h : List Ob) : V → Option (D × List Ob)
  | .d x => some (x, h)
  | .tail _ c n => some (.sl c n, h)
  | .full c n => some (.sl c n, h)
  | .obj id off => match h[id]? with
    | some (.cells vs) => match toDs (vs.map V.copy) with
      | some ds => if ds.all D.one then some (.ref ds off, h.set id (.frozen ds)) else none
      | none => none
    | some (.frozen ds) => some (.ref ds off, h)
    | _ => none
  | .osl id off n => none
  | _ => none

def bigLen : Nat := 140737488355328

/-- One operation of the pure kind, by the model itself. -/
def pureOp (X : Ctx) (ρ : Operand → V) (o : Oper) : Option D :=
  if o.op.operands.toList.all fun x => (((ρ x).toD).bind D.toVal).isSome then
    match pureRun X.P (execOp (fun x => (((ρ x).toD).bind D.toVal).getD undef) o) with
    | some (.value v) => some (D.ofVal 6 v)
    | _ => none
  else none

/-- Calls: on what is all plain, with an answer that is plain; and any others. -/
structure CallF where
  p : FuncId → List V → Option V
  i : FuncId → List V → List Ob → Option (V × List Ob)

def setOg (st : St) (dst : Option Tmp) (l : Loc) : St :=
  match dst with
  | some t => { st with og := (t, l) :: st.og }
  | none => st

def intOfV : V → Option (IntKind × Int)
  | .d (.int k n) => some (k, n)
  | _ => none

/-- The place that an operand was read from. -/
def ogOf (st : St) : Operand → Option Loc
  | .tmp t => (st.og.find? fun x => x.1 == t).map (·.2)
  | _ => none

/-- What stands at a place; and that copy put in its stead. -/
def locGet (st : St) : Loc → Option V
  | .slot t => some (lookT t st.s)
  | .cell id j => match st.h[id]? with
    | some (.cells vs) => vs[j]?
    | _ => none
def locCopy (st : St) : Loc → St
  | .slot t => match lookT t st.s with
    | .tail _ c n => { st with s := (t, .d (.sl c n)) :: st.s }
    | _ => st
  | .cell id j => match st.h[id]? with
    | some (.cells vs) => { st with h := st.h.set id (.cells (vs.set j ((vs.getD j undefV).copy))) }
    | _ => st

/-- What is appended: a slice's cells, or a string's bytes. -/
def srcOf (P : Program) (u : TypeId) (v : V) : Option (List D × Nat) :=
  match P.underlying u, v with
  | some (.slice _), v => v.slice?
  | some .string, .d (.str s) => some (s.map fun b => .int .u8 b.toNat, s.length)
  | _, _ => none

/-- 'append(s, xs...)'. -/
def appendOp (X : Ctx) (st : St) (t u : TypeId) (s x : Operand) : Option (St × V) :=
  match elemT X.P t, (elemT X.P t).bind (X.P.info? ·), srcOf X.P u (st.get X x) with
  | some E, some i, some (cs, m) =>
    if i.size != 0 && cs.length == m * i.size && cs.all D.one && (zeroT X.P E).any (fun z => z.cells.length == i.size) then
      let go := fun (c : List D) (n : Nat) => if (n + m) * i.bytes ≤ bigLen ∧ n + m ≤ bigLen then some (V.tail E (c ++ cs) (n + m)) else none
      match st.get X s with
      | .d .nilsl => if m = 0 then some (st, .d .nilsl) else (go [] 0).map fun v => (st, v)
      | .full c n => if m = 0 then some (st, .full c n) else if c.length = n * i.size ∧ c.all D.one then (go c n).map fun v => (st, v) else none
      | .tail E' c n => if E' = E ∧ c.length = n * i.size then
          match s with
          | .tmp ts => (go c n).map fun v => (locCopy st (.slot ts), v)
          | _ => none
        else none
      | _ =>
        match ogOf st s with
        | some l => match locGet st l with
          | some (.tail E' c n) => if E' = E ∧ c.length = n * i.size then (go c n).map fun v => (locCopy st l, v) else none
          | _ => none
        | none => none
    else none
  | _, _, _ => none


def V.isSl : V → Bool
  | .d (.sl _ n) => n != 0
  | .tail .. | .full .. | .osl .. => true
  | _ => false
def V.isPt : V → Bool
  | .d (.ref ..) | .obj .. => true
  | _ => false
def V.isFn : V → Bool
  | .d (.fn _) | .clo .. => true
  | _ => false
def V.isIf : V → Bool
  | .d (.ifc ..) => true
  | _ => false
def V.isMp : V → Bool
  | .mp _ => true
  | _ => false
def V.nilSl : V → Bool
  | .d .nilsl => true
  | _ => false
def V.nilPt : V → Bool
  | .d .nil => true
  | _ => false
def V.nilFn : V → Bool
  | .d .nilfn => true
  | _ => false
def V.nilIf : V → Bool
  | .d .nilifc => true
  | _ => false
def V.nilMp : V → Bool
  | .d .nilmp => true
  | _ => false
/-- 'x == nil' and its kin, where x is no plain value: both are surely unlike. -/
def unlike (P : Program) (t : TypeId) (x y : V) : Bool :=
  match P.underlying t with
  | some (.slice _) => (x.isSl && y.nilSl) || (x.nilSl && y.isSl)
  | some (.pointer _) => (x.isPt && y.nilPt) || (x.nilPt && y.isPt)
  | some (.func ..) => (x.isFn && y.nilFn) || (x.nilFn && y.isFn)
  | some (.interface _) => (x.isIf && y.nilIf) || (x.nilIf && y.isIf)
  | some (.map ..) => (x.isMp && y.nilMp) || (x.nilMp && y.isMp)
  | _ => false

def boundOf (ρ : Operand → V) (dflt : Nat) : Option Operand → Option Nat
  | none => some dflt
  | some x => match ρ x with
    | .d (.int _ i) => if 0 ≤ i then some i.toNat else none
    | _ => none

/-- 's[lo:hi:mx]'. -/
def sliceOp (X : Ctx) (ρ : Operand → V) (t : TypeId) (x : Operand) (lo hi mx : Option Operand) : Option V :=
  match X.P.underlying t, ρ x with
  | some .string, .d (.str s) =>
    if mx.isSome then none else
    match boundOf ρ 0 lo, boundOf ρ s.length hi with
    | some l, some h => if l ≤ h ∧ h ≤ s.length then some (.d (.str ((s.take h).drop l))) else none
    | _, _ => none
  | some (.slice e), .d .nilsl =>
    if (sizeT X.P e).isSome && (mx.isNone || hi.isSome) then
      match boundOf ρ 0 lo, boundOf ρ 0 hi, boundOf ρ 0 mx with
      | some 0, some 0, some 0 => some (.d .nilsl)
      | _, _, _ => none
    else none
  | some (.slice e), v =>
    match v.slice?, sizeT X.P e with
    | some (c, n), some z =>
      match boundOf ρ 0 lo, boundOf ρ n hi with
      | some l, some h =>
        if l ≤ h ∧ h ≤ n ∧ c.length = n * z then
          let c' := (c.take (h * z)).drop (l * z)
          match mx with
          | none => some (.d (.sl c' (h - l)))
          | some m => match boundOf ρ 0 (some m) with
            | some m => if m = h ∧ hi.isSome ∧ n ≠ 0 then some (.full c' (h - l)) else none
            | none => none
        else none
      | _, _ => none
    | _, _ => match v, sizeT X.P e with
      | .osl id off n, some z =>
        if mx.isSome then none else
        match boundOf ρ 0 lo, boundOf ρ n hi with
        | some l, some h => if l ≤ h ∧ h ≤ n ∧ (l < n ∨ l = 0) then some (.osl id (off + l * z) (h - l)) else none
        | _, _ => none
      | _, _ => none
  | _, _ => none

/-- The address of an element. -/
def indexAddrOp (X : Ctx) (ρ : Operand → V) (t : TypeId) (x i : Operand) : Option V :=
  match ρ i with
  | .d (.int _ k) =>
    if 0 ≤ k then
      match X.P.underlying t with
      | some (.slice e) => match sizeT X.P e with
        | some z =>
          match ρ x with
          | .osl id off n => if k < n then some (.obj id (off + k.toNat * z)) else none
          | v => match v.slice? with
            | some (c, n) => if k < n ∧ c.length = n * z then some (.d (.ref c (k.toNat * z))) else none
            | none => none
        | none => none
      | some (.array n e) => match sizeT X.P e with
        | some z =>
          if k < n then
            match ρ x with
            | .obj id off => some (.obj id (off + k.toNat * z))
            | .d (.ref c off) => some (.d (.ref c (off + k.toNat * z)))
            | _ => none
          else none
        | none => none
      | _ => none
    else none
  | _ => none

def fieldAddrOp (X : Ctx) (ρ : Operand → V) (t : TypeId) (x : Operand) (f : Nat) : Option V :=
  match fieldT X.P t f with
  | some (o, ft) => match sizeT X.P ft with
    | some z =>
      if z = 0 then none else
      match ρ x with
      | .obj id off => some (.obj id (off + o))
      | .d (.ref c off) => some (.d (.ref c (off + o)))
      | _ => none
    | none => none
  | none => none

def loadOp (X : Ctx) (ρ : Operand → V) (h : List Ob) (t : TypeId) (p : Operand) : Option V :=
  match ρ p with
  | .d (.ref c off) => (partD X.P t c off).map .d
  | .obj id off => match h[id]? with
    | some (.frozen c) => (partD X.P t c off).map .d
    | some (.cells vs) => partV X.P t vs off
    | _ => none
  | _ => none

/-- The parts of an aggregate that is built, on cells of zero. -/
def fillV (place : Nat → Option (Nat × Nat)) : List V → List (Nat × V) → Option (List V)
  | cs, [] => some cs
  | cs, (i, v) :: r => match place i with
    | some (off, n) => let xs := v.copy.cells
      if v.sure ∧ xs.length = n ∧ off + n ≤ cs.length then fillV place (splice cs off xs) r else none
    | none => none

def partsV (ρ : Operand → V) (parts : Array (Nat × Operand)) : List (Nat × V) := parts.toList.map fun (i, x) => (i, ρ x)

def buildOp (X : Ctx) (ρ : Operand → V) (t : TypeId) (parts : Array (Nat × Operand)) : Option V :=
  match zeroT X.P t with
  | none => none
  | some z =>
    match X.P.underlying t with
    | some (.struct fs) =>
      if fs.all fun f => (sizeT X.P f.type).isSome then
        (fillV (fun i => (fs[i]?).map fun f => (f.offset, (sizeT X.P f.type).getD 0)) (z.cells.map .d) (partsV ρ parts)).map aggV
      else none
    | some (.array _ e) =>
      match sizeT X.P e with
      | some n => (fillV (fun i => some (i * n, n)) (z.cells.map .d) (partsV ρ parts)).map aggV
      | none => none
    | _ => none

def buildSliceV (X : Ctx) (ρ : Operand → V) (t : TypeId) (len : Nat) (parts : Array (Nat × Operand)) : Option (List V) :=
  match elemT X.P t with
  | none => none
  | some e => match sizeT X.P e, zeroT X.P e with
    | some n, some z =>
      if n = 0 ∨ len * n > 100000 ∨ z.cells.length ≠ n then none else
      fillV (fun i => some (i * n, n)) ((List.replicate len z.cells).flatten.map .d) (partsV ρ parts)
    | _, _ => none

def buildSliceOp (X : Ctx) (ρ : Operand → V) (t : TypeId) (len : Nat) (parts : Array (Nat × Operand)) : Option V :=
  match buildSliceV X ρ t len parts with
  | some vs => match toDs vs with
    | some ds => if ds.all D.one then some (.full ds len) else none
    | none => none
  | none => none

def copies (ρ : Operand → V) (xs : Array Operand) : List V := xs.toList.map fun x => (ρ x).copy

def V.pure : V → Bool
  | .d _ | .tail .. | .full .. => true
  | _ => false

/-- The function that a value calls, and the arguments ahead and behind. -/
def calleeOf : V → Option (FuncId × List V × List V)
  | .d (.fn f) => some (f, [], [])
  | .clo (.func f) a b => some (f, a, b)
  | _ => none

def lenOp (X : Ctx) (ρ : Operand → V) (o : Oper) (x : Operand) (t : TypeId) : Option V :=
  if (elemT X.P t).isSome then
    match (ρ x).slice? with
    | some (_, n) => some (.d (.int .i64 n))
    | none => match ρ x with
      | .osl _ _ n => some (.d (.int .i64 n))
      | _ => none
  else (pureOp X ρ o).map .d

/-- Is one cell like another? -/
def eqLeaf (P : Program) (t : TypeId) : Option D → Option D → Option Bool
  | some (.int k a), some (.int k' b) => match P.underlying t with
    | some (.int _) => if k = k' then some (a == b) else none
    | _ => none
  | some (.bool a), some (.bool b) => match P.underlying t with
    | some .bool => some (a == b)
    | _ => none
  | some (.str a), some (.str b) => match P.underlying t with
    | some .string => some (a == b)
    | _ => none
  | _, _ => none
def eqFs (P : Program) (xs ys : List D) : List Field → Option Bool
  | [] => some true
  | f :: fs => if f.name = "_" then none else
    match eqLeaf P f.type xs[f.offset]? ys[f.offset]?, eqFs P xs ys fs with
    | some a, some b => some (a && b)
    | _, _ => none
/-- Structs of plain fields. -/
def eqAgg (P : Program) (t : TypeId) (xs ys : List D) : Option Bool :=
  match P.underlying t with
  | some (.struct fs) => if P.stoodInHeld t || P.eqGuardType P.depth t then none else eqFs P xs ys fs.toList
  | _ => none
def eqOp (P : Program) (op : BinOp) (t : TypeId) (x y : V) : Option Bool :=
  match op, x, y with
  | .eql, .d (.agg xs), .d (.agg ys) => eqAgg P t xs ys
  | .neq, .d (.agg xs), .d (.agg ys) => (eqAgg P t xs ys).map fun b => !b
  | _, _, _ => none

/-- An operation that turns nothing but its own temporary. -/
def valOp (X : Ctx) (call : CallF) (ρ : Operand → V) (h : List Ob) (o : Oper) : Option V :=
  match o.op with
  | .move x => some (ρ x).copy
  | .pick c a b =>
    match ρ c with
    | .d (.bool t) => some (ρ (if t then a else b)).copy
    | _ => none
  | .build t parts => buildOp X ρ t parts
  | .buildSlice t len parts => buildSliceOp X ρ t len parts
  | .load t p => loadOp X ρ h t p
  | .nilCheck x =>
    match ρ x with
    | .obj id off => some (.obj id off)
    | .d (.ref c off) => some (.d (.ref c off))
    | .d (.fn f) => some (.d (.fn f))
    | .clo (.func f) a b => some (.clo (.func f) a b)
    | _ => none
  | .binOp op t x y _ =>
    if unlike X.P t (ρ x) (ρ y) then
      match op with
      | .eql => some (.d (.bool false))
      | .neq => some (.d (.bool true))
      | _ => none
    else match eqOp X.P op t (ρ x) (ρ y) with
      | some b => some (.d (.bool b))
      | none => (pureOp X ρ o).map .d
  | .unOp .. => (pureOp X ρ o).map .d
  | .convert .. => (pureOp X ρ o).map .d
  | .makeFunc fn first cap => some (.clo fn (copies ρ first) (copies ρ cap))
  | .slice t x lo hi mx => sliceOp X ρ t x lo hi mx
  | .fieldAddr t x f => fieldAddrOp X ρ t x f
  | .field t x f =>
    match fieldT X.P t f, ρ x with
    | some (off, ft), .d (.agg cs) => (partD X.P ft cs off).map .d
    | some (off, ft), .agg vs => partV X.P ft vs off
    | _, _ => none
  | .indexAddr t x i => indexAddrOp X ρ t x i
  | .index t x i =>
    match X.P.underlying t, ρ x, ρ i with
    | some (.array n e), .d (.agg cs), .d (.int _ k) =>
      match sizeT X.P e with
      | some z => if 0 ≤ k ∧ k < n then (partD X.P e cs (k.toNat * z)).map .d else none
      | none => none
    | some .string, .d (.str s), .d (.int _ k) =>
      if 0 ≤ k then (s[k.toNat]?).map fun b => .d (.int .u8 b.toNat) else none
    | _, _, _ => none
  | .extract x i =>
    match ρ x with
    | .d (.tup ds) => (ds[i]?).map .d
    | .tup vs => (vs[i]?).map V.copy
    | _ => none
  | .call c =>
    match c.callee with
    | .builtin .len => match c.args.toList, c.argTypes.toList with
      | [x], [t] => lenOp X ρ o x t
      | _, _ => none
    | .builtin .min => (pureOp X ρ o).map .d
    | .builtin .max => (pureOp X ρ o).map .d
    | .value f =>
      match calleeOf (ρ f) with
      | some (g, a, b) =>
        let args := a ++ copies ρ c.args ++ b
        if args.all V.pure then call.p g args else none
      | none => none
    | _ => none
  | _ => none

/-- A store into a box; into an elder one only what is pure. -/
def storeOp (X : Ctx) (base : Nat) (st : St) (t : TypeId) (p x : Operand) : Option St :=
  match st.get X p, sizeT X.P t with
  | .obj id off, some n =>
    match st.h[id]? with
    | some (.cells vs) =>
      let xs := (st.get X x).cells
      if (st.get X x).sure ∧ xs.length = n ∧ off + n ≤ vs.length ∧ xs.all V.one ∧ (base ≤ id ∨ (toDs xs).isSome) then
        let st := match x with
          | .tmp ts => locCopy st (.slot ts)
          | _ => st
        some { s := st.s, h := st.h.set id (.cells (splice vs off xs)), og := st.og.filter fun y => match y.2 with | .cell i _ => i != id | _ => true }
      else none
    | _ => none
  | _, _ => none

/-- Boxes that a list of values points to are frozen. -/
def freezeAll (h : List Ob) : List V → Option (List D × List Ob)
  | [] => some ([], h)
  | v :: vs => match freeze h v with
    | some (d, h) => match freezeAll h vs with
      | some (ds, h) => some (d :: ds, h)
      | none => none
    | none => none

def makeSliceOp (X : Ctx) (st : St) (t : TypeId) (l c : Operand) : Option (V × List Ob) :=
  match elemT X.P t, intOfV (st.get X l), intOfV (st.get X c) with
  | some e, some (_, l), some (_, c) =>
    match X.P.info? e, zeroT X.P e with
    | some i, some z =>
      if 0 ≤ l ∧ l ≤ c ∧ c * i.bytes ≤ bigLen ∧ c ≤ bigLen ∧ i.size ≠ 0 ∧ z.cells.length = i.size then
        if l = 0 then some (.tail e [] 0, st.h)
        else if l = c then some (.osl st.h.length 0 l.toNat, st.h ++ [.cells ((List.replicate l.toNat z.cells).flatten.map .d)])
        else none
      else none
    | _, _ => none
  | _, _, _ => none


/-- One operation. 'base': boxes from there on are the call's own. -/
def stepOp (X : Ctx) (call : CallF) (base : Nat) (o : Oper) (st : St) : Option St :=
  match valOp X call (st.get X) st.h o with
  | some v =>
    match o.op with
    | .move (.tmp t) => some (setOg (st.put o.dst v) o.dst (.slot t))
    | .load t p => match isAggT X.P t, st.get X p with
      | false, .obj id off => some (setOg (st.put o.dst v) o.dst (.cell id off))
      | _, _ => some (st.put o.dst v)
    | _ => some (st.put o.dst v)
  | none =>
    match o.op with
    | .assign x =>
      match x with
      | .tmp t => some ((locCopy st (.slot t)).put o.dst (st.get X x))
      | _ => some (st.put o.dst (st.get X x))
    | .alloc t =>
      match zeroT X.P t with
      | some z => if z.cells.all D.one then some ({ st with h := st.h ++ [Ob.cells (z.cells.map V.d)] }.put o.dst (.obj st.h.length 0)) else none
      | none => none
    | .box _ x =>
      let vs := (st.get X x).copy.cells
      if (st.get X x).sure && vs.all V.one then some ({ st with h := st.h ++ [Ob.cells vs] }.put o.dst (.obj st.h.length 0)) else none
    | .store t p x => (storeOp X base st t p x).map fun s => s.put o.dst undefV
    | .call c =>
      match c.callee with
      | .builtin .append =>
        match c.args.toList, c.argTypes.toList with
        | [s, x], [t, u] => (appendOp X st t u s x).map fun r => r.1.put o.dst r.2
        | _, _ => none
      | .value f =>
        match calleeOf (st.get X f) with
        | some (g, a, b) => (call.i g (a ++ copies (st.get X) c.args ++ b) st.h).map fun r => { s := st.s, h := r.2, og := [] : St }.put o.dst r.1
        | none => none
      | _ => none
    | _ => none

def guardOf (X : Ctx) (ops : Array Oper) (st : St) (o : Oper) : Option Bool :=
  match o.guard with
  | none => some true
  | some (j, want) => match (ops[j]?).bind (·.dst) with
    | none => none
    | some t => match st.get X (.tmp t) with
      | .d (.bool b) => some (b == want)
      | .d (.tup []) => some false
      | _ => none

def dstOk (N : Nat) (o : Oper) : Bool :=
  match o.dst with
  | some t => decide (t < N)
  | none => true

def runOps (X : Ctx) (call : CallF) (base N : Nat) (ops : Array Oper) : List Oper → St → Option St
  | [], st => some st
  | o :: r, st =>
    if dstOk N o then
      match guardOf X ops st o with
      | some true => match stepOp X call base o st with
        | some st => runOps X call base N ops r st
        | none => none
      | some false => runOps X call base N ops r (st.put o.dst undefV)
      | none => none
    else none

/-- What an operation waits for itself. -/
def directs (o : Oper) : List Nat := o.after.toList.filterMap fun e => if Region.binds .any e then some e.on else none
/-- What an operation waits for at all, as a mask, of those ahead. -/
def maskOf (ms : List Nat) (o : Oper) : Nat := (directs o).foldl (fun m j => m ||| (1 <<< j) ||| ms.getD j 0) 0
def masks : List Oper → List Nat → List Nat
  | [], ms => ms
  | o :: r, ms => masks r (ms ++ [maskOf ms o])
/-- How many there are at the end that wait for all ahead of them. -/
def fulls (n : Nat) : List Nat → Nat
  | [] => 0
  | m :: r => if m == (1 <<< (n - 1)) - 1 then fulls (n - 1) r + 1 else 0
/-- The order of a region that draws: from operation k on each one waits for all that are ahead of it; what the others look at that they write themselves they wait for. -/
def drawOk (ops : Array Oper) : Option Nat :=
  let ms := masks ops.toList []
  let k := ops.size - fulls ops.size ms.reverse
  let A := (ops.toList.take k).zipIdx
  if (ops.toList.zipIdx.all fun x => (directs x.1).all fun j => decide (j < x.2)) &&
     (A.all fun x => A.all fun y => match y.1.dst with
       | some t => (!(x.1.looksAt ops).contains t || (decide (y.2 < x.2) && (ms.getD x.2 0).testBit y.2)) && (x.2 == y.2 || x.1.dst != some t)
       | none => true) &&
     ((ops.toList.zipIdx.drop k).all fun x => ms.getD x.2 0 == (1 <<< x.2) - 1)
  then some k else none

/-- What one of the first operations comes to. -/
structure Rec where
  v : V
  og : Option Loc
  ob : List Ob

def recA (X : Ctx) (call : CallF) (ops : Array Oper) (h0 : List Ob) (o : Oper) (st : St) : Option Rec :=
  match guardOf X ops st o with
  | some false => some ⟨undefV, none, []⟩
  | some true =>
    match valOp X call (st.get X) h0 o with
    | some v =>
      match o.op with
      | .move (.tmp t) => some ⟨v, some (.slot t), []⟩
      | .load t p => match isAggT X.P t, st.get X p with
        | false, .obj id off => some ⟨v, some (.cell id off), []⟩
        | _, _ => some ⟨v, none, []⟩
      | _ => some ⟨v, none, []⟩
    | none =>
      match o.op with
      | .alloc t => match zeroT X.P t with
        | some z => if z.cells.all D.one && st.h.length == h0.length then some ⟨.obj h0.length 0, none, [Ob.cells (z.cells.map V.d)]⟩ else none
        | none => none
      | _ => none
  | none => none

def Rec.on (r : Rec) (dst : Option Tmp) (st : St) : St :=
  match r.og with
  | some l => setOg ({ st with h := st.h ++ r.ob }.put dst r.v) dst l
  | none => { st with h := st.h ++ r.ob }.put dst r.v

def runA (X : Ctx) (call : CallF) (N : Nat) (ops : Array Oper) (h0 : List Ob) : List Oper → St → Option St
  | [], st => some st
  | o :: r, st =>
    if dstOk N o then
      match recA X call ops h0 o st with
      | some rc => runA X call N ops h0 r (rc.on o.dst st)
      | none => none
    else none

def runDraw (X : Ctx) (call : CallF) (base N : Nat) (ops : Array Oper) (k : Nat) (st : St) : Option St :=
  if X.P.follows .mixedOrders then
    match runA X call N ops st.h (ops.toList.take k) st with
    | some st => runOps X call base N ops (ops.toList.drop k) st
    | none => none
  else none

/- What is read ahead of being written. Masks are numbers. -/
def opUses (o : Op) (m : Nat) : Nat := o.operands.toList.foldl (fun m x => match x with | .tmp t => m ||| (1 <<< t) | _ => m) m
def clearBit (m t : Nat) : Nat := if m.testBit t then m ^^^ (1 <<< t) else m
def liveOps (ops : Array Oper) (out : Nat) : Nat :=
  ops.toList.foldr (fun o m =>
    let m := match o.dst, o.guard with
      | some t, none => clearBit m t
      | _, _ => m
    let m := match o.guard with
      | some (j, _) => match (ops[j]?).bind (·.dst) with
        | some t => m ||| (1 <<< t)
        | none => m
      | none => m
    opUses o.op m) out

/-- The code, with the slots that are read from a place on. -/
inductive AC where
  | skip
  | region (ops : Array Oper) (keep : List Nat)
  | draw (ops : Array Oper) (k : Nat) (keep : List Nat)
  | seq (a b : AC)
  | cond (c : Operand) (a b : AC)
  | block (id : Nat) (b : AC)
  | loop (keep : List Nat) (b : AC)
  | exit (id : Nat)
  | ret
  | bad

def bitsOf (n m : Nat) : List Nat := (List.range n).filter fun t => m.testBit t

def exLook (id dflt : Nat) : List (Nat × Nat) → Nat
  | [] => dflt
  | (i, m) :: r => if i == id then m else exLook id dflt r

/-- The annotated code, and what is read from its beginning on; 'nx': behind it, 'ex': behind an exit. -/
def annot (n all rets : Nat) : Code → Nat → List (Nat × Nat) → AC × Nat
  | .skip, nx, _ => (.skip, nx)
  | .region _ ops false, nx, _ => (.region ops (bitsOf n nx), liveOps ops nx)
  | .region _ ops true, nx, _ => (match drawOk ops with | some k => .draw ops k (bitsOf n nx) | none => .bad, liveOps ops nx)
  | .seq a b, nx, ex =>
    let rb := annot n all rets b nx ex
    let ra := annot n all rets a rb.2 ex
    (.seq ra.1 rb.1, ra.2)
  | .cond c a b, nx, ex =>
    let ra := annot n all rets a nx ex
    let rb := annot n all rets b nx ex
    (.cond c ra.1 rb.1, (match c with | .tmp t => 1 <<< t | _ => 0) ||| ra.2 ||| rb.2)
  | .block id b, nx, ex => let r := annot n all rets b nx ((id, nx) :: ex); (.block id r.1, r.2)
  | .loop b, _, ex =>
    let m := (annot n all rets b 0 ex).2
    let m := (annot n all rets b m ex).2
    let r := annot n all rets b m ex
    (.loop (bitsOf n m) r.1, m)
  | .exit id, _, ex => (.exit id, exLook id all ex)
  | .scope b, nx, ex => annot n all rets b nx ex
  | .label _, nx, _ => (.skip, nx)
  | .ret, _, _ => (.ret, rets)
  | .rangeFunc .., _, _ | .goto _, _, _ | .refuse _, _, _ => (.bad, all)

def V.low (n : Nat) : V → Bool
  | .d _ | .tail .. | .full .. => true
  | .obj id _ | .osl id _ _ | .mp id | .it id => decide (id < n)
  | _ => false
def Ob.low (n : Nat) : Ob → Bool
  | .cells vs => vs.all (V.low n)
  | _ => true

/-- What is not read any more is forgotten. -/
def keepS (keep : List Nat) (s : List (Nat × V)) : List (Nat × V) := keep.map fun t => (t, lookT t s)

/-- At a loop's head: boxes, too. -/
def clean (keep : List Nat) (n : Nat) (st : St) : St :=
  let s := keepS keep st.s
  if s.all (fun x => V.low n x.2) && (st.h.take n).all (Ob.low n) then { s := s, h := st.h.take n, og := [] } else { s := s, h := st.h, og := [] }

inductive Ex where
  | nrm
  | exit (id : Nat)
  | ret

def loopN (body : St → Option (Ex × St)) (keep : List Nat) (n : Nat) : Nat → St → Option (Ex × St)
  | 0, _ => none
  | k + 1, st => match body (clean keep n st) with
    | some (.nrm, st) => loopN body keep n k st
    | r => r

def exec (X : Ctx) (call : CallF) (base N fuel : Nat) : AC → St → Option (Ex × St)
  | .skip, st => some (.nrm, st)
  | .region ops keep, st =>
    match runOps X call base N ops ops.toList { st with og := [] } with
    | some st => some (.nrm, { st with s := keepS keep st.s, og := [] })
    | none => none
  | .draw ops k keep, st =>
    match runDraw X call base N ops k { st with og := [] } with
    | some st => some (.nrm, { st with s := keepS keep st.s, og := [] })
    | none => none
  | .seq a b, st => match exec X call base N fuel a st with
    | some (.nrm, st) => exec X call base N fuel b st
    | r => r
  | .cond c a b, st => match st.get X c with
    | .d (.bool true) => exec X call base N fuel a st
    | .d (.bool false) => exec X call base N fuel b st
    | _ => none
  | .block id b, st => match exec X call base N fuel b st with
    | some (.exit i, st) => some (if i = id then .nrm else .exit i, st)
    | r => r
  | .loop keep b, st => loopN (fun st => exec X call base N fuel b st) keep st.h.length fuel st
  | .exit id, st => some (.exit id, st)
  | .ret, st => some (.ret, st)
  | .bad, _ => none

/-- One result. -/
def resultOf (X : Ctx) (st : St) : ResultVar → Option V
  | .tmp t => some (lookT t st.s)
  | .cell a t => match lookT a st.s with
    | .obj id off => match st.h[id]? with
      | some (.cells vs) => partV X.P t vs off
      | some (.frozen ds) => (partD X.P t ds off).map .d
      | _ => none
    | .d (.ref c off) => (partD X.P t c off).map .d
    | _ => none

def frzRes (X : Ctx) (t : TypeId) (h : List Ob) (v : V) : Option (V × List Ob) :=
  if X.frz t then
    match v with
    | .obj .. => (freeze h v).map fun r => (.d r.1, r.2)
    | _ => some (v, h)
  else some (v, h)

def frzAll (X : Ctx) : List TypeId → List Ob → List V → Option (List V × List Ob)
  | t :: ts, h, v :: vs => match frzRes X t h v.copy with
    | some (v, h) => match frzAll X ts h vs with
      | some (vs, h) => some (v :: vs, h)
      | none => none
    | none => none
  | _, h, [] => some ([], h)
  | [], _, _ :: _ => none

def resultsOf (X : Ctx) (st : St) : List ResultVar → Option (List V)
  | [] => some []
  | r :: rs => match resultOf X st r, resultsOf X st rs with
    | some v, some vs => some (v :: vs)
    | _, _ => none

def results (X : Ctx) (fn : Func) (st : St) : Option (V × List Ob) :=
  match fn.results.toList, fn.resultTypes.toList with
  | [r], [t] => match resultOf X st r with
    | some v => frzRes X t st.h v
    | none => none
  | [_], _ => none
  | rs, ts => match resultsOf X st rs with
    | some vs => (frzAll X ts st.h vs).map fun r => (match toDs r.1 with | some ds => .d (.tup ds) | none => .tup r.1, r.2)
    | none => none

def retMask (fn : Func) : Nat := fn.results.toList.foldl (fun m r => m ||| (1 <<< (match r with | .tmp t => t | .cell a _ => a))) 0

def argEnv : Nat → List V → List (Nat × V)
  | _, [] => []
  | n, v :: vs => (n, v) :: argEnv (n + 1) vs

def annotFn (fn : Func) (c : Code) : AC := (annot fn.ntmps ((1 <<< fn.ntmps) - 1) (retMask fn) c (retMask fn) []).1

/-- A function's body on its arguments and the boxes that it can reach. -/
def bodyOn (X : Ctx) (call : CallF) (fuel : Nat) (fn : Func) (c : Code) (args : List V) (h : List Ob) : Option (V × List Ob) :=
  match exec X call h.length fn.ntmps fuel (annotFn fn c) { s := argEnv 0 args, h := h, og := [] } with
  | some (.nrm, st) => results X fn st
  | some (.ret, st) => results X fn st
  | _ => none

mutual
def V.shift (n : Nat) : V → V
  | .obj id off => .obj (n + id) off
  | .osl id off k => .osl (n + id) off k
  | .mp id => .mp (n + id)
  | .it id => .it (n + id)
  | .clo f a b => .clo f (shifts n a) (shifts n b)
  | .agg vs => .agg (shifts n vs)
  | .tup vs => .tup (shifts n vs)
  | v => v
def shifts (n : Nat) : List V → List V
  | [] => []
  | v :: vs => V.shift n v :: shifts n vs
end
def Ob.shift (n : Nat) : Ob → Ob
  | .cells vs => .cells (shifts n vs)
  | o => o

/-- A function on what is all plain: it runs on no boxes but its own. -/
def runP (X : Ctx) (call : CallF) (fuel : Nat) (g : FuncId) (args : List V) : Option (V × List Ob) :=
  match X.ext g with
  | some F => match toDs args with
    | some ds => (F ds).map fun v => (v, [])
    | none => none
  | none =>
    match X.P.funcs[g]? with
    | none => none
    | some fn => match fn.body with
      | none => none
      | some c => if fn.name == "runtime.NumGoroutine" then none else bodyOn X call fuel fn c (args.map V.copy) []

/-- A function on any arguments, on the boxes that there are. -/
def runI (X : Ctx) (call : CallF) (fuel : Nat) (g : FuncId) (args : List V) (h : List Ob) : Option (V × List Ob) :=
  match X.P.funcs[g]? with
  | none => none
  | some fn => match fn.body with
    | none => none
    | some c => if fn.name == "runtime.NumGoroutine" || (X.ext g).isSome then none else
      match bodyOn X call fuel fn c (args.map V.copy) h with
      | some (v, h') => if v.pure then some (v, h'.take h.length) else some (v, h')
      | none => none

def callN (X : Ctx) (fuel : Nat) : Nat → CallF
  | 0 => ⟨fun _ _ => none, fun _ _ _ => none⟩
  | k + 1 =>
    { p := fun g args => match runP X (callN X fuel k) fuel g args with
        | some (v, _) => if v.pure then some v else none
        | none => none
      i := fun g args h => if args.all V.pure then
          match runP X (callN X fuel k) fuel g args with
          | some (v, h') => some (v.shift h.length, h ++ h'.map (Ob.shift h.length))
          | none => none
        else runI X (callN X fuel k) fuel g args h }

end Go.Proofs.Ytaobccodpdmieaa.Pv
