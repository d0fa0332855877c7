/- Lemmas for the law SessionNilLaw: texts of mine, merged. -/
import Derived.WalkKit
import Derived.Orders
import Derived.DeepKeys3
import Derived.WideKeyMaps
import Derived.Below
import Derived.WalkSpells
import Derived.Lib.Strings
import Derived.MapKept
import Derived.Laws.MakeOwn
import Derived.Laws.BytesString
import Derived.Lib.OthersKept
import Derived.Lib.ConvBytes
set_option linter.unusedSimpArgs false
set_option linter.unusedVariables false
set_option maxHeartbeats 4000000
namespace Go.Proofs.YtdbmhmembmgndaaGreatDoor.Pv
open Go
inductive D where
  | und
  | int (k:IntKind) (n:Int)
  | bool (b:Bool)
  | str (s:List UInt8)
  | nil
  | nilsl
  | nilmp
  | nilfn
  | nilifc
  | fn (f:FuncId)
  | ref (cells:List D) (off:Nat)
  | sl (cells:List D) (n:Nat)
  | ifc (t:TypeId) (v:D)
  | agg (cells:List D)
  | tup (vs:List D)
  deriving Inhabited
inductive V where
  | d (x:D)
  | tail (E:TypeId) (cells:List D) (n:Nat)
  | full (cells:List D) (n:Nat)
  | obj (id off:Nat)
  | osl (id off n:Nat)
  | clo (fn:Fn) (first cap:List V)
  | agg (vs:List V)
  | tup (vs:List V)
  | mp (id:Nat)
  | it (id:Nat)
  deriving Inhabited
inductive Ob where
  | cells (vs:List V)
  | frozen (ds:List D)
  | map (es:List (D × D)) (clock:Nat)
  | iter (s:List UInt8) (pos:Nat)
  deriving Inhabited
inductive Loc where
  | slot (t:Nat)
  | cell (id j:Nat)
  deriving DecidableEq
structure St where
  s:List (Nat × V)
  h:List Ob
  og:List (Nat × Loc)
structure Ctx where
  P:Program
  glob:Nat→Option (List D)
  ext:FuncId→Option (List D→Option V)
  frz:TypeId→Bool
  ints:List Nat:=[]
  exti:FuncId→Option (List V→List Ob→Option (V × List Ob)):=fun _=>none
  own:String→TypeId→Bool:=fun _ _=>false
mutual
def D.toVal:D→Option Value
  | .int k n=>some (.int k n)
  | .bool b=>some (.bool b)
  | .str s=>some (.string ⟨s.toArray⟩)
  | .nil=>some (.pointer none)
  | .nilsl=>some (.slice none 0 0)
  | .nilmp=>some (.map none)
  | .nilfn=>some .nilFunc
  | .nilifc=>some .nilIface
  | .fn f=>some (.func (.func f) #[] #[])
  | .ifc t v=>match D.toVal v with
    | some x=>some (.iface t x)
    | none=>none
  | .agg cs=>match D.toVals cs with
    | some xs=>some (.agg xs.toArray)
    | none=>none
  | .tup cs=>match D.toVals cs with
    | some xs=>some (.tuple xs.toArray)
    | none=>none
  | .und | .ref .. | .sl .. => none
def D.toVals:List D→Option (List Value)
  | []=>some []
  | d :: ds=>match D.toVal d,D.toVals ds with
    | some x,some xs=>some (x :: xs)
    | _,_=>none
end
def D.ofVal:Nat→Value→D
  | 0,_=>.und
  | n + 1,v=>match v with
    | .int k x=>.int k x
    | .bool b=>.bool b
    | .string s=>.str s.data.toList
    | .pointer none=>.nil
    | .slice none l c=>if l = 0∧c = 0 then .sl [] 0 else .und
    | .map none=>.nilmp
    | .nilFunc=>.nilfn
    | .nilIface=>.nilifc
    | .func (.func f) a b=>if a.size = 0∧b.size = 0 then .fn f else .und
    | .iface t x=>.ifc t (D.ofVal n x)
    | .agg cs=>.agg (cs.toList.map (D.ofVal n))
    | .tuple cs=>.tup (cs.toList.map (D.ofVal n))
    | _=>.und
def V.toD:V→Option D
  | .d x=>some x
  | .tail _ c n=>some (.sl c n)
  | .full c n=>some (.sl c n)
  | _=>none
def V.copy:V→V
  | .tail _ c n=>.d (.sl c n)
  | v=>v
def toDs:List V→Option (List D)
  | []=>some []
  | v :: vs=>match v.toD,toDs vs with
    | some d,some ds=>some (d :: ds)
    | _,_=>none
def D.one:D→Bool
  | .agg _ | .tup _ | .und=>false
  | _=>true
def V.one:V→Bool
  | .d x=>x.one
  | .agg _ | .tup _=>false
  | _=>true
def pureRun {α:Type} (P:Program):Sem α→Option α
  | .pure a=>some a
  | .program k=>pureRun P (k P)
  | _=>none
def und:V:=.d .und
def undefV:V:=.d (.tup [])
def lookT (t:Nat):List (Nat × V)→V
  | []=>und
  | (u,v) :: r=>if u == t then v else lookT t r
def St.get (X:Ctx) (st:St):Operand→V
  | .tmp t=>lookT t st.s
  | .const v=>.d (D.ofVal 6 v)
  | .global g=>match X.glob g with
    | some cs=>.d (.ref cs 0)
    | none=>und
  | .func f=>.d (.fn f)
def St.put (st:St) (dst:Option Tmp) (v:V):St :=
  match dst with
  | some t=>{ s:=(t,v) :: st.s,h:=st.h,og:=st.og.filter fun x=>x.1 != t && x.2 != .slot t }
  | none=>st
def isAggT (P:Program) (t:TypeId):Bool :=
  match P.underlying t with
  | some (.struct _)=>true
  | some (.array _ _)=>true
  | _=>false
def aggT (P:Program) (t:TypeId):Option Bool :=
  match P.underlying t with
  | some (.struct _)=>some true
  | some (.array _ _)=>some true
  | some _=>some false
  | none=>none
def sizeT (P:Program) (t:TypeId):Option Nat:=(P.info? t).map (·.size)
def elemT (P:Program) (t:TypeId):Option TypeId :=
  match P.underlying t with
  | some (.slice e)=>some e
  | _=>none
def fieldT (P:Program) (t:TypeId) (f:Nat):Option (Nat × TypeId) :=
  match P.underlying t with
  | some (.struct fs)=>(fs[f]?).map fun x=>(x.offset,x.type)
  | _=>none
def zeroT (P:Program) (t:TypeId):Option D :=
  match P.info? t with
  | some i=>i.zero.map (D.ofVal 6)
  | none=>none
def D.cells:D→List D
  | .agg cs=>cs
  | d=>[d]
def V.cells:V→List V
  | .d (.agg cs)=>cs.map .d
  | .agg vs=>vs
  | v=>[v]
def aggV (vs:List V):V :=
  match toDs vs with
  | some ds=>.d (.agg ds)
  | none=>.agg vs
def V.isTail:V→Bool
  | .tail .. => true
  | _=>false
def aggB (vs:List V):V:=if vs.any V.isTail then .agg vs else aggV vs
def V.flat:V→V
  | .agg vs=>aggV (vs.map V.copy)
  | v=>v
def V.sure:V→Bool
  | .d .und | .d (.tup _) | .tup _=>false
  | _=>true
def partD (P:Program) (t:TypeId) (cs:List D) (off:Nat):Option D :=
  match sizeT P t,aggT P t with
  | some n,some true=>if off + n≤cs.length then some (.agg ((cs.drop off).take n)) else none
  | some _,some false=>cs[off]?
  | _,_=>none
def partV (P:Program) (t:TypeId) (vs:List V) (off:Nat):Option V :=
  match sizeT P t,aggT P t with
  | some n,some true =>
    if off + n≤vs.length then some (aggV (((vs.drop off).take n).map V.copy)) else none
  | some _,some false=>(vs[off]?).map V.copy
  | _,_=>none
def splice {α:Type} (xs:List α) (off:Nat) (ys:List α):List α:=xs.take off ++ ys ++ xs.drop (off + ys.length)
def V.slice? : V→Option (List D × Nat)
  | .d (.sl c n)=>some (c,n)
  | .d .nilsl=>some ([],0)
  | .tail _ c n=>some (c,n)
  | .full c n=>some (c,n)
  | _=>none
def mapH (f:List Ob→V→Option (D × List Ob)):List Ob→List V→Option (List D × List Ob)
  | h,[]=>some ([],h)
  | h,v :: vs=>match f h v with
    | some (d,h)=>match mapH f h vs with
      | some (ds,h)=>some (d :: ds,h)
      | none=>none
    | none=>none
def freezeN:Nat→List Ob→V→Option (D × List Ob)
  | 0,h,v=>v.toD.map fun d=>(d,h)
  | k + 1,h,v=>match v with
    | .obj id off=>match h[id]? with
      | some (.frozen ds)=>some (.ref ds off,h)
      | some (.cells vs)=>match mapH (freezeN k) h vs with
        | some (ds,h1)=>match h1[id]? with
          | some (.cells _)=>if ds.all D.one then some (.ref ds off,h1.set id (.frozen ds)) else none
          | _=>none
        | none=>none
      | _=>none
    | .osl id off n=>if off = 0∧n ≠ 0 then match h[id]? with
      | some (.frozen ds)=>some (.sl ds n,h)
      | some (.cells vs)=>match mapH (freezeN k) h vs with
        | some (ds,h1)=>match h1[id]? with
          | some (.cells _)=>if ds.all D.one then some (.sl ds n,h1.set id (.frozen ds)) else none
          | _=>none
        | none=>none
      | _=>none
      else none
    | v=>v.toD.map fun d=>(d,h)
def freeze (h:List Ob) (v:V):Option (D × List Ob):=freezeN 4 h v
def bigLen:Nat:=140737488355328
def pureOp (X:Ctx) (ρ:Operand→V) (o:Oper):Option D :=
  if o.op.operands.toList.all fun x=>(((ρ x).toD).bind D.toVal).isSome then
    match pureRun X.P (execOp (fun x=>(((ρ x).toD).bind D.toVal).getD undef) o) with
    | some (.value v)=>some (D.ofVal 6 v)
    | _=>none
  else none
structure CallF where
  p:FuncId→List V→Option V
  i:FuncId→List V→List Ob→Option (V × List Ob)
def setOg (st:St) (dst:Option Tmp) (l:Loc):St :=
  match dst with
  | some t=>{ st with og:=(t,l) :: st.og }
  | none=>st
def intOfV:V→Option (IntKind × Int)
  | .d (.int k n)=>some (k,n)
  | _=>none
def ogOf (st:St):Operand→Option Loc
  | .tmp t=>(st.og.find? fun x=>x.1 == t).map (·.2)
  | _=>none
def locGet (st:St):Loc→Option V
  | .slot t=>some (lookT t st.s)
  | .cell id j=>match st.h[id]? with
    | some (.cells vs)=>vs[j]?
    | _=>none
def locCopy (st:St):Loc→St
  | .slot t=>match lookT t st.s with
    | .tail _ c n=>{ st with s:=(t,.d (.sl c n)) :: st.s }
    | _=>st
  | .cell id j=>match st.h[id]? with
    | some (.cells vs)=>{ st with h:=st.h.set id (.cells (vs.set j ((vs.getD j undefV).copy))) }
    | _=>st
def srcOf (P:Program) (u:TypeId) (v:V):Option (List D × Nat) :=
  match P.underlying u,v with
  | some (.slice _),v=>v.slice?
  | some .string,.d (.str s)=>some (s.map fun b=>.int .u8 b.toNat,s.length)
  | _,_=>none
def appendOp (X:Ctx) (st:St) (t u:TypeId) (s x:Operand):Option (St × V) :=
  match elemT X.P t,(elemT X.P t).bind (X.P.info? ·),srcOf X.P u (st.get X x) with
  | some E,some i,some (cs,m) =>
    if i.size != 0 && cs.length == m * i.size && cs.all D.one && (zeroT X.P E).any (fun z=>z.cells.length == i.size) then
      let go:=fun (c:List D) (n:Nat)=>if (n + m) * i.bytes≤bigLen∧n + m≤bigLen then some (V.tail E (c ++ cs) (n + m)) else none
      match st.get X s with
      | .d .nilsl=>if m = 0 then some (st,.d .nilsl) else (go [] 0).map fun v=>(st,v)
      | .full c n=>if m = 0 then some (st,.full c n) else if c.length = n * i.size∧c.all D.one then (go c n).map fun v=>(st,v) else none
      | .tail E' c n=>if E' = E∧c.length = n * i.size then
          match s with
          | .tmp ts=>(go c n).map fun v=>(locCopy st (.slot ts),v)
          | _=>none
        else none
      | _ =>
        match ogOf st s with
        | some l=>match locGet st l with
          | some (.tail E' c n)=>if E' = E∧c.length = n * i.size then (go c n).map fun v=>(locCopy st l,v) else none
          | _=>none
        | none=>none
    else none
  | _,_,_=>none
def V.isSl:V→Bool
  | .d (.sl _ n)=>n != 0
  | .tail _ _ n=>n != 0
  | .full .. | .osl .. => true
  | _=>false
def V.isPt:V→Bool
  | .d (.ref ..) | .obj .. => true
  | _=>false
def V.isFn:V→Bool
  | .d (.fn _) | .clo .. => true
  | _=>false
def V.isIf:V→Bool
  | .d (.ifc ..)=>true
  | _=>false
def V.isMp:V→Bool
  | .mp _=>true
  | _=>false
def V.nilSl:V→Bool
  | .d .nilsl=>true
  | _=>false
def V.nilPt:V→Bool
  | .d .nil=>true
  | _=>false
def V.nilFn:V→Bool
  | .d .nilfn=>true
  | _=>false
def V.nilIf:V→Bool
  | .d .nilifc=>true
  | _=>false
def V.nilMp:V→Bool
  | .d .nilmp=>true
  | _=>false
def unlike (P:Program) (t:TypeId) (x y:V):Bool :=
  match P.underlying t with
  | some (.slice _)=>(x.isSl && y.nilSl) || (x.nilSl && y.isSl)
  | some (.pointer _)=>(x.isPt && y.nilPt) || (x.nilPt && y.isPt)
  | some (.func ..)=>(x.isFn && y.nilFn) || (x.nilFn && y.isFn)
  | some (.interface _)=>(x.isIf && y.nilIf) || (x.nilIf && y.isIf)
  | some (.map ..)=>(x.isMp && y.nilMp) || (x.nilMp && y.isMp)
  | _=>false
def nilConst:Operand→Bool
  | .const (.slice none 0 0)=>true
  | _=>false
def nilCmp (P:Program) (op:BinOp) (t:TypeId) (ρ:Operand→V) (x y:Operand):Option Bool :=
  match op with
  | .eql=>if nilConst y && unlike P t (ρ x) (.d .nilsl) then some false else none
  | .neq=>if nilConst y && unlike P t (ρ x) (.d .nilsl) then some true else none
  | _=>none
def boundOf (ρ:Operand→V) (dflt:Nat):Option Operand→Option Nat
  | none=>some dflt
  | some x=>match ρ x with
    | .d (.int _ i)=>if 0≤i then some i.toNat else none
    | _=>none
def sliceOp (X:Ctx) (ρ:Operand→V) (t:TypeId) (x:Operand) (lo hi mx:Option Operand):Option V :=
  match X.P.underlying t,ρ x with
  | some .string,.d (.str s) =>
    if mx.isSome then none else
    match boundOf ρ 0 lo,boundOf ρ s.length hi with
    | some l,some h=>if l≤h∧h≤s.length then some (.d (.str ((s.take h).drop l))) else none
    | _,_=>none
  | some (.slice e),.d .nilsl =>
    if (sizeT X.P e).isSome && (mx.isNone || hi.isSome) then
      match boundOf ρ 0 lo,boundOf ρ 0 hi,boundOf ρ 0 mx with
      | some 0,some 0,some 0=>some (.d .nilsl)
      | _,_,_=>none
    else none
  | some (.slice e),v =>
    match v.slice?,sizeT X.P e with
    | some (c,n),some z =>
      match boundOf ρ 0 lo,boundOf ρ n hi with
      | some l,some h =>
        if l≤h∧h≤n∧c.length = n * z then
          let c':=(c.take (h * z)).drop (l * z)
          match mx with
          | none=>some (.d (.sl c' (h - l)))
          | some m=>match boundOf ρ 0 (some m) with
            | some m=>if m = h∧hi.isSome then (if n ≠ 0 then some (.full c' (h - l)) else some (.tail e [] 0)) else none
            | none=>none
        else none
      | _,_=>none
    | _,_=>match v,sizeT X.P e with
      | .osl id off n,some z =>
        if mx.isSome then none else
        match boundOf ρ 0 lo,boundOf ρ n hi with
        | some l,some h=>if l≤h∧h≤n∧(l < n∨l = 0) then some (.osl id (off + l * z) (h - l)) else none
        | _,_=>none
      | _,_=>none
  | _,_=>none
def indexAddrOp (X:Ctx) (ρ:Operand→V) (t:TypeId) (x i:Operand):Option V :=
  match ρ i with
  | .d (.int _ k) =>
    if 0≤k then
      match X.P.underlying t with
      | some (.slice e)=>match sizeT X.P e with
        | some z =>
          match ρ x with
          | .osl id off n=>if k < n then some (.obj id (off + k.toNat * z)) else none
          | v=>match v.slice? with
            | some (c,n)=>if k < n∧c.length = n * z then some (.d (.ref c (k.toNat * z))) else none
            | none=>none
        | none=>none
      | some (.array n e)=>match sizeT X.P e with
        | some z =>
          if k < n then
            match ρ x with
            | .obj id off=>some (.obj id (off + k.toNat * z))
            | .d (.ref c off)=>some (.d (.ref c (off + k.toNat * z)))
            | _=>none
          else none
        | none=>none
      | _=>none
    else none
  | _=>none
def fieldAddrOp (X:Ctx) (ρ:Operand→V) (t:TypeId) (x:Operand) (f:Nat):Option V :=
  match fieldT X.P t f with
  | some (o,ft)=>match sizeT X.P ft with
    | some z =>
      if z = 0 then none else
      match ρ x with
      | .obj id off=>some (.obj id (off + o))
      | .d (.ref c off)=>some (.d (.ref c (off + o)))
      | _=>none
    | none=>none
  | none=>none
def loadOp (X:Ctx) (ρ:Operand→V) (h:List Ob) (t:TypeId) (p:Operand):Option V :=
  match ρ p with
  | .d (.ref c off)=>(partD X.P t c off).map .d
  | .obj id off=>match h[id]? with
    | some (.frozen c)=>(partD X.P t c off).map .d
    | some (.cells vs)=>partV X.P t vs off
    | _=>none
  | _=>none
def fillV (place:Nat→Option (Nat × Nat)):List V→List (Nat × V)→Option (List V)
  | cs,[]=>some cs
  | cs,(i,v) :: r=>match place i with
    | some (off,n)=>let xs:=v.copy.cells
      if v.sure∧xs.length = n∧off + n≤cs.length then fillV place (splice cs off xs) r else none
    | none=>none
def partsV (ρ:Operand→V) (parts:Array (Nat × Operand)):List (Nat × V):=parts.toList.map fun (i,x)=>(i,ρ x)
def nilTail (P:Program) (t:TypeId) (x:Operand) (v:V):V :=
  match x with
  | .const (.slice none 0 0)=>match elemT P t with
    | some E=>.tail E [] 0
    | none=>v
  | _=>v
def D.nilB:D→Bool
  | .sl [] 0=>true
  | _=>false
def openD (P:Program) (t:TypeId) (d:D):V :=
  if d.nilB then
    match elemT P t with
    | some E=>.tail E [] 0
    | none=>.d d
  else .d d
def openZero (P:Program) (t:TypeId) (cs:List D):List V :=
  if cs.any D.nilB then
    match P.cellTypes P.depth t with
    | some ts=>if ts.length = cs.length then List.zipWith (openD P) ts cs else cs.map V.d
    | none=>cs.map V.d
  else cs.map V.d
def buildOp (X:Ctx) (ρ:Operand→V) (t:TypeId) (parts:Array (Nat × Operand)):Option V :=
  match zeroT X.P t with
  | none=>none
  | some z =>
    match X.P.underlying t with
    | some (.struct fs) =>
      if fs.all fun f=>(sizeT X.P f.type).isSome then
        (fillV (fun i=>(fs[i]?).map fun f=>(f.offset,(sizeT X.P f.type).getD 0)) (openZero X.P t z.cells) (partsV ρ parts)).map aggB
      else none
    | some (.array _ e) =>
      match sizeT X.P e with
      | some n=>(fillV (fun i=>some (i * n,n)) (z.cells.map .d) (partsV ρ parts)).map aggV
      | none=>none
    | _=>none
def buildSliceV (X:Ctx) (ρ:Operand→V) (t:TypeId) (len:Nat) (parts:Array (Nat × Operand)):Option (List V) :=
  match elemT X.P t with
  | none=>none
  | some e=>match sizeT X.P e,zeroT X.P e with
    | some n,some z =>
      if n = 0∨len * n > 100000∨z.cells.length ≠ n then none else
      fillV (fun i=>some (i * n,n)) ((List.replicate len z.cells).flatten.map .d) (partsV ρ parts)
    | _,_=>none
def buildSliceOp (X:Ctx) (ρ:Operand→V) (t:TypeId) (len:Nat) (parts:Array (Nat × Operand)):Option V :=
  match buildSliceV X ρ t len parts with
  | some vs=>match toDs vs with
    | some ds=>if ds.all D.one then some (.full ds len) else none
    | none=>none
  | none=>none
def copies (ρ:Operand→V) (xs:Array Operand):List V:=xs.toList.map fun x=>(ρ x).copy.flat
def V.pure:V→Bool
  | .d _ | .tail .. | .full .. => true
  | _=>false
def calleeOf:V→Option (FuncId × List V × List V)
  | .d (.fn f)=>some (f,[],[])
  | .clo (.func f) a b=>some (f,a,b)
  | _=>none
def lenOp (X:Ctx) (ρ:Operand→V) (o:Oper) (x:Operand) (t:TypeId):Option V :=
  if (elemT X.P t).isSome then
    match (ρ x).slice? with
    | some (_,n)=>some (.d (.int .i64 n))
    | none=>match ρ x with
      | .osl _ _ n=>some (.d (.int .i64 n))
      | _=>none
  else (pureOp X ρ o).map .d
def eqLeaf (P:Program) (t:TypeId):Option D→Option D→Option Bool
  | some (.int k a),some (.int k' b)=>match P.underlying t with
    | some (.int _)=>if k = k' then some (a == b) else none
    | _=>none
  | some (.bool a),some (.bool b)=>match P.underlying t with
    | some .bool=>some (a == b)
    | _=>none
  | some (.str a),some (.str b)=>match P.underlying t with
    | some .string=>some (a == b)
    | _=>none
  | _,_=>none
def eqFs (P:Program) (xs ys:List D):List Field→Option Bool
  | []=>some true
  | f :: fs=>if f.name = "_" then none else
    match eqLeaf P f.type xs[f.offset]? ys[f.offset]?,eqFs P xs ys fs with
    | some a,some b=>some (a && b)
    | _,_=>none
def eqAgg (P:Program) (t:TypeId) (xs ys:List D):Option Bool :=
  match P.underlying t with
  | some (.struct fs)=>if P.stoodInHeld t || P.eqGuardType P.depth t then none else eqFs P xs ys fs.toList
  | _=>none
def eqOp (P:Program) (op:BinOp) (t:TypeId) (x y:V):Option Bool :=
  match op,x,y with
  | .eql,.d (.agg xs),.d (.agg ys)=>eqAgg P t xs ys
  | .neq,.d (.agg xs),.d (.agg ys)=>(eqAgg P t xs ys).map fun b=>!b
  | _,_,_=>none
def valOp (X:Ctx) (call:CallF) (ρ:Operand→V) (h:List Ob) (o:Oper):Option V :=
  match o.op with
  | .move x=>some (ρ x).copy
  | .pick c a b =>
    match ρ c with
    | .d (.bool t)=>some (ρ (if t then a else b)).copy
    | _=>none
  | .build t parts=>buildOp X ρ t parts
  | .buildSlice t len parts=>buildSliceOp X ρ t len parts
  | .load t p=>loadOp X ρ h t p
  | .nilCheck x =>
    match ρ x with
    | .obj id off=>some (.obj id off)
    | .d (.ref c off)=>some (.d (.ref c off))
    | .d (.fn f)=>some (.d (.fn f))
    | .clo (.func f) a b=>some (.clo (.func f) a b)
    | _=>none
  | .binOp op t x y _ =>
    if unlike X.P t (ρ x) (ρ y) then
      match op with
      | .eql=>some (.d (.bool false))
      | .neq=>some (.d (.bool true))
      | _=>none
    else match eqOp X.P op t (ρ x) (ρ y) with
      | some b=>some (.d (.bool b))
      | none=>match nilCmp X.P op t ρ x y with
        | some b=>some (.d (.bool b))
        | none=>(pureOp X ρ o).map .d
  | .unOp .. => (pureOp X ρ o).map .d
  | .convert .. => (pureOp X ρ o).map .d
  | .makeFunc fn first cap=>some (.clo fn (copies ρ first) (copies ρ cap))
  | .slice t x lo hi mx=>sliceOp X ρ t x lo hi mx
  | .fieldAddr t x f=>fieldAddrOp X ρ t x f
  | .field t x f =>
    match fieldT X.P t f,ρ x with
    | some (off,ft),.d (.agg cs)=>(partD X.P ft cs off).map .d
    | some (off,ft),.agg vs=>partV X.P ft vs off
    | _,_=>none
  | .indexAddr t x i=>indexAddrOp X ρ t x i
  | .index t x i =>
    match X.P.underlying t,ρ x,ρ i with
    | some (.array n e),.d (.agg cs),.d (.int _ k) =>
      match sizeT X.P e with
      | some z=>if 0≤k∧k < n then (partD X.P e cs (k.toNat * z)).map .d else none
      | none=>none
    | some .string,.d (.str s),.d (.int _ k) =>
      if 0≤k then (s[k.toNat]?).map fun b=>.d (.int .u8 b.toNat) else none
    | _,_,_=>none
  | .extract x i =>
    match ρ x with
    | .d (.tup ds)=>(ds[i]?).map .d
    | .tup vs=>(vs[i]?).map V.copy
    | _=>none
  | .call c =>
    match c.callee with
    | .builtin .len=>match c.args.toList,c.argTypes.toList with
      | [x],[t]=>lenOp X ρ o x t
      | _,_=>none
    | .builtin .min=>(pureOp X ρ o).map .d
    | .builtin .max=>(pureOp X ρ o).map .d
    | .value f =>
      match calleeOf (ρ f) with
      | some (g,a,b) =>
        let args:=a ++ copies ρ c.args ++ b
        if args.all V.pure then call.p g args else none
      | none=>none
    | _=>none
  | _=>none
def storeOp (X:Ctx) (base:Nat) (st:St) (t:TypeId) (p x:Operand):Option St :=
  match st.get X p,sizeT X.P t with
  | .obj id off,some n =>
    match st.h[id]? with
    | some (.cells vs) =>
      let xs:=(st.get X x).cells
      if (st.get X x).sure∧xs.length = n∧off + n≤vs.length∧xs.all V.one∧(base≤id∨(toDs xs).isSome) then
        let st:=match x with
          | .tmp ts=>locCopy st (.slot ts)
          | _=>st
        some { s:=st.s,h:=st.h.set id (.cells (splice vs off xs)),og:=st.og.filter fun y=>match y.2 with | .cell i _=>i != id | _=>true }
      else none
    | _=>none
  | _,_=>none
def storeNil (X:Ctx) (st:St) (t:TypeId) (p x:Operand):Option St :=
  if X.own "" t && nilConst x then
    match st.get X p,sizeT X.P t,elemT X.P t with
    | .obj id off,some 1,some E =>
      match st.h[id]? with
      | some (.cells vs) =>
        if off + 1≤vs.length then
          some { s:=st.s,h:=st.h.set id (.cells (splice vs off [V.tail E [] 0])),og:=st.og.filter fun y=>match y.2 with | .cell i _=>i != id | _=>true }
        else none
      | _=>none
    | _,_,_=>none
  else none
def storeOr (X:Ctx) (base:Nat) (st:St) (t:TypeId) (p x:Operand):Option St :=
  match storeNil X st t p x with
  | some s=>some s
  | none=>storeOp X base st t p x
def makeSliceOp (X:Ctx) (st:St) (t:TypeId) (l c:Operand):Option (V × List Ob) :=
  match elemT X.P t,intOfV (st.get X l),intOfV (st.get X c) with
  | some e,some (_,l),some (_,c) =>
    match X.P.info? e,zeroT X.P e with
    | some i,some z =>
      if 0≤l∧l≤c∧c * i.bytes≤bigLen∧c≤bigLen∧i.size ≠ 0∧z.cells.length = i.size then
        if l = 0 then some (.tail e [] 0,st.h)
        else if l = c then some (.osl st.h.length 0 l.toNat,st.h ++ [.cells ((List.replicate l.toNat z.cells).flatten.map .d)])
        else none
      else none
    | _,_=>none
  | _,_,_=>none
def ownMove (X:Ctx) (o:Oper) (st:St) (t:Tmp):Option (Loc × V) :=
  if X.own o.pos o.type then
    match ogOf st (.tmp t) with
    | some l=>match locGet st l with
      | some (.tail E c n)=>some (l,.tail E c n)
      | _=>none
    | none=>none
  else none
def stepOp (X:Ctx) (call:CallF) (base:Nat) (o:Oper) (st:St):Option St :=
  match valOp X call (st.get X) st.h o with
  | some v =>
    match o.op with
    | .move (.tmp t)=>some (setOg (st.put o.dst v) o.dst (.slot t))
    | .load t p=>match isAggT X.P t,st.get X p with
      | false,.obj id off=>some (setOg (st.put o.dst v) o.dst (.cell id off))
      | _,_=>some (st.put o.dst v)
    | _=>some (st.put o.dst v)
  | none =>
    match o.op with
    | .assign x =>
      match x with
      | .tmp t=>match ownMove X o st t with
        | some r=>some ((locCopy st r.1).put o.dst r.2)
        | none=>some ((locCopy st (.slot t)).put o.dst (st.get X x))
      | _=>some (st.put o.dst (nilTail X.P o.type x (st.get X x)))
    | .alloc t =>
      match zeroT X.P t with
      | some z=>if z.cells.all D.one then some ({ st with h:=st.h ++ [Ob.cells (openZero X.P t z.cells)] }.put o.dst (.obj st.h.length 0)) else none
      | none=>none
    | .box _ x =>
      let vs:=(st.get X x).copy.cells
      if (st.get X x).sure && vs.all V.one then some ({ st with h:=st.h ++ [Ob.cells vs] }.put o.dst (.obj st.h.length 0)) else none
    | .store t p x=>(storeOr X base st t p x).map fun s=>s.put o.dst undefV
    | .call c =>
      match c.callee with
      | .builtin .append =>
        match c.args.toList,c.argTypes.toList with
        | [s,x],[t,u]=>(appendOp X st t u s x).map fun r=>r.1.put o.dst r.2
        | _,_=>none
      | .value f =>
        match calleeOf (st.get X f) with
        | some (g,a,b)=>(call.i g (a ++ copies (st.get X) c.args ++ b) st.h).map fun r=>{ s:=st.s,h:=r.2,og:=[]:St }.put o.dst r.1
        | none=>none
      | _=>none
    | _=>none
def ogBut (id:Nat) (og:List (Nat × Loc)):List (Nat × Loc):=og.filter fun y=>match y.2 with | .cell i _=>i != id | _=>true
def isSliceT (P:Program) (t:TypeId):Bool :=
  match P.underlying t with
  | some (.slice _)=>true
  | _=>false
def isMapT (P:Program) (t:TypeId):Bool :=
  match P.underlying t with
  | some (.map _ _)=>true
  | _=>false
def isNew (P:Program) (o:Oper):Bool :=
  match o.op with
  | .range .. | .next .. | .makeMap .. | .lookup .. | .mapUpdate .. | .insert .. | .makeInterface .. | .typeAssert .. | .makeSlice .. => true
  | .convert s t _=>isSliceT P s || isSliceT P t
  | .call c=>match c.callee with
    | .builtin .copy=>true
    | .builtin .len=>match c.argTypes.toList with
      | [t]=>isMapT P t
      | _=>false
    | _=>false
  | _=>false
def keyOk (P:Program) (kt:TypeId) (d:D):Bool :=
  match P.underlying kt,d with
  | some (.int k),.int k' _=>k' == k
  | some .string,.str _=>true
  | some .bool,.bool _=>true
  | _,_=>false
def keySame:D→D→Option Bool
  | .int k a,.int k' b=>if k = k' then some (a == b) else none
  | .str a,.str b=>some (a == b)
  | .bool a,.bool b=>some (a == b)
  | _,_=>none
def mapFind (k:D):List (D × D)→Nat→Option (Option (Nat × D))
  | [],_=>some none
  | e :: es,i=>match keySame k e.1 with
    | some true=>some (some (i,e.2))
    | some false=>mapFind k es (i + 1)
    | none=>none
def keyWide (P:Program) (kt:TypeId):Bool :=
  (match P.underlying kt with | some (.array _ _) | some (.struct _)=>true | _=>false) && P.keyTypeAt 4 kt && P.tiled 4 kt
def keyLit (P:Program) (kt:TypeId) (d:D):Option (List UInt8) :=
  match D.toVal d with
  | some v=>match keyOf P kt v with
    | some (.string s)=>some s
    | _=>none
  | none=>none
def mapFindW (P:Program) (kt:TypeId) (k:List UInt8):List (D × D)→Nat→Option (Option (Nat × D))
  | [],_=>some none
  | e :: es,i=>match keyLit P kt e.1,mapFindW P kt k es (i + 1) with
    | some l,some r=>if l = k then (match r with | none=>some (some (i,e.2)) | some _=>none) else some r
    | _,_=>none
def findW (P:Program) (kt:TypeId) (kd:D) (es:List (D × D)):Option (Option (Nat × D)) :=
  if keyWide P kt then
    match keyLit P kt kd with
    | some l=>mapFindW P kt l es 0
    | none=>none
  else none
def mapOf (h:List Ob):V→Option (List (D × D))
  | .mp id=>match h[id]? with
    | some (.map es _)=>some es
    | _=>none
  | .d .nilmp=>some []
  | _=>none
def lookV (X:Ctx) (t:TypeId) (es:Option (List (D × D))) (k:V) (ok:Bool):Option V :=
  match X.P.underlying t with
  | some (.map kt et)=>match es,k with
    | some es,.d kd =>
      if keyOk X.P kt kd then
        match mapFind kd es 0 with
        | some (some (_,v))=>some (if ok then .d (.tup [v,.bool true]) else .d v)
        | some none=>(zeroT X.P et).map fun z=>if ok then .d (.tup [z,.bool false]) else .d z
        | none=>none
      else
        match findW X.P kt kd es with
        | some (some (_,v))=>some (if ok then .d (.tup [v,.bool true]) else .d v)
        | some none=>(zeroT X.P et).map fun z=>if ok then .d (.tup [z,.bool false]) else .d z
        | none=>none
    | _,_=>none
  | _=>none
def mapGet (X:Ctx) (st:St) (t:TypeId) (x k:Operand) (ok:Bool):Option V:=lookV X t (mapOf st.h (st.get X x)) (st.get X k) ok
def mapSet (X:Ctx) (st:St) (t:TypeId) (m k x:Operand):Option St :=
  match X.P.underlying t with
  | some (.map kt _)=>match st.get X m,st.get X k,(st.get X x).toD with
    | .mp id,.d kd,some xd=>match st.h[id]? with
      | some (.map es ck) =>
        if keyOk X.P kt kd then
          match mapFind kd es 0 with
          | some (some (i,_))=>some { s:=st.s,h:=st.h.set id (.map (es.set i (kd,xd)) ck),og:=ogBut id st.og }
          | some none=>some { s:=st.s,h:=st.h.set id (.map (es ++ [(kd,xd)]) (ck + 1)),og:=ogBut id st.og }
          | none=>none
        else
          match findW X.P kt kd es with
          | some (some (i,_))=>some { s:=st.s,h:=st.h.set id (.map (es.set i (kd,xd)) ck),og:=ogBut id st.og }
          | some none=>some { s:=st.s,h:=st.h.set id (.map (es ++ [(kd,xd)]) (ck + 1)),og:=ogBut id st.og }
          | none=>none
      | _=>none
    | _,_,_=>none
  | _=>none
def bytesOf:List D→Option (List UInt8)
  | []=>some []
  | .int .u8 n :: r=>match bytesOf r with
    | some l=>some (UInt8.ofNat n.toNat :: l)
    | none=>none
  | _=>none
def convV (X:Ctx) (s t:TypeId) (x:V):Option V :=
  match X.P.underlying s,X.P.underlying t with
  | some (.slice e),some .string=>match X.P.underlying e,x.slice? with
    | some (.int .u8),some (c,n)=>if c.length = n then (bytesOf c).map fun l=>.d (.str l) else none
    | _,_=>none
  | some .string,some (.slice e)=>match X.P.underlying e,x with
    | some (.int .u8),.d (.str l)=>if sizeT X.P e = some 1∧l.length≤bigLen then some (.d (.sl (l.map fun b=>.int .u8 b.toNat) l.length)) else none
    | _,_=>none
  | _,_=>none
def assertOp (X:Ctx) (st:St) (x:Operand) (t:TypeId) (ok:Bool):Option V :=
  match X.P.underlying t with
  | some (.interface _) | none=>none
  | some _=>match st.get X x with
    | .d (.ifc u v) =>
      if u = t then some (if ok then .d (.tup [v,.bool true]) else .d v)
      else if ok then (zeroT X.P t).map fun z=>.d (.tup [z,.bool false]) else none
    | .d .nilifc=>if ok then (zeroT X.P t).map fun z=>.d (.tup [z,.bool false]) else none
    | _=>none
def copySrc (h:List Ob) (z:Nat) (v:V):Option (List V × Nat) :=
  match v with
  | .d (.str s)=>if z = 1 then some (s.map fun b=>.d (.int .u8 b.toNat),s.length) else none
  | .osl id off n=>match h[id]? with
    | some (.cells vs)=>if off + n * z≤vs.length then some (((vs.drop off).take (n * z)).map V.copy,n) else none
    | _=>none
  | v=>match v.slice? with
    | some (c,n)=>if c.length = n * z then some (c.map .d,n) else none
    | none=>none
def stepNew (X:Ctx) (base:Nat) (st:St) (o:Oper):Option St :=
  match o.op with
  | .range t x=>match X.P.underlying t,st.get X x with
    | some .string,.d (.str s)=>some ({ st with h:=st.h ++ [Ob.iter s 0] }.put o.dst (.it st.h.length))
    | _,_=>none
  | .next it true=>match st.get X it with
    | .it id=>match st.h[id]? with
      | some (.iter s pos) =>
        some (if pos < s.length then { s:=st.s,h:=st.h.set id (.iter s (pos + (Utf8.decode ⟨s.toArray⟩ pos).2)),og:=ogBut id st.og:St }.put o.dst (.d (.tup [.bool true,.int .i64 pos,.int .i32 (Utf8.decode ⟨s.toArray⟩ pos).1]))
          else st.put o.dst (.d (.tup [.bool false])))
      | _=>none
    | _=>none
  | .makeMap t x=>match X.P.underlying t with
    | some (.map _ _)=>match x.map (st.get X) with
      | none | some (.d (.int _ _))=>some ({ st with h:=st.h ++ [Ob.map [] 0] }.put o.dst (.mp st.h.length))
      | _=>none
    | _=>none
  | .lookup t x k ok=>(mapGet X st t x k ok).map fun v=>st.put o.dst v
  | .mapUpdate t m k x | .insert t m k x=>(mapSet X st t m k x).map fun s=>s.put o.dst undefV
  | .makeInterface t x=>match X.P.underlying t with
    | some (.interface _) | none=>none
    | some _=>(st.get X x).toD.map fun d=>st.put o.dst (.d (.ifc t d))
  | .typeAssert x _ t ok=>(assertOp X st x t ok).map fun v=>st.put o.dst v
  | .makeSlice t l c=>(makeSliceOp X st t l c).map fun r=>{ st with h:=r.2 }.put o.dst r.1
  | .convert s t x=>(convV X s t (st.get X x)).map fun v=>st.put o.dst v
  | .call c=>match c.callee with
    | .builtin .copy=>match c.args.toList,c.argTypes.toList with
      | [d,x],[t,_]=>match elemT X.P t,st.get X d with
        | some e,.osl id off n=>match sizeT X.P e,st.h[id]? with
          | some z,some (.cells vs)=>match copySrc st.h z (st.get X x) with
            | some (cs,m) =>
              let k:=min m n
              let xs:=cs.take (k * z)
              if off + n * z≤vs.length∧xs.all V.one∧(base≤id∨(toDs xs).isSome) then
                some ({ s:=st.s,h:=st.h.set id (.cells (splice vs off xs)),og:=ogBut id st.og:St }.put o.dst (.d (.int .i64 k)))
              else none
            | none=>none
          | _,_=>none
        | _,_=>none
      | _,_=>none
    | .builtin .len=>match c.args.toList with
      | [x]=>(mapOf st.h (st.get X x)).map fun es=>st.put o.dst (.d (.int .i64 es.length))
      | _=>none
    | _=>none
  | _=>none
def flatD:D→Bool
  | .int .. | .bool _ | .str _=>true
  | _=>false
def thawF (X:Ctx) (g:FuncId):Bool:=X.own "thaw" g && !X.own "keep" g
def thawable (X:Ctx) (o:Oper) (st:St):Bool :=
  match o.op with
  | .call c=>match c.callee with
    | .value f=>match calleeOf (st.get X f) with
      | some (g,_,_)=>thawF X g
      | none=>false
    | _=>false
  | _=>false
def thawOp (X:Ctx) (call:CallF) (o:Oper) (st:St):Option St :=
  if thawable X o st then
    match valOp X call (st.get X) st.h o with
    | some (.tail _ c n)=>if c.all flatD && !c.isEmpty then some ({ st with h:=st.h ++ [Ob.cells (c.map .d)] }.put o.dst (.osl st.h.length 0 n)) else none
    | _=>none
  else none
def stepAll (X:Ctx) (call:CallF) (base:Nat) (o:Oper) (st:St):Option St :=
  match thawOp X call o st with
  | some st' => some st'
  | none=>if isNew X.P o then stepNew X base st o else stepOp X call base o st
def guardOf (X:Ctx) (ops:Array Oper) (st:St) (o:Oper):Option Bool :=
  match o.guard with
  | none=>some true
  | some (j,want)=>match (ops[j]?).bind (·.dst) with
    | none=>none
    | some t=>match st.get X (.tmp t) with
      | .d (.bool b)=>some (b == want)
      | .d (.tup [])=>some false
      | _=>none
def dstOk (N:Nat) (o:Oper):Bool :=
  match o.dst with
  | some t=>decide (t < N)
  | none=>true
def runOps (X:Ctx) (call:CallF) (base N:Nat) (ops:Array Oper):List Oper→St→Option St
  | [],st=>some st
  | o :: r,st =>
    if dstOk N o then
      match guardOf X ops st o with
      | some true=>match stepAll X call base o st with
        | some st=>runOps X call base N ops r st
        | none=>none
      | some false=>runOps X call base N ops r (st.put o.dst undefV)
      | none=>none
    else none
def directs (o:Oper):List Nat:=o.after.toList.filterMap fun e=>if Region.binds .any e then some e.on else none
def maskOf (ms:List Nat) (o:Oper):Nat:=(directs o).foldl (fun m j=>m ||| (1 <<< j) ||| ms.getD j 0) 0
def masks:List Oper→List Nat→List Nat
  | [],ms=>ms
  | o :: r,ms=>masks r (ms ++ [maskOf ms o])
def freeMv (ops:Array Oper) (j:Nat):Bool :=
  match ops[j]? with
  | some o=>(match o.op with
    | .move (.tmp t)=>!(ops.toList.any fun p=>p.dst == some t)
    | _=>false) && o.guard.isNone && o.after.size == 0 && o.dst.isSome && Region.free .any ops (Array.replicate ops.size false) j
  | none=>false
def freesOf (ops:Array Oper):List Nat:=if Region.noSelect ops then (List.range ops.size).filter (freeMv ops) else []
def maskL (l:List Nat):Nat:=l.foldl (fun m j=>m ||| (1 <<< j)) 0
def fullAt (F m i:Nat):Bool:=(m ||| F) &&& ((1 <<< i) - 1) == (1 <<< i) - 1
def fulls (F n:Nat):List Nat→Nat
  | []=>0
  | m :: r=>if fullAt F m (n - 1) then fulls F (n - 1) r + 1 else 0
def drawF (ops:Array Oper) (F:List Nat):Option (Nat × List Nat) :=
  let ms:=masks ops.toList []
  let k:=ops.size - fulls (maskL F) ops.size ms.reverse
  let F:=F.filter fun j=>decide (j < k)
  let A:=(ops.toList.take k).zipIdx
  if (ops.toList.zipIdx.all fun x=>(directs x.1).all fun j=>decide (j < x.2)) &&
     (A.all fun x=>A.all fun y=>match y.1.dst with
       | some t=>(!(x.1.looksAt ops).contains t || (decide (y.2 < x.2) && (ms.getD x.2 0).testBit y.2)) && (x.2 == y.2 || x.1.dst != some t)
       | none=>true) &&
     ((ops.toList.zipIdx.drop k).all fun x=>fullAt (maskL F) (ms.getD x.2 0) x.2)
  then some (k,F) else none
def drawOk (ops:Array Oper):Option Nat :=
  match drawF ops (freesOf ops) with
  | some r=>some r.1
  | none=>(drawF ops []).map (·.1)
def V.low0 (n:Nat):V→Bool
  | .d _ | .full .. => true
  | .obj id _ | .osl id _ _ | .mp id | .it id=>decide (id < n)
  | _=>false
def V.low (n:Nat):V→Bool
  | .d _ | .tail .. | .full .. => true
  | .obj id _ | .osl id _ _ | .mp id | .it id=>decide (id < n)
  | .clo _ a b=>a.all (V.low0 n) && b.all (V.low0 n)
  | .agg a | .tup a=>a.all (V.low0 n)
def Ob.low (n:Nat):Ob→Bool
  | .cells vs=>vs.all (V.low n)
  | _=>true
structure Rec where
  v:V
  og:Option Loc
  ob:List Ob
  fr:List Ob
def reach (h:List Ob) (args:List V):Option Nat:=(List.range (h.length + 1)).find? fun m=>args.all (V.low m) && (h.take m).all (Ob.low m)
def callA (call:CallF) (h0:List Ob) (ρ:Operand→V) (o:Oper):Option (V × List Ob) :=
  match o.op with
  | .call c=>match c.callee with
    | .value f=>match calleeOf (ρ f) with
      | some (g,a,b)=>if (a ++ copies ρ c.args ++ b).all V.pure then none else
        match reach h0 (a ++ copies ρ c.args ++ b) with
        | some m=>match call.i g (a ++ copies ρ c.args ++ b) (h0.take m) with
          | some (v,h1)=>if v.pure && h1.length == m && m != 0 then some (v,h1) else none
          | none=>none
        | none=>none
      | none=>none
    | _=>none
  | _=>none
def ldOf (ρ:Operand→V) (o:Oper):Option Nat :=
  match o.op with
  | .load _ p=>match ρ p with
    | .obj id _=>some id
    | _=>none
  | _=>none
def touches (ρ:Operand→V) (o:Oper) (rc:Rec):List Nat :=
  match o.op with
  | .store _ p _=>match ρ p with
    | .obj id _=>[id]
    | _=>[]
  | _=>List.range rc.fr.length
structure Bk where
  i:Nat
  np:Option Nat
  tch:List Nat
  lds:List Nat
def Rec.plainB (r:Rec):Bool:=r.fr.isEmpty && r.ob.isEmpty
def behindNp (ops:Array Oper) (o:Oper) (q:Bk):Bool :=
  match q.np with
  | none=>true
  | some j=>(match o.op with | .call _=>false | _=>true) && ((masks ops.toList []).getD q.i 0).testBit j
def beside (ops:Array Oper) (ρ:Operand→V) (o:Oper) (rc:Rec) (q:Bk):Option Bk :=
  if rc.plainB then
    match ldOf ρ o with
    | some id=>if q.tch.contains id then none else some ⟨q.i + 1,q.np,q.tch,id :: q.lds⟩
    | none=>some ⟨q.i + 1,q.np,q.tch,q.lds⟩
  else if behindNp ops o q && !((touches ρ o rc).any q.lds.contains) then some ⟨q.i + 1,some q.i,touches ρ o rc ++ q.tch,q.lds⟩
  else none
def recA (X:Ctx) (call:CallF) (ops:Array Oper) (h0:List Ob) (o:Oper) (st:St):Option Rec :=
  match guardOf X ops st o with
  | some false=>some ⟨undefV,none,[],[]⟩
  | some true =>
    match valOp X call (st.get X) h0 o with
    | some v =>
      match o.op with
      | .move (.tmp t)=>some ⟨v,some (.slot t),[],[]⟩
      | .load t p=>match isAggT X.P t,st.get X p with
        | false,.obj id off=>some ⟨v,some (.cell id off),[],[]⟩
        | _,_=>some ⟨v,none,[],[]⟩
      | _=>some ⟨v,none,[],[]⟩
    | none =>
      match o.op with
      | .alloc t=>match zeroT X.P t with
        | some z=>if z.cells.all D.one then some ⟨.obj st.h.length 0,none,[Ob.cells (openZero X.P t z.cells)],[]⟩ else none
        | none=>none
      | .assign x=>some ⟨(st.get X x).copy,none,[],[]⟩
      | .store t p x=>match st.get X p,sizeT X.P t with
        | .obj id off,some n=>match st.h[id]? with
          | some (.cells vs) =>
            if (st.get X x).sure = true∧(st.get X x).isTail = false∧(st.get X x).cells.length = n∧off + n≤vs.length∧(st.get X x).cells.all V.one = true∧(toDs (st.get X x).cells).isSome = true
            then some ⟨undefV,none,[],st.h.take id ++ [.cells (splice vs off (st.get X x).cells)]⟩ else none
          | _=>none
        | _,_=>none
      | .call _=>if st.h.length == h0.length then (callA call h0 (st.get X) o).map fun r=>⟨r.1,none,[],r.2⟩ else none
      | _=>none
  | none=>none
mutual
def D.same:D→D→Bool
  | .und,.und=>true
  | .int k n,.int k' m=>decide (k = k') && decide (n = m)
  | .bool a,.bool b=>decide (a = b)
  | .str a,.str b=>decide (a = b)
  | .nil,.nil=>true
  | .nilsl,.nilsl=>true
  | .nilmp,.nilmp=>true
  | .nilfn,.nilfn=>true
  | .nilifc,.nilifc=>true
  | .fn f,.fn g=>decide (f = g)
  | .ref c o,.ref c' o' => sameDs c c' && decide (o = o')
  | .sl c n,.sl c' n' => sameDs c c' && decide (n = n')
  | .ifc t v,.ifc t' v' => decide (t = t') && D.same v v'
  | .agg c,.agg c' => sameDs c c'
  | .tup c,.tup c' => sameDs c c'
  | _,_=>false
def sameDs:List D→List D→Bool
  | [],[]=>true
  | a :: as,b :: bs=>D.same a b && sameDs as bs
  | _,_=>false
end
mutual
def V.same:V→V→Bool
  | .d x,.d y=>D.same x y
  | .tail E c n,.tail E' c' n' => decide (E = E') && sameDs c c' && decide (n = n')
  | .full c n,.full c' n' => sameDs c c' && decide (n = n')
  | .obj i o,.obj i' o' => decide (i = i') && decide (o = o')
  | .osl i o n,.osl i' o' n' => decide (i = i') && decide (o = o') && decide (n = n')
  | .clo (.func f) a b,.clo (.func f') a' b' => decide (f = f') && sameVs a a' && sameVs b b'
  | .agg a,.agg b=>sameVs a b
  | .tup a,.tup b=>sameVs a b
  | .mp i,.mp j=>decide (i = j)
  | .it i,.it j=>decide (i = j)
  | _,_=>false
def sameVs:List V→List V→Bool
  | [],[]=>true
  | a :: as,b :: bs=>V.same a b && sameVs as bs
  | _,_=>false
end
def samePs:List (D × D)→List (D × D)→Bool
  | [],[]=>true
  | a :: as,b :: bs=>D.same a.1 b.1 && D.same a.2 b.2 && samePs as bs
  | _,_=>false
def Ob.same:Ob→Ob→Bool
  | .cells a,.cells b=>sameVs a b
  | .frozen a,.frozen b=>sameDs a b
  | .map a c,.map b c' => samePs a b && decide (c = c')
  | .iter s p,.iter s' p' => decide (s = s') && decide (p = p')
  | _,_=>false
def sameObs:List Ob→List Ob→Bool
  | [],[]=>true
  | a :: as,b :: bs=>Ob.same a b && sameObs as bs
  | _,_=>false
def plainCall (X:Ctx) (call:CallF) (ops:Array Oper) (h0:List Ob) (o:Oper) (st:St):Option V :=
  match guardOf X ops st o,callA call h0 (st.get X) o with
  | some true,some (v,h1)=>if sameObs h1 (h0.take h1.length) then some v else none
  | _,_=>none
def Rec.forget (X:Ctx) (o:Oper) (r:Rec):Rec :=
  match o.op with
  | .load t _=>if isSliceT X.P t then r else { r with og:=none }
  | _=>r
def recB (X:Ctx) (call:CallF) (ops:Array Oper) (h0:List Ob) (o:Oper) (st:St):Option Rec :=
  match plainCall X call ops h0 o st with
  | some v=>some ⟨v,none,[],[]⟩
  | none=>(recA X call ops h0 o st).map (Rec.forget X o)
def cellOf:Option Loc→List Nat
  | some (.cell i _)=>[i]
  | _=>[]
def hurts (n:Nat) (ρ:Operand→V) (o:Oper) (rc:Rec):Bool:=if rc.plainB then !(cellOf rc.og).isEmpty else (touches ρ o rc).any fun id=>decide (id < n)
def besideB (n:Nat) (ops:Array Oper) (ρ:Operand→V) (o:Oper) (rc:Rec) (pc:Bool) (q:Bk × Bool × List Nat):Option (Bk × Bool × List Nat) :=
  match beside ops ρ o rc q.1 with
  | none=>none
  | some b =>
    if pc then (if (q.1.tch.all fun id=>decide (n≤id)) && q.2.2.isEmpty then some (b,true,q.2.2) else none)
    else if q.2.1 && hurts n ρ o rc then none
    else some (b,q.2.1,cellOf rc.og ++ q.2.2)
def Rec.eff (r:Rec) (h:List Ob):List Ob:=(match r.fr with | []=>h | _ :: _=>r.fr ++ h.drop r.fr.length) ++ r.ob
def Rec.on (r:Rec) (dst:Option Tmp) (st:St):St :=
  match r.og with
  | some l=>setOg ({ st with h:=r.eff st.h }.put dst r.v) dst l
  | none=>{ st with h:=r.eff st.h }.put dst r.v
def runA (X:Ctx) (call:CallF) (N:Nat) (ops:Array Oper) (h0:List Ob):List Oper→Bk→St→Option St
  | [],_,st=>some st
  | o :: r,q,st =>
    if dstOk N o then
      match recA X call ops h0 o st with
      | some rc=>match beside ops (st.get X) o rc q with
        | some q=>runA X call N ops h0 r q (rc.on o.dst st)
        | none=>none
      | none=>none
    else none
def runB (X:Ctx) (call:CallF) (N:Nat) (ops:Array Oper) (h0:List Ob):List Oper→Bk × Bool × List Nat→St→Option St
  | [],_,st=>some st
  | o :: r,q,st =>
    if dstOk N o then
      match recB X call ops h0 o st with
      | some rc=>match besideB h0.length ops (st.get X) o rc (plainCall X call ops h0 o st).isSome q with
        | some q=>runB X call N ops h0 r q (rc.on o.dst st)
        | none=>none
      | none=>none
    else none
def backAll (ops:Array Oper):Bool:=ops.toList.zipIdx.all fun x=>x.1.after.toList.all fun e=>decide (e.on < x.2)
def waitsIn (md:Region.Mode) (ops:Array Oper) (L:List Nat) (i:Nat):Bool :=
  match ops[i]? with
  | some o=>o.after.toList.all fun e=>!Region.binds md e || L.contains e.on
  | none=>false
def topo (md:Region.Mode) (ops:Array Oper):Nat→List Nat→List Nat
  | 0,L=>L
  | k + 1,L=>match (List.range ops.size).find? fun i=>!L.contains i && waitsIn md ops L i with
    | some i=>topo md ops k (i :: L)
    | none=>L
def topoOk (md:Region.Mode) (ops:Array Oper):List Nat→Bool
  | []=>true
  | i :: r=>waitsIn md ops r i && topoOk md ops r
def prog (md:Region.Mode) (ops:Array Oper):Bool :=
  topoOk md ops (topo md ops ops.size []) && (List.range ops.size).all fun i=>(topo md ops ops.size []).contains i
def drawGo (X:Ctx) (ops:Array Oper):Bool:=X.P.follows .mixedOrders || !Region.departs ops || backAll ops || (prog .text ops && prog .gc ops)
def bk0:Bk:=⟨0,none,[],[]⟩
def drawGoK (X:Ctx) (ops:Array Oper) (k:Nat):Bool:=drawGo X ops && decide (k≤ops.size)
def runDraw0 (X:Ctx) (call:CallF) (base N:Nat) (ops:Array Oper) (k:Nat) (st:St):Option St :=
  if drawGoK X ops k then
    match runA X call N ops st.h (ops.toList.take k) bk0 st with
    | some st=>runOps X call base N ops (ops.toList.drop k) st
    | none=>none
  else none
def barAt (n:Nat) (ms:List Nat) (e:Nat):Bool:=(List.range n).all fun i=>decide (i < e) || fullAt 0 (ms.getD i 0) e
def nextBar (n:Nat) (ms:List Nat) (s:Nat):Nat:=(((List.range (n - s)).map fun d=>s + d + 1).find? (barAt n ms)).getD n
def segOkB (ops:Array Oper) (ms:List Nat) (s k e:Nat):Bool :=
  decide (s≤k) && decide (k≤e) && decide (e≤ops.size) &&
  (ops.toList.zipIdx.all fun x=>(directs x.1).all fun j=>decide (j < x.2)) &&
  ((List.range e).all fun i=>decide (i < k) || fullAt 0 (ms.getD i 0) i) &&
  barAt ops.size ms e &&
  (ops.toList.zipIdx.all fun x=>decide (x.2 < s) || decide (k≤x.2) || ops.toList.zipIdx.all fun y=>decide (y.2 < s) || decide (k≤y.2) || match y.1.dst with
    | some t=>(!(x.1.looksAt ops).contains t || (decide (y.2 < x.2) && (ms.getD x.2 0).testBit y.2) || (decide (x.2 < y.2) && (ms.getD y.2 0).testBit x.2)) && (x.2 == y.2 || x.1.dst != some t)
    | none=>true)
def cellIds (og:List (Nat × Loc)):List Nat:=og.filterMap fun x=>match x.2 with
  | .cell i _=>some i
  | _=>none
def runSegs (X:Ctx) (call:CallF) (base N:Nat) (ops:Array Oper) (ms:List Nat):Nat→Nat→St→Option St
  | 0,_,_=>none
  | f + 1,s,st =>
    if s = ops.size then some st
    else
      let e:=nextBar ops.size ms s
      let k:=if e = s + 1 then s else e
      if segOkB ops ms s k e then
        match runB X call N ops st.h ((ops.toList.drop s).take (k - s)) (⟨s,none,[],cellIds st.og⟩,false,cellIds st.og) st with
        | some st1=>match runOps X call base N ops ((ops.toList.drop k).take (e - k)) st1 with
          | some st2=>runSegs X call base N ops ms f e st2
          | none=>none
        | none=>none
      else none
def swapId (n m i:Nat):Nat:=if i = n then m else if i = m then n else i
mutual
def V.ren (n m:Nat):V→V
  | .obj i o=>.obj (swapId n m i) o
  | .osl i o k=>.osl (swapId n m i) o k
  | .mp i=>.mp (swapId n m i)
  | .it i=>.it (swapId n m i)
  | .clo f a b=>.clo f (renVs n m a) (renVs n m b)
  | .agg l=>.agg (renVs n m l)
  | .tup l=>.tup (renVs n m l)
  | v=>v
def renVs (n m:Nat):List V→List V
  | []=>[]
  | v :: l=>V.ren n m v :: renVs n m l
end
def Ob.ren (n m:Nat):Ob→Ob
  | .cells vs=>.cells (renVs n m vs)
  | o=>o
def renH (n m:Nat) (h:List Ob):List Ob:=(List.range h.length).map fun i=>(h.getD (swapId n m i) (.frozen [])).ren n m
def sameRen (n m:Nat) (s1 s2:St):Bool :=
  sameObs s1.h (renH n m s2.h) && (s1.s.all fun x=>V.same (lookT x.1 s1.s) ((lookT x.1 s2.s).ren n m)) && (s2.s.all fun x=>V.same (lookT x.1 s1.s) ((lookT x.1 s2.s).ren n m))
def renOper (σ:List Nat) (o:Oper):Oper :=
  { o with after:=(o.after.toList.filterMap fun e=>if σ.contains e.on then some { e with on:=σ.idxOf e.on } else none).toArray,guard:=o.guard.map fun g=>(σ.idxOf g.1,g.2) }
def renOps (ops:Array Oper) (σ:List Nat):Array Oper:=(σ.filterMap fun i=>(ops[i]?).map (renOper σ)).toArray
def renOkB (ops:Array Oper) (σ:List Nat):Bool :=
  σ.all fun i=>match ops[i]? with
    | some o=>match o.guard with
      | some (g,_)=>σ.contains g
      | none=>true
    | none=>false
def addEdge (ops:Array Oper) (i j:Nat):Array Oper:=ops.modify i fun o=>{ o with after:=o.after.push ⟨j,.phase⟩ }
def swapL (n i j:Nat):List Nat:=(List.range n).map (swapId i j)
def V.still:V→Bool
  | .obj .. | .d (.int ..) | .d (.bool _)=>true
  | _=>false
def floatV (X:Ctx) (ρ:Operand→V) (o:Oper):Option V :=
  match o.guard,o.op with
  | none,.move x=>some (ρ x).copy
  | _,_ =>
  if o.guard.isNone && o.op.operands.toList.all fun x=>(ρ x).still then
    match (match o.op with
      | .move x=>some (ρ x)
      | .nilCheck x=>match ρ x with
        | .obj id off=>some (.obj id off)
        | _=>none
      | .fieldAddr t x f=>fieldAddrOp X ρ t x f
      | .indexAddr t x i=>indexAddrOp X ρ t x i
      | .binOp .. => (pureOp X ρ o).map .d
      | _=>none) with
    | some v=>if v.still then some v else none
    | none=>none
  else none
def floatAt (X:Ctx) (N:Nat) (ops:Array Oper) (st:St) (i:Nat):Option (Oper × V) :=
  match ops[i]? with
  | some o=>if dstOk N o && Region.free .any ops (Array.replicate ops.size false) i && Region.noSelect ops && renOkB ops ((List.range ops.size).filter (· != i)) then (floatV X (st.get X) o).map fun v=>(o,v) else none
  | none=>none
def firstFloat (X:Ctx) (N:Nat) (ops:Array Oper) (st:St):Option (Nat × Oper × V) :=
  (List.range ops.size).findSome? fun i=>(floatAt X N ops st i).map fun r=>(i,r)
def isAlloc (ops:Array Oper) (i:Nat):Bool :=
  match ops[i]? with
  | some o=>(match o.op with
    | .alloc _=>true
    | _=>false)
  | none=>false
def unord (ops:Array Oper):Option (Nat × Nat) :=
  let ms:=masks ops.toList []
  ((List.range ops.size).filter (isAlloc ops)).findSome? fun j =>
    ((List.range j).find? fun i=>isAlloc ops i && !(ms.getD j 0).testBit i).map fun i=>(i,j)
def objOf (ops:Array Oper) (st:St) (i:Nat):Nat :=
  match (ops[i]?).bind (·.dst) with
  | some t=>match lookT t st.s with
    | .obj id _=>id
    | _=>0
  | none=>0
def backs (ops:Array Oper):Bool:=ops.toList.zipIdx.all fun x=>(directs x.1).all fun j=>decide (j < x.2)
def runX (X:Ctx) (call:CallF) (base N:Nat):Nat→Bool→Array Oper→St→Option St
  | 0,_,_,_=>none
  | f + 1,b,ops,st =>
    match unord ops with
    | some (i,j) =>
      if renOkB ops (swapL ops.size i j) then
        match runX X call base N f b (addEdge ops j i) st,runX X call base N f b (addEdge (renOps ops (swapL ops.size i j)) j i) st with
        | some s1,some s2 =>
          let n:=objOf ops s1 i
          let m:=objOf ops s1 j
          if decide (base≤n) && decide (base≤m) && decide (n < s2.h.length) && decide (m < s2.h.length) && sameRen n m s1 s2 then some { s1 with og:=[] } else none
        | _,_=>none
      else none
    | none =>
      match (if b then none else if backs ops then runSegs X call base N ops (masks ops.toList []) (ops.size + 1) 0 st else none) with
      | some s=>some s
      | none =>
        match firstFloat X N ops st with
        | some (i,o,v)=>runX X call base N f true (renOps ops ((List.range ops.size).filter (· != i))) (st.put o.dst v)
        | none=>if backs ops then runSegs X call base N ops (masks ops.toList []) (ops.size + 1) 0 st else none
def runDraw (X:Ctx) (call:CallF) (base N:Nat) (ops:Array Oper) (k:Nat) (st:St):Option St :=
  match runDraw0 X call base N ops k st with
  | some st=>some st
  | none=>if drawGo X ops && backs ops then runX X call base N (ops.size + ops.size + 3) false ops st else none
def opUses (o:Op) (m:Nat):Nat:=o.operands.toList.foldl (fun m x=>match x with | .tmp t=>m ||| (1 <<< t) | _=>m) m
def clearBit (m t:Nat):Nat:=if m.testBit t then m ^^^ (1 <<< t) else m
def liveOps (ops:Array Oper) (out:Nat):Nat :=
  ops.toList.foldr (fun o m =>
    let m:=match o.dst with
      | some t=>clearBit m t
      | none=>m
    let m:=match o.guard with
      | some (j,_)=>match (ops[j]?).bind (·.dst) with
        | some t=>m ||| (1 <<< t)
        | none=>m
      | none=>m
    opUses o.op m) out
inductive AC where
  | skip
  | region (ops:Array Oper) (keep:List Nat)
  | draw (ops:Array Oper) (k:Nat) (keep:List Nat)
  | seq (a b:AC)
  | cond (c:Operand) (a b:AC)
  | block (id:Nat) (b:AC)
  | loop (keep:List Nat) (b:AC)
  | exit (id:Nat)
  | ret
  | bad
def bitsOf (n m:Nat):List Nat:=(List.range n).filter fun t=>m.testBit t
def exLook (id dflt:Nat):List (Nat × Nat)→Nat
  | []=>dflt
  | (i,m) :: r=>if i == id then m else exLook id dflt r
def annot (n all rets:Nat):Code→Nat→List (Nat × Nat)→AC × Nat
  | .skip,nx,_=>(.skip,nx)
  | .region _ ops false,nx,_=>(.region ops (bitsOf n nx),liveOps ops nx)
  | .region _ ops true,nx,_=>(match drawOk ops with | some k=>.draw ops k (bitsOf n nx) | none=>.draw ops (ops.size + 1) (bitsOf n nx),liveOps ops nx)
  | .seq a b,nx,ex =>
    let rb:=annot n all rets b nx ex
    let ra:=annot n all rets a rb.2 ex
    (.seq ra.1 rb.1,ra.2)
  | .cond c a b,nx,ex =>
    let ra:=annot n all rets a nx ex
    let rb:=annot n all rets b nx ex
    (.cond c ra.1 rb.1,(match c with | .tmp t=>1 <<< t | _=>0) ||| ra.2 ||| rb.2)
  | .block id b,nx,ex=>let r:=annot n all rets b nx ((id,nx) :: ex);(.block id r.1,r.2)
  | .loop b,_,ex =>
    let m:=(annot n all rets b 0 ex).2
    let m:=(annot n all rets b m ex).2
    let r:=annot n all rets b m ex
    (.loop (bitsOf n m) r.1,m)
  | .exit id,_,ex=>(.exit id,exLook id all ex)
  | .scope b,nx,ex=>annot n all rets b nx ex
  | .label _,nx,_=>(.skip,nx)
  | .ret,_,_=>(.ret,rets)
  | .rangeFunc ..,_,_ | .goto _,_,_ | .refuse _,_,_=>(.bad,all)
def keepS (keep:List Nat) (s:List (Nat × V)):List (Nat × V):=keep.map fun t=>(t,lookT t s)
def clean (keep:List Nat) (n:Nat) (st:St):St :=
  let s:=keepS keep st.s
  if s.all (fun x=>V.low n x.2) && (st.h.take n).all (Ob.low n) then { s:=s,h:=st.h.take n,og:=[] } else { s:=s,h:=st.h,og:=[] }
inductive Ex where
  | nrm
  | exit (id:Nat)
  | ret
def loopN (body:St→Option (Ex × St)) (keep:List Nat) (n:Nat):Nat→St→Option (Ex × St)
  | 0,_=>none
  | k + 1,st=>match body (clean keep n st) with
    | some (.nrm,st)=>loopN body keep n k st
    | r=>r
def exec (X:Ctx) (call:CallF) (base N fuel:Nat):AC→St→Option (Ex × St)
  | .skip,st=>some (.nrm,st)
  | .region ops keep,st =>
    match runOps X call base N ops ops.toList { st with og:=[] } with
    | some st=>some (.nrm,{ st with s:=keepS keep st.s,og:=[] })
    | none=>none
  | .draw ops k keep,st =>
    match runDraw X call base N ops k { st with og:=[] } with
    | some st=>some (.nrm,{ st with s:=keepS keep st.s,og:=[] })
    | none=>none
  | .seq a b,st=>match exec X call base N fuel a st with
    | some (.nrm,st)=>exec X call base N fuel b st
    | r=>r
  | .cond c a b,st=>match st.get X c with
    | .d (.bool true)=>exec X call base N fuel a st
    | .d (.bool false)=>exec X call base N fuel b st
    | _=>none
  | .block id b,st=>match exec X call base N fuel b st with
    | some (.exit i,st)=>some (if i = id then .nrm else .exit i,st)
    | r=>r
  | .loop keep b,st=>loopN (fun st=>exec X call base N fuel b st) keep st.h.length fuel st
  | .exit id,st=>some (.exit id,st)
  | .ret,st=>some (.ret,st)
  | .bad,_=>none
def resultOf (X:Ctx) (st:St):ResultVar→Option V
  | .tmp t=>some (lookT t st.s).flat
  | .cell a t=>match lookT a st.s with
    | .obj id off=>match st.h[id]? with
      | some (.cells vs)=>partV X.P t vs off
      | some (.frozen ds)=>(partD X.P t ds off).map .d
      | _=>none
    | .d (.ref c off)=>(partD X.P t c off).map .d
    | _=>none
def frzRes (X:Ctx) (t:TypeId) (h:List Ob) (v:V):Option (V × List Ob) :=
  if X.frz t then
    match v with
    | .obj .. | .osl .. => match freeze h v with
      | some r=>some (.d r.1,r.2)
      | none=>some (v,h)
    | _=>some (v,h)
  else some (v,h)
def frzAll (X:Ctx):List TypeId→List Ob→List V→Option (List V × List Ob)
  | t :: ts,h,v :: vs=>match frzRes X t h v.copy with
    | some (v,h)=>match frzAll X ts h vs with
      | some (vs,h)=>some (v :: vs,h)
      | none=>none
    | none=>none
  | _,h,[]=>some ([],h)
  | [],_,_ :: _=>none
def resultsOf (X:Ctx) (st:St):List ResultVar→Option (List V)
  | []=>some []
  | r :: rs=>match resultOf X st r,resultsOf X st rs with
    | some v,some vs=>some (v :: vs)
    | _,_=>none
def results (X:Ctx) (fn:Func) (st:St):Option (V × List Ob) :=
  match fn.results.toList,fn.resultTypes.toList with
  | [r],[t]=>match resultOf X st r with
    | some v=>frzRes X t st.h v
    | none=>none
  | [_],_=>none
  | rs,ts=>match resultsOf X st rs with
    | some vs=>(frzAll X ts st.h vs).map fun r=>(match toDs r.1 with | some ds=>.d (.tup ds) | none=>.tup r.1,r.2)
    | none=>none
def retMask (fn:Func):Nat:=fn.results.toList.foldl (fun m r=>m ||| (1 <<< (match r with | .tmp t=>t | .cell a _=>a))) 0
def argEnv:Nat→List V→List (Nat × V)
  | _,[]=>[]
  | n,v :: vs=>(n,v) :: argEnv (n + 1) vs
def annotFn (fn:Func) (c:Code):AC:=(annot fn.ntmps ((1 <<< fn.ntmps) - 1) (retMask fn) c (retMask fn) []).1
def bodyOn (X:Ctx) (call:CallF) (fuel:Nat) (fn:Func) (c:Code) (args:List V) (h:List Ob):Option (V × List Ob) :=
  match exec X call h.length fn.ntmps fuel (annotFn fn c) { s:=argEnv 0 args,h:=h,og:=[] } with
  | some (.nrm,st)=>results X fn st
  | some (.ret,st)=>results X fn st
  | _=>none
mutual
def V.shift (n:Nat):V→V
  | .obj id off=>.obj (n + id) off
  | .osl id off k=>.osl (n + id) off k
  | .mp id=>.mp (n + id)
  | .it id=>.it (n + id)
  | .clo f a b=>.clo f (shifts n a) (shifts n b)
  | .agg vs=>.agg (shifts n vs)
  | .tup vs=>.tup (shifts n vs)
  | v=>v
def shifts (n:Nat):List V→List V
  | []=>[]
  | v :: vs=>V.shift n v :: shifts n vs
end
def Ob.shift (n:Nat):Ob→Ob
  | .cells vs=>.cells (shifts n vs)
  | o=>o
def extV (X:Ctx) (g:FuncId) (args:List V):Option V :=
  match X.ext g with
  | some F=>match toDs args with
    | some ds=>F ds
    | none=>none
  | none=>none
def runP (X:Ctx) (call:CallF) (fuel:Nat) (g:FuncId) (args:List V):Option (V × List Ob) :=
  match extV X g args with
  | some v=>some (v,[])
  | none =>
    match X.P.funcs[g]? with
    | none=>none
    | some fn=>match fn.body with
      | none=>none
      | some c=>if fn.name == "runtime.NumGoroutine" then none else bodyOn X call fuel fn c (args.map V.copy) []
def xiOf (X:Ctx) (g:FuncId) (args:List V) (h:List Ob):Option (Option (V × List Ob)) :=
  if args.all V.pure then none else
  match X.exti g with
  | none=>none
  | some F=>some (match F args h with
    | some (v,h')=>if v.pure && h'.length == h.length then some (v,h') else none
    | none=>none)
def runI (X:Ctx) (call:CallF) (fuel:Nat) (g:FuncId) (args:List V) (h:List Ob):Option (V × List Ob) :=
  match xiOf X g args h with
  | some r=>r
  | none =>
  match X.P.funcs[g]? with
  | none=>none
  | some fn=>match fn.body with
    | none=>none
    | some c=>if fn.name == "runtime.NumGoroutine" || (X.ext g).isSome then none else
      match bodyOn X call fuel fn c (args.map V.copy) h with
      | some (v,h')=>if v.pure then some (v,h'.take h.length) else some (v,h')
      | none=>none
def callN (X:Ctx) (fuel:Nat):Nat→CallF
  | 0=>⟨fun _ _=>none,fun _ _ _=>none⟩
  | k + 1 =>
    { p:=fun g args=>match runP X (callN X fuel k) fuel g args with
        | some (v,_)=>if v.pure then some v else none
        | none=>none
      i:=fun g args h=>if args.all V.pure then
          match runP X (callN X fuel k) fuel g args with
          | some (v,h')=>some (v.shift h.length,h ++ h'.map (Ob.shift h.length))
          | none=>none
        else runI X (callN X fuel k) fuel g args h }
inductive Own where
 | free
 | slot (t:Nat)
 | cell (id j:Nat)
 | obj (id:Nat)
 | fgn
 deriving DecidableEq
structure Pin where
 blocks:List Nat
 eld:Nat→Prop
structure Gh where
 μ:List Nat
 e:Nat→Nat
 own:Nat→Own
 pin:Pin
inductive RepD (w:World) (e:Nat→Nat):Value→D→Prop where
 | und (v):RepD w e v .und
 | int (k n):RepD w e (.int k n) (.int k n)
 | bool (b):RepD w e (.bool b) (.bool b)
 | str (s:List UInt8):RepD w e (.string ⟨s.toArray⟩) (.str s)
 | nil:RepD w e (.pointer none) .nil
 | nilsl:RepD w e (.slice none 0 0) .nilsl
 | nilmp:RepD w e (.map none) .nilmp
 | nilfn:RepD w e .nilFunc .nilfn
 | nilifc:RepD w e .nilIface .nilifc
 | fn (f):RepD w e (.func (.func f) #[] #[]) (.fn f)
 | ref (b base off:Nat) (cells:List D) (vals:List Value) (hl:vals.length = cells.length) (he:base + cells.length≤e b)
   (hc:∀ j v,vals[j]? = some v→w.cell? ⟨b,base + j,none⟩ = some v)
   (hr:∀ (j:Nat) (v:Value) (d:D),vals[j]? = some v→cells[j]? = some d→RepD w e v d) :
   RepD w e (.pointer (some ⟨b,base + off,none⟩)) (.ref cells off)
 | sl (b o n c:Nat) (cells:List D) (vals:List Value) (hn:n≤c) (hl:vals.length = cells.length) (he:o + cells.length≤e b)
   (hc:∀ j v,vals[j]? = some v→w.cell? ⟨b,o + j,none⟩ = some v)
   (hr:∀ (j:Nat) (v:Value) (d:D),vals[j]? = some v→cells[j]? = some d→RepD w e v d) :
   RepD w e (.slice (some ⟨b,o,none⟩) n c) (.sl cells n)
 | sl0 (a:Option Addr) (c:Nat) (h:a = none→c = 0):RepD w e (.slice a 0 c) (.sl [] 0)
 | ifc (t v d) (h:RepD w e v d):RepD w e (.iface t v) (.ifc t d)
 | agg (vals:List Value) (cells:List D) (hl:vals.length = cells.length)
   (hr:∀ (j:Nat) (v:Value) (d:D),vals[j]? = some v→cells[j]? = some d→RepD w e v d) :
   RepD w e (.agg ⟨vals⟩) (.agg cells)
 | tup (vals:List Value) (cells:List D) (hl:vals.length = cells.length)
   (hr:∀ (j:Nat) (v:Value) (d:D),vals[j]? = some v→cells[j]? = some d→RepD w e v d) :
   RepD w e (.tuple ⟨vals⟩) (.tup cells)
theorem RepD.mono {w w':World} {e e':Nat→Nat} (hc:∀ b o,o < e b→w'.cell? ⟨b,o,none⟩ = w.cell? ⟨b,o,none⟩) (he:∀ b,e b≤e' b) {v:Value} {d:D}
  (h:RepD w e v d):RepD w' e' v d:=by
 induction h with
 | und v=>exact .und v
 | int k n=>exact .int k n
 | bool b=>exact .bool b
 | str s=>exact .str s
 | nil=>exact .nil
 | nilsl=>exact .nilsl
 | nilmp=>exact .nilmp
 | nilfn=>exact .nilfn
 | nilifc=>exact .nilifc
 | fn f=>exact .fn f
 | ref b base off cells vals hl hee hcc _ ih =>
  refine .ref b base off cells vals hl (Nat.le_trans hee (he b)) (fun j v hj=>?_) ih
  have hlt:j < cells.length:=by rw [← hl];exact (List.getElem?_eq_some_iff.1 hj).1
  rw [hc b (base + j) (by omega)];exact hcc j v hj
 | sl b o n c cells vals hn hl hee hcc _ ih =>
  refine .sl b o n c cells vals hn hl (Nat.le_trans hee (he b)) (fun j v hj=>?_) ih
  have hlt:j < cells.length:=by rw [← hl];exact (List.getElem?_eq_some_iff.1 hj).1
  rw [hc b (o + j) (by omega)];exact hcc j v hj
 | sl0 a c h=>exact .sl0 a c h
 | ifc t v d _ ih=>exact .ifc t v d ih
 | agg vals cells hl _ ih=>exact .agg vals cells hl ih
 | tup vals cells hl _ ih=>exact .tup vals cells hl ih
inductive RepV (X:Ctx) (w:World) (g:Gh):Own→Value→V→Prop where
 | d (p v x) (h:RepD w g.e v x):RepV X w g p v (.d x)
 | tail (p:Own) (E:TypeId) (cells:List D) (n b c:Nat) (cur:Array Value) (z:Nat) (vals:List Value) (hz:sizeT X.P E = some z) (hz0:0 < z) (hb:w.heap[b]? = some (.cells cur E (0,0))) (hn:n≤c) (hm:c≤maxLen)
   (hcur:cur.size = c * z) (hcl:cells.length = n * z) (he:g.e b = n * z) (ho:g.own b = p) (hp:∃ t i j,p = .slot t∨p = .cell i j)
   (hv:cur.toList.take (n * z) = vals) (hr:∀ (j:Nat) (v:Value) (d:D),vals[j]? = some v→cells[j]? = some d→RepD w g.e v d) :
   RepV X w g p (.slice (some ⟨b,0,none⟩) n c) (.tail E cells n)
 | tail0 (p:Own) (E:TypeId) (a:Option Addr):RepV X w g p (.slice a 0 0) (.tail E [] 0)
 | full (p:Own) (b o:Nat) (cells:List D) (n:Nat) (h:RepD w g.e (.slice (some ⟨b,o,none⟩) n n) (.sl cells n)):RepV X w g p (.slice (some ⟨b,o,none⟩) n n) (.full cells n)
 | obj (p id off b) (h:g.μ[id]? = some b):RepV X w g p (.pointer (some ⟨b,off,none⟩)) (.obj id off)
 | osl (p id off n c b) (h:g.μ[id]? = some b) (hn:n≤c):RepV X w g p (.slice (some ⟨b,off,none⟩) n c) (.osl id off n)
 | clo (p:Own) (fn:Fn) (va vb:List Value) (a b:List V) (hla:va.length = a.length) (hlb:vb.length = b.length)
   (ha:∀ (j:Nat) (v:Value) (x:V),va[j]? = some v→a[j]? = some x→RepV X w g .free v x)
   (hb:∀ (j:Nat) (v:Value) (x:V),vb[j]? = some v→b[j]? = some x→RepV X w g .free v x):RepV X w g p (.func fn ⟨va⟩ ⟨vb⟩) (.clo fn a b)
 | agg (p:Own) (vals:List Value) (vs:List V) (hl:vals.length = vs.length)
   (hr:∀ (j:Nat) (v:Value) (x:V),vals[j]? = some v→vs[j]? = some x→RepV X w g .free v x):RepV X w g p (.agg ⟨vals⟩) (.agg vs)
 | tup (p:Own) (vals:List Value) (vs:List V) (hl:vals.length = vs.length)
   (hr:∀ (j:Nat) (v:Value) (x:V),vals[j]? = some v→vs[j]? = some x→RepV X w g .free v x):RepV X w g p (.tuple ⟨vals⟩) (.tup vs)
 | mp (p id b) (h:g.μ[id]? = some b):RepV X w g p (.map (some b)) (.mp id)
 | it (p id b) (h:g.μ[id]? = some b):RepV X w g p (.pointer (some ⟨b,0,none⟩)) (.it id)
theorem RepV.place {X:Ctx} {w:World} {g:Gh} {p q:Own} {v:Value} {x:V} (h:RepV X w g p v x) (ht:∀ E c n,x ≠ .tail E c n):RepV X w g q v x:=by
 cases h with
 | d _ _ _ h=>exact .d _ _ _ h
 | tail=>exact (ht _ _ _ rfl).elim
 | tail0=>exact (ht _ _ _ rfl).elim
 | full _ _ _ _ _ h=>exact .full _ _ _ _ _ h
 | obj _ _ _ _ h=>exact .obj _ _ _ _ h
 | osl _ _ _ _ _ _ h hn=>exact .osl _ _ _ _ _ _ h hn
 | clo _ _ _ _ _ _ h1 h2 h3 h4=>exact .clo _ _ _ _ _ _ h1 h2 h3 h4
 | agg _ _ _ h1 h2=>exact .agg _ _ _ h1 h2
 | tup _ _ _ h1 h2=>exact .tup _ _ _ h1 h2
 | mp _ _ _ h=>exact .mp _ _ _ h
 | it _ _ _ h=>exact .it _ _ _ h
theorem cell_of_heap {w:World} {b:Nat} {cur:Array Value} {E:TypeId} {fr:Nat × Nat} (h:w.heap[b]? = some (.cells cur E fr)) (o:Nat):w.cell? ⟨b,o,none⟩ = cur[o]?:=by
 simp [World.cell?,h]
theorem RepV.tail_sl {X:Ctx} {w:World} {g:Gh} {p:Own} {v:Value} {E:TypeId} {c:List D} {n:Nat} (h:RepV X w g p v (.tail E c n)):RepD w g.e v (.sl c n):=by
 cases h with
 | tail0=>exact .sl0 _ 0 fun _=>rfl
 | tail _ _ _ _ b cap cur z vals hz hz0 hb hn hm hcur hcl he ho hp hv hr =>
  have hlen:vals.length = c.length:=by
   rw [← hv,List.length_take,Array.length_toList,hcur,hcl]
   exact Nat.min_eq_left (Nat.mul_le_mul_right z hn)
  refine .sl b 0 n cap c vals hn hlen (by omega) (fun j u hj=>?_) hr
  have hlt:j < vals.length:=(List.getElem?_eq_some_iff.1 hj).1
  rw [Nat.zero_add,cell_of_heap hb]
  rw [← hv,List.getElem?_take] at hj
  split at hj
  ·simpa using hj
  ·cases hj
theorem RepV.copy {X:Ctx} {w:World} {g:Gh} {p q:Own} {v:Value} {x:V} (h:RepV X w g p v x):RepV X w g q v x.copy:=by
 cases x with
 | tail E c n=>exact .d _ _ _ h.tail_sl
 | _=>exact h.place (by intro E c n hh;cases hh)
structure Later (g:Gh) (w:World) (g':Gh) (w':World):Prop where
 os:w'.os = w.os
 tape:w'.tape = w.tape
 output:w'.output = w.output
 size:w.heap.size≤w'.heap.size
 cells:∀ b o,o < g.e b→w'.cell? ⟨b,o,none⟩ = w.cell? ⟨b,o,none⟩
 e:∀ b,g.e b≤g'.e b
 fgn:∀ b,g.own b = .fgn→w'.heap[b]? = w.heap[b]? ∧ g'.own b = .fgn∧g'.e b = g.e b
 pin:g'.pin = g.pin
theorem Later.refl (g:Gh) (w:World):Later g w g w:=⟨rfl,rfl,rfl,Nat.le_refl _,fun _ _ _=>rfl,fun _=>Nat.le_refl _,fun _ h=>⟨rfl,h,rfl⟩,rfl⟩
theorem Later.trans {g1 g2 g3:Gh} {a b c:World} (h:Later g1 a g2 b) (k:Later g2 b g3 c):Later g1 a g3 c where
 os:=k.os.trans h.os
 tape:=k.tape.trans h.tape
 output:=k.output.trans h.output
 size:=Nat.le_trans h.size k.size
 cells:=fun b o ho=>(k.cells b o (Nat.lt_of_lt_of_le ho (h.e b))).trans (h.cells b o ho)
 e:=fun b=>Nat.le_trans (h.e b) (k.e b)
 fgn:=fun b hb=>⟨((k.fgn b (h.fgn b hb).2.1).1).trans (h.fgn b hb).1,(k.fgn b (h.fgn b hb).2.1).2.1,(k.fgn b (h.fgn b hb).2.1).2.2.trans (h.fgn b hb).2.2⟩
 pin:=k.pin.trans h.pin
def Fresh (g:Gh) (w:World):Prop:=∀ b,w.heap.size≤b→g.own b = .free∧g.e b = 0
structure Grow (g:Gh) (w:World) (g':Gh) (w':World):Prop where
 os:w'.os = w.os
 tape:w'.tape = w.tape
 output:w'.output = w.output
 size:w.heap.size≤w'.heap.size
 block:∀ b,b < w.heap.size→w'.heap[b]? = w.heap[b]?
 own:∀ b,b < w.heap.size→g'.own b = g.own b
 e:∀ b,b < w.heap.size→g'.e b = g.e b
 μ:∀ (id b:Nat),g.μ[id]? = some b→g'.μ[id]? = some b
 pin:g'.pin = g.pin
 fresh:Fresh g' w'
structure Keep (g:Gh) (w:World) (g':Gh) (w':World):Prop extends Grow g w g' w' where
 μeq:g'.μ = g.μ
theorem Grow.refl {g:Gh} {w:World} (h:Fresh g w):Grow g w g w:=⟨rfl,rfl,rfl,Nat.le_refl _,fun _ _=>rfl,fun _ _=>rfl,fun _ _=>rfl,fun _ _ h=>h,rfl,h⟩
theorem Keep.refl {g:Gh} {w:World} (h:Fresh g w):Keep g w g w:=⟨Grow.refl h,rfl⟩
theorem Grow.trans {g1 g2 g3:Gh} {a b c:World} (h:Grow g1 a g2 b) (k:Grow g2 b g3 c):Grow g1 a g3 c where
 os:=k.os.trans h.os
 tape:=k.tape.trans h.tape
 output:=k.output.trans h.output
 size:=Nat.le_trans h.size k.size
 block:=fun x hx=>(k.block x (Nat.lt_of_lt_of_le hx h.size)).trans (h.block x hx)
 own:=fun x hx=>(k.own x (Nat.lt_of_lt_of_le hx h.size)).trans (h.own x hx)
 e:=fun x hx=>(k.e x (Nat.lt_of_lt_of_le hx h.size)).trans (h.e x hx)
 μ:=fun id b hb=>k.μ id b (h.μ id b hb)
 pin:=k.pin.trans h.pin
 fresh:=k.fresh
theorem Keep.trans {g1 g2 g3:Gh} {a b c:World} (h:Keep g1 a g2 b) (k:Keep g2 b g3 c):Keep g1 a g3 c:=⟨h.toGrow.trans k.toGrow,k.μeq.trans h.μeq⟩
theorem Grow.later {g g':Gh} {w w':World} (h:Grow g w g' w') (hf:Fresh g w):Later g w g' w' where
 os:=h.os
 tape:=h.tape
 output:=h.output
 size:=h.size
 cells:=fun b o ho=>by
  by_cases hb:b < w.heap.size
  ·exact World.cell?_of_block (w:=w) (a:=⟨b,o,none⟩) (h.block b hb)
  ·rw [(hf b (by omega)).2] at ho;omega
 e:=fun b=>by
  by_cases hb:b < w.heap.size
  ·rw [h.e b hb];exact Nat.le_refl _
  ·rw [(hf b (by omega)).2];exact Nat.zero_le _
 fgn:=fun b hb=>by
  have hlt:b < w.heap.size:=by
   apply Classical.byContradiction;intro hn
   rw [(hf b (by omega)).1] at hb;cases hb
  exact ⟨h.block b hlt,(h.own b hlt).trans hb,h.e b hlt⟩
 pin:=h.pin
theorem Keep.later {g g':Gh} {w w':World} (h:Keep g w g' w') (hf:Fresh g w):Later g w g' w':=h.toGrow.later hf
theorem Grow.repD {g g':Gh} {w w':World} (h:Grow g w g' w') (hf:Fresh g w) {v:Value} {d:D} (r:RepD w g.e v d):RepD w' g'.e v d :=
 r.mono (h.later hf).cells (h.later hf).e
theorem Keep.repD {g g':Gh} {w w':World} (h:Keep g w g' w') (hf:Fresh g w) {v:Value} {d:D} (r:RepD w g.e v d):RepD w' g'.e v d:=h.toGrow.repD hf r
theorem Grow.repV {X:Ctx} {g g':Gh} {w w':World} (h:Grow g w g' w') (hf:Fresh g w) {p:Own} {v:Value} {x:V} (r:RepV X w g p v x):RepV X w' g' p v x:=by
 induction r with
 | d p v x r=>exact .d p v x (h.repD hf r)
 | tail p E cells n b c cur z vals hz hz0 hb hn hm hcur hcl he ho hp hv hr =>
  have hlt:b < w.heap.size:=(Array.getElem?_eq_some_iff.1 hb).1
  exact .tail p E cells n b c cur z vals hz hz0 ((h.block b hlt).trans hb) hn hm hcur hcl ((h.e b hlt).trans he) ((h.own b hlt).trans ho) hp hv fun j v d h1 h2=>h.repD hf (hr j v d h1 h2)
 | tail0 p E a0=>exact .tail0 p E _
 | full p b o cells n r=>exact .full p b o cells n (h.repD hf r)
 | obj p id off b r=>exact .obj p id off b (h.μ _ _ r)
 | osl p id off n c b r hn=>exact .osl p id off n c b (h.μ _ _ r) hn
 | clo p fn va vb a b hla hlb _ _ iha ihb=>exact .clo p fn va vb a b hla hlb iha ihb
 | agg p vals vs hl _ ih=>exact .agg p vals vs hl ih
 | tup p vals vs hl _ ih=>exact .tup p vals vs hl ih
 | mp p id b r=>exact .mp p id b (h.μ _ _ r)
 | it p id b r=>exact .it p id b (h.μ _ _ r)
theorem Keep.repV {X:Ctx} {g g':Gh} {w w':World} (h:Keep g w g' w') (hf:Fresh g w) {p:Own} {v:Value} {x:V} (r:RepV X w g p v x):RepV X w' g' p v x:=h.toGrow.repV hf r
def RepOb (X:Ctx) (w:World) (g:Gh) (id b:Nat):Ob→Prop
 | .cells vs=>∃ vals T,w.heap[b]? = some (.cells ⟨vals⟩ T (0,0))∧vs.length≤vals.length∧g.e b = 0 ∧
   ∀ (j:Nat) (v:Value) (x:V),vals[j]? = some v→vs[j]? = some x→RepV X w g (.cell id j) v x
 | .frozen ds=>∃ vals T,w.heap[b]? = some (.cells ⟨vals⟩ T (0,0))∧ds.length≤vals.length∧g.e b = ds.length ∧
   ∀ (j:Nat) (v:Value) (x:D),vals[j]? = some v→ds[j]? = some x→RepD w g.e v x
 | .map es ck=>∃ entries:Array MapEntry,w.heap[b]? = some (.map entries ck)∧entries.size = es.length∧g.e b = 0 ∧
   ∀ (j:Nat) (en:MapEntry) (kd:D × D),entries[j]? = some en→es[j]? = some kd→RepD w g.e en.key kd.1∧RepD w g.e en.val kd.2
 | .iter s pos=>w.heap[b]? = some (.stringIter ⟨s.toArray⟩ pos)∧g.e b = 0
structure RepH (X:Ctx) (w:World) (g:Gh) (h:List Ob):Prop where
 len:g.μ.length = h.length
 own:∀ (id b:Nat),g.μ[id]? = some b→g.own b = .obj id
 ob:∀ (id b:Nat) (o:Ob),g.μ[id]? = some b→h[id]? = some o→RepOb X w g id b o
theorem RepH.inj {X:Ctx} {w:World} {g:Gh} {h:List Ob} (r:RepH X w g h) {i j b:Nat} (hi:g.μ[i]? = some b) (hj:g.μ[j]? = some b):i = j:=by
 have h1:=r.own i b hi
 have h2:=r.own j b hj
 rw [h1] at h2
 cases h2
 rfl
theorem Grow.repOb {X:Ctx} {g g':Gh} {w w':World} (h:Grow g w g' w') (hf:Fresh g w) {id b:Nat} {o:Ob} (r:RepOb X w g id b o):RepOb X w' g' id b o:=by
 cases o with
 | cells vs =>
  obtain ⟨vals,T,hb,hl,he,hr⟩:=r
  have hlt:b < w.heap.size:=(Array.getElem?_eq_some_iff.1 hb).1
  exact ⟨vals,T,(h.block b hlt).trans hb,hl,(h.e b hlt).trans he,fun j v x h1 h2=>h.repV hf (hr j v x h1 h2)⟩
 | frozen ds =>
  obtain ⟨vals,T,hb,hl,he,hr⟩:=r
  have hlt:b < w.heap.size:=(Array.getElem?_eq_some_iff.1 hb).1
  exact ⟨vals,T,(h.block b hlt).trans hb,hl,(h.e b hlt).trans he,fun j v x h1 h2=>h.repD hf (hr j v x h1 h2)⟩
 | map es ck =>
  obtain ⟨entries,hb,hl,he,hr⟩:=r
  have hlt:b < w.heap.size:=(Array.getElem?_eq_some_iff.1 hb).1
  exact ⟨entries,(h.block b hlt).trans hb,hl,(h.e b hlt).trans he,fun j en kd h1 h2=>⟨h.repD hf (hr j en kd h1 h2).1,h.repD hf (hr j en kd h1 h2).2⟩⟩
 | iter s pos =>
  have hlt:b < w.heap.size:=(Array.getElem?_eq_some_iff.1 r.1).1
  exact ⟨(h.block b hlt).trans r.1,(h.e b hlt).trans r.2⟩
theorem RepOb.lt {X:Ctx} {g:Gh} {w:World} {id b:Nat} {o:Ob} (r:RepOb X w g id b o):b < w.heap.size:=by
 cases o with
 | cells vs=>obtain ⟨_,_,hb,_⟩:=r;exact (Array.getElem?_eq_some_iff.1 hb).1
 | frozen ds=>obtain ⟨_,_,hb,_⟩:=r;exact (Array.getElem?_eq_some_iff.1 hb).1
 | map es ck=>obtain ⟨_,hb,_⟩:=r;exact (Array.getElem?_eq_some_iff.1 hb).1
 | iter s pos=>exact (Array.getElem?_eq_some_iff.1 r.1).1
theorem RepH.get {X:Ctx} {w:World} {g:Gh} {h:List Ob} (r:RepH X w g h) {id b:Nat} (hb:g.μ[id]? = some b):∃ o,h[id]? = some o∧RepOb X w g id b o:=by
 have hlt:id < g.μ.length:=(List.getElem?_eq_some_iff.1 hb).1
 rw [r.len] at hlt
 exact ⟨h[id],List.getElem?_eq_getElem hlt,r.ob id b _ hb (List.getElem?_eq_getElem hlt)⟩
theorem RepH.lt {X:Ctx} {w:World} {g:Gh} {h:List Ob} (r:RepH X w g h) {id b:Nat} (hb:g.μ[id]? = some b):b < w.heap.size:=by
 obtain ⟨o,_,ho⟩:=r.get hb
 exact ho.lt
theorem Keep.repH {X:Ctx} {g g':Gh} {w w':World} (h:Keep g w g' w') (hf:Fresh g w) {hp:List Ob} (r:RepH X w g hp):RepH X w' g' hp where
 len:=by rw [h.μeq];exact r.len
 own:=fun id b hb=>by rw [h.μeq] at hb;rw [h.own b (r.lt hb)];exact r.own id b hb
 ob:=fun id b o hb ho=>by rw [h.μeq] at hb;exact h.toGrow.repOb hf (r.ob id b o hb ho)
theorem toVals_get:∀ (cs:List D) (us:List Value),D.toVals cs = some us→us.length = cs.length∧∀ (j:Nat) (d:D),cs[j]? = some d→∃ u,us[j]? = some u∧D.toVal d = some u
 | [],us,h=>by simp [D.toVals] at h;subst h;exact ⟨rfl,by simp⟩
 | c :: cs,us,h=>by
  simp only [D.toVals] at h
  split at h
  ·rename_i x xs hx hxs
   simp only [Option.some.injEq] at h
   subst h
   obtain ⟨h1,h2⟩:=toVals_get cs xs hxs
   refine ⟨by simp [h1],fun j d hj=>?_⟩
   cases j with
   | zero=>simp at hj;subst hj;exact ⟨x,by simp,hx⟩
   | succ j=>simp at hj;obtain ⟨u,hu,hd⟩:=h2 j d hj;exact ⟨u,by simpa using hu,hd⟩
  ·cases h
theorem vals_eq {w:World} {e:Nat→Nat} {vals:List Value} {cells:List D} (hl:vals.length = cells.length)
  (ih:∀ (j:Nat) (v:Value) (d:D),vals[j]? = some v→cells[j]? = some d→∀ u,D.toVal d = some u→v = u) {us:List Value} (h:D.toVals cells = some us):vals = us:=by
 obtain ⟨h1,h2⟩:=toVals_get cells us h
 apply List.ext_getElem?
 intro j
 by_cases hj:j < vals.length
 ·have hj2:j < cells.length:=by omega
  obtain ⟨u,hu,hd⟩:=h2 j cells[j] (List.getElem?_eq_getElem hj2)
  rw [hu,List.getElem?_eq_getElem hj]
  rw [ih j vals[j] cells[j] (List.getElem?_eq_getElem hj) (List.getElem?_eq_getElem hj2) u hd]
 ·rw [List.getElem?_eq_none (by omega),List.getElem?_eq_none (by omega)]
theorem RepD.toVal {w:World} {e:Nat→Nat} {v:Value} {d:D} (h:RepD w e v d):∀ u,D.toVal d = some u→v = u:=by
 induction h with
 | und v=>intro u hu;simp [D.toVal] at hu
 | ref=>intro u hu;simp [D.toVal] at hu
 | sl=>intro u hu;simp [D.toVal] at hu
 | ifc t v d _ ih =>
  intro u hu
  simp only [D.toVal] at hu
  split at hu
  ·rename_i x hx;simp at hu;rw [ih x hx,hu]
  ·cases hu
 | agg vals cells hl _ ih =>
  intro u hu
  simp only [D.toVal] at hu
  split at hu
  ·rename_i xs hx;simp at hu;rw [vals_eq (w:=w) (e:=e) hl ih hx,← hu]
  ·cases hu
 | tup vals cells hl _ ih =>
  intro u hu
  simp only [D.toVal] at hu
  split at hu
  ·rename_i xs hx;simp at hu;rw [vals_eq (w:=w) (e:=e) hl ih hx,← hu]
  ·cases hu
 | sl0=>intro u hu;simp [D.toVal] at hu
 | _=>intro u hu;simp [D.toVal] at hu;exact hu
theorem RepD.ofVal {w:World} {e:Nat→Nat}:∀ (n:Nat) (v:Value),RepD w e v (D.ofVal n v)
 | 0,v=>.und v
 | n + 1,v=>by
  have lst:∀ l:List Value,∀ (j:Nat) (x:Value) (d:D),l[j]? = some x→(l.map (D.ofVal n))[j]? = some d→RepD w e x d:=by
   intro l j x d h1 h2
   rw [List.getElem?_map,h1] at h2
   simp at h2
   rw [← h2]
   exact RepD.ofVal n x
  cases v with
  | bool b=>exact .bool b
  | int k x=>exact .int k x
  | float=>exact .und _
  | complex=>exact .und _
  | string s=>exact .str s.data.toList
  | pointer a=>cases a with
   | none=>exact .nil
   | some a=>exact .und _
  | slice a l c=>cases a with
   | none =>
    simp only [D.ofVal]
    split
    ·rename_i h;obtain ⟨rfl,rfl⟩:=h;exact .sl0 none 0 fun _=>rfl
    ·exact .und _
   | some a=>exact .und _
  | map r=>cases r with
   | none=>exact .nilmp
   | some r=>exact .und _
  | chan=>exact .und _
  | func fn a b =>
   cases fn with
   | func f =>
    simp only [D.ofVal]
    split
    ·rename_i h
     obtain ⟨h1,h2⟩:=h
     obtain rfl:=Array.eq_empty_of_size_eq_zero h1
     obtain rfl:=Array.eq_empty_of_size_eq_zero h2
     exact .fn f
    ·exact .und _
   | _=>exact .und _
  | nilFunc=>exact .nilfn
  | iface t x=>exact .ifc t x _ (RepD.ofVal n x)
  | nilIface=>exact .nilifc
  | agg cs=>exact .agg cs.toList _ (by simp) (lst cs.toList)
  | tuple cs=>exact .tup cs.toList _ (by simp) (lst cs.toList)
theorem RepV.toD {X:Ctx} {w:World} {g:Gh} {p:Own} {v:Value} {x:V} (h:RepV X w g p v x) {d:D} (hd:x.toD = some d):RepD w g.e v d:=by
 cases x with
 | d y=>simp [V.toD] at hd;subst hd;cases h with | d _ _ _ h=>exact h
 | tail E c n=>simp [V.toD] at hd;subst hd;exact h.tail_sl
 | full c n=>simp [V.toD] at hd;subst hd;cases h with | full _ _ _ _ _ h=>exact h
 | _=>simp [V.toD] at hd
theorem pureRun_run {α:Type} (P:Program):∀ (s:Sem α) (a:α),pureRun P s = some a→∀ w,s.run P w = .ok a w
 | .pure x,a,h,w=>by simp [pureRun] at h;subst h;rfl
 | .program k,a,h,w=>by simp only [pureRun] at h;exact pureRun_run P (k P) a h w
 | .load ..,_,h,_=>by simp [pureRun] at h
 | .store ..,_,h,_=>by simp [pureRun] at h
 | .new ..,_,h,_=>by simp [pureRun] at h
 | .shape ..,_,h,_=>by simp [pureRun] at h
 | .freeze ..,_,h,_=>by simp [pureRun] at h
 | .frozen ..,_,h,_=>by simp [pureRun] at h
 | .getObj ..,_,h,_=>by simp [pureRun] at h
 | .setObj ..,_,h,_=>by simp [pureRun] at h
 | .choose ..,_,h,_=>by simp [pureRun] at h
 | .sys ..,_,h,_=>by simp [pureRun] at h
 | .mark ..,_,h,_=>by simp [pureRun] at h
 | .halt ..,_,h,_=>by simp [pureRun] at h
def RepOps (X:Ctx) (w:World) (g:Gh) (a:Act) (ρ:Operand→V) (o:Oper):Prop:=∀ y ∈ o.op.operands,∃ q,RepV X w g q (a.eval y) (ρ y)
theorem pure_sound {X:Ctx} {ρ:Operand→V} {o:Oper} {d:D} (h:pureOp X ρ o = some d) (hs:∀ cs b,o.op ≠ .select cs b) {w:World} {g:Gh} {a:Act} (hr:RepOps X w g a ρ o) :
  ∃ v,(execOp a.eval o).run X.P w = .ok (.value v) w∧RepD w g.e v d:=by
 unfold pureOp at h
 split at h
 ·rename_i hall
  split at h
  ·rename_i v hrun
   simp at h
   subst h
   refine ⟨v,?_,RepD.ofVal 6 v⟩
   rw [← pureRun_run X.P _ _ hrun w]
   congr 1
   refine execOp_congr o hs fun x hx=>?_
   simp only [List.all_eq_true] at hall
   have hsome:=hall x (by simpa using hx)
   obtain ⟨q,hq⟩:=hr x hx
   cases hd:(ρ x).toD with
   | none=>simp [hd] at hsome
   | some d' =>
    cases hu:D.toVal d' with
    | none=>simp [hd,hu] at hsome
    | some u=>simp [hu,(hq.toD hd).toVal u hu]
  ·cases h
 ·cases h
theorem wp_value {P:Program} {o:Oper} {a:Act} {w w':World} {v:Value} {K:Act→World→Prop} {Q:Exit→Act→World→Prop}
  (h:(execOp a.eval o).run P w = .ok (.value v) w') (hk:K (a.put o.dst v) w'):o.wp P a w K Q:=by
 unfold Oper.wp
 rw [h]
 exact hk
theorem run_aggT {P:Program} {t:TypeId} {b:Bool} (h:aggT P t = some b) (w:World):(isAgg t).run P w = .ok b w:=by
 unfold aggT at h
 cases hu:P.underlying t with
 | none=>simp [hu] at h
 | some d=>cases d <;> simp [hu] at h <;> subst h <;> simp [isAgg,run_underlying hu]
theorem run_sizeT {P:Program} {t:TypeId} {n:Nat} (h:sizeT P t = some n) (w:World):(Go.sizeOf t).run P w = .ok n w:=by
 unfold sizeT at h
 cases hi:P.info? t with
 | none=>simp [hi] at h
 | some i=>simp [hi] at h;subst h;simp [Go.sizeOf,typeInfo,hi]
def partVal (g:Bool) (vals:List Value) (off n:Nat):Value:=if g then .agg ⟨(vals.drop off).take n⟩ else vals.getD off undef
theorem run_loadVar_seg {P:Program} {w:World} {b base:Nat} {vals:List Value} (hc:∀ j v,vals[j]? = some v→w.cell? ⟨b,base + j,none⟩ = some v) {t n:Nat}
  (hn:sizeT P t = some n) {g:Bool} (hg:aggT P t = some g) {off:Nat} (h1:g = true→off + n≤vals.length) (h2:g = false→off < vals.length) :
  (loadVar t ⟨b,base + off,none⟩).run P w = .ok (partVal g vals off n) w:=by
 cases g with
 | true =>
  have hlen:((vals.drop off).take n).length = n:=by rw [List.length_take,List.length_drop];have:=h1 rfl;omega
  have hl:=run_loadCells_list (P:=P) w ⟨b,base + off,none⟩ ((vals.drop off).take n) (fun j v hj=>by
   rw [Addr.add_lit]
   rw [List.getElem?_take] at hj
   split at hj
   ·rw [List.getElem?_drop] at hj
    have:=hc (off + j) v hj
    rwa [Nat.add_assoc]
   ·cases hj)
  rw [hlen] at hl
  simp [loadVar,run_aggT hg,run_sizeT hn,hl,partVal]
 | false =>
  have hlt:=h2 rfl
  have:=hc off vals[off] (List.getElem?_eq_getElem hlt)
  simp [loadVar,run_aggT hg,this,partVal,hlt]
theorem run_part_seg {P:Program} {w:World} {vals:List Value} {t n:Nat} (hn:sizeT P t = some n) {g:Bool} (hg:aggT P t = some g) {off:Nat}
  (h1:g = true→off + n≤vals.length) (h2:g = false→off < vals.length):(part t ⟨vals⟩ off).run P w = .ok (partVal g vals off n) w:=by
 cases g with
 | true =>
  have he:(⟨vals⟩:Array Value).extract off (off + n) = ⟨(vals.drop off).take n⟩:=by
   rw [show (⟨vals⟩:Array Value) = vals.toArray from rfl,List.extract_toArray,List.extract_eq_take_drop]
   simp
  simp only [part,Sem.run_bind,run_aggT hg,run_sizeT hn,Result.andThen_ok,if_true,Sem.run_pure,he,partVal,Sem.run_map]
 | false =>
  have hlt:=h2 rfl
  simp [part,run_aggT hg,hlt,partVal]
theorem partD_spec' {P:Program} {t:TypeId} {cs:List D} {off:Nat} {d:D} (h:partD P t cs off = some d) :
  ∃ n g,sizeT P t = some n∧aggT P t = some g∧(g = true→off + n≤cs.length)∧(g = false→off < cs.length) ∧
   ∀ (w:World) (e:Nat→Nat) (vals:List Value),cs.length≤vals.length→(∀ (j:Nat) (v:Value) (x:D),vals[j]? = some v→cs[j]? = some x→RepD w e v x)→RepD w e (partVal g vals off n) d:=by
 unfold partD at h
 split at h
 ·rename_i n hn hg
  split at h
  ·rename_i hle
   simp at h
   subst h
   refine ⟨n,true,hn,hg,fun _=>hle,by simp,fun w e vals hl hr=>?_⟩
   refine .agg _ _ (by simp only [List.length_take,List.length_drop];omega) fun j v x h1 h2=>?_
   rw [List.getElem?_take] at h1 h2
   split at h1
   ·rename_i hj
    rw [if_pos hj] at h2
    rw [List.getElem?_drop] at h1 h2
    exact hr _ v x h1 h2
   ·cases h1
  ·cases h
 ·rename_i n hn hg
  have hlt:off < cs.length:=(List.getElem?_eq_some_iff.1 h).1
  refine ⟨n,false,hn,hg,by simp,fun _=>hlt,fun w e vals hl hr=>?_⟩
  have hlt':off < vals.length:=by omega
  simp only [partVal,Bool.false_eq_true,if_false,List.getD_eq_getElem?_getD,List.getElem?_eq_getElem hlt',Option.getD_some]
  exact hr off _ d (List.getElem?_eq_getElem hlt') h
 ·cases h
theorem partD_spec {P:Program} {t:TypeId} {cs:List D} {off:Nat} {d:D} (h:partD P t cs off = some d) :
  ∃ n g,sizeT P t = some n∧aggT P t = some g∧(g = true→off + n≤cs.length)∧(g = false→off < cs.length) ∧
   ∀ (w:World) (e:Nat→Nat) (vals:List Value),vals.length = cs.length→(∀ (j:Nat) (v:Value) (x:D),vals[j]? = some v→cs[j]? = some x→RepD w e v x)→RepD w e (partVal g vals off n) d:=by
 obtain ⟨n,g,h1,h2,h3,h4,h5⟩:=partD_spec' h
 exact ⟨n,g,h1,h2,h3,h4,fun w e vals hl hr=>h5 w e vals (Nat.le_of_eq hl.symm) hr⟩
theorem toDs_spec:∀ (vs:List V) (ds:List D),toDs vs = some ds→ds.length = vs.length∧∀ (j:Nat) (x:V) (d:D),vs[j]? = some x→ds[j]? = some d→x.toD = some d
 | [],ds,h=>by simp [toDs] at h;subst h;exact ⟨rfl,by simp⟩
 | v :: vs,ds,h=>by
  simp only [toDs] at h
  split at h
  ·rename_i d ds' hd hds
   simp only [Option.some.injEq] at h
   subst h
   obtain ⟨h1,h2⟩:=toDs_spec vs ds' hds
   refine ⟨by simp [h1],fun j x y hx hy=>?_⟩
   cases j with
   | zero=>simp at hx hy;subst hx;subst hy;exact hd
   | succ j=>simp at hx hy;exact h2 j x y hx hy
  ·cases h
theorem aggV_rep {X:Ctx} {w:World} {g:Gh} {p:Own} {vals:List Value} {vs:List V} (hl:vals.length = vs.length)
  (hr:∀ (j:Nat) (v:Value) (x:V),vals[j]? = some v→vs[j]? = some x→RepV X w g .free v x):RepV X w g p (.agg ⟨vals⟩) (aggV vs):=by
 unfold aggV
 split
 ·rename_i ds hds
  obtain ⟨h1,h2⟩:=toDs_spec vs ds hds
  refine .d _ _ _ (.agg _ _ (by omega) fun j v d hv hd=>?_)
  have hlt:j < vs.length:=by rw [← h1];exact (List.getElem?_eq_some_iff.1 hd).1
  exact (hr j v vs[j] hv (List.getElem?_eq_getElem hlt)).toD (h2 j vs[j] d (List.getElem?_eq_getElem hlt) hd)
 ·exact .agg _ _ _ hl hr
theorem RepV.flat {X:Ctx} {w:World} {g:Gh} {p:Own} {v:Value} {x:V} (h:RepV X w g p v x):RepV X w g p v x.flat:=by
 cases x with
 | agg vs =>
  cases h with
  | agg _ vals _ hl hr =>
   refine aggV_rep (by simp [hl]) fun j v x h1 h2=>?_
   rw [List.getElem?_map] at h2
   cases hx:vs[j]? with
   | none=>simp [hx] at h2
   | some x' => simp [hx] at h2;subst h2;exact (hr j v x' h1 hx).copy
 | _=>exact h
theorem partV_spec {X:Ctx} {t:TypeId} {vs:List V} {off:Nat} {y:V} (h:partV X.P t vs off = some y) :
  ∃ n g,sizeT X.P t = some n∧aggT X.P t = some g∧(g = true→off + n≤vs.length)∧(g = false→off < vs.length) ∧
   ∀ (w:World) (gh:Gh) (p:Own) (q:Nat→Own) (vals:List Value),vs.length≤vals.length→(∀ (j:Nat) (v:Value) (x:V),vals[j]? = some v→vs[j]? = some x→RepV X w gh (q j) v x)→RepV X w gh p (partVal g vals off n) y:=by
 unfold partV at h
 split at h
 ·rename_i n hn hg
  split at h
  ·rename_i hle
   simp at h
   subst h
   refine ⟨n,true,hn,hg,fun _=>hle,by simp,fun w e p q vals hl hr=>?_⟩
   refine aggV_rep (by simp only [List.length_take,List.length_drop,List.length_map];omega) fun j v x h1 h2=>?_
   rw [List.getElem?_take] at h1 h2
   split at h1
   ·rename_i hj
    rw [if_pos hj] at h2
    rw [List.getElem?_drop] at h1 h2
    rw [List.getElem?_map] at h2
    cases hx:vs[off + j]? with
    | none=>simp [hx] at h2
    | some x' => simp [hx] at h2;subst h2;exact (hr _ v x' h1 hx).copy
   ·cases h1
  ·cases h
 ·rename_i n hn hg
  cases hx:vs[off]? with
  | none=>simp [hx] at h
  | some x' =>
   simp [hx] at h
   subst h
   have hlt:off < vs.length:=(List.getElem?_eq_some_iff.1 hx).1
   refine ⟨n,false,hn,hg,by simp,fun _=>hlt,fun w e p q vals hl hr=>?_⟩
   have hlt':off < vals.length:=by omega
   simp only [partVal,Bool.false_eq_true,if_false,List.getD_eq_getElem?_getD,List.getElem?_eq_getElem hlt',Option.getD_some]
   exact (hr off _ x' (List.getElem?_eq_getElem hlt') hx).copy
 ·cases h
theorem run_load_ref {P:Program} {w:World} {e:Nat→Nat} {v:Value} {cs:List D} {off:Nat} (h:RepD w e v (.ref cs off)) {t:TypeId} {d:D} (hd:partD P t cs off = some d) :
  ∃ ad u,v = .pointer (some ad)∧(loadVar t ad).run P w = .ok u w∧RepD w e u d:=by
 cases h with
 | ref b base _ _ vals hl he hc hr =>
  obtain ⟨n,g,hn,hg,h1,h2,h3⟩:=partD_spec hd
  exact ⟨_,_,rfl,run_loadVar_seg hc hn hg (fun hh=>by rw [hl];exact h1 hh) (fun hh=>by rw [hl];exact h2 hh),h3 w e vals hl hr⟩
theorem load_sound {X:Ctx} {ρ:Operand→V} {h:List Ob} {t:TypeId} {pt:Operand} {y:V} (hy:loadOp X ρ h t pt = some y) {w:World} {g:Gh} {q:Own} {v:Value}
  (hv:RepV X w g q v (ρ pt)) (hh:RepH X w g h) (p:Own):∃ u,(Instr.loadAt t v).run X.P w = .ok u w∧RepV X w g p u y:=by
 unfold loadOp at hy
 split at hy
 ·rename_i c off hρ
  rw [hρ] at hv
  cases hpd:partD X.P t c off with
  | none=>simp [hpd] at hy
  | some d =>
   simp [hpd] at hy
   subst hy
   cases hv with
   | d _ _ _ hv =>
    obtain ⟨ad,u,rfl,h1,h2⟩:=run_load_ref hv hpd
    exact ⟨u,by simp [Instr.loadAt,Instr.sureAddr,h1],.d _ _ _ h2⟩
 ·rename_i id off hρ
  rw [hρ] at hv
  cases hv with
  | obj _ _ _ b hb =>
   split at hy
   ·rename_i c hob
    obtain ⟨vals,T,h1,h2,h3,h4⟩:=hh.ob id b _ hb hob
    cases hpd:partD X.P t c off with
    | none=>simp [hpd] at hy
    | some d =>
     simp [hpd] at hy
     subst hy
     obtain ⟨n,gg,hn,hg,k1,k2,k3⟩:=partD_spec' hpd
     have hl:=run_loadVar_seg (P:=X.P) (w:=w) (b:=b) (base:=0) (vals:=vals) (fun j v hj=>by rw [Nat.zero_add,cell_of_heap h1];simpa using hj) hn hg (off:=off) (fun hh=>by have:=k1 hh;omega) (fun hh=>by have:=k2 hh;omega)
     rw [Nat.zero_add] at hl
     exact ⟨_,by simp [Instr.loadAt,Instr.sureAddr,hl],.d _ _ _ (k3 w g.e vals h2 h4)⟩
   ·rename_i vs hob
    obtain ⟨vals,T,h1,h2,h3,h4⟩:=hh.ob id b _ hb hob
    obtain ⟨n,gg,hn,hg,k1,k2,k3⟩:=partV_spec hy
    have hl:=run_loadVar_seg (P:=X.P) (w:=w) (b:=b) (base:=0) (vals:=vals) (fun j v hj=>by rw [Nat.zero_add,cell_of_heap h1];simpa using hj) hn hg (off:=off) (fun hh=>by have:=k1 hh;omega) (fun hh=>by have:=k2 hh;omega)
    rw [Nat.zero_add] at hl
    exact ⟨_,by simp [Instr.loadAt,Instr.sureAddr,hl],k3 w g p (fun j=>.cell id j) vals h2 h4⟩
   ·cases hy
 ·cases hy
theorem V.slice?_rep {X:Ctx} {w:World} {g:Gh} {q:Own} {v:Value} {x:V} {c:List D} {n:Nat} (h:x.slice? = some (c,n)) (r:RepV X w g q v x) :
  (x = .d .nilsl∧v = .slice none 0 0∧c = [] ∧ n = 0)∨RepD w g.e v (.sl c n):=by
 cases x with
 | d y =>
  cases y <;> simp [V.slice?] at h
  case nilsl =>
   obtain ⟨rfl,rfl⟩:=h
   cases r with | d _ _ _ r=>cases r;exact .inl ⟨rfl,rfl,rfl,rfl⟩
  case sl =>
   obtain ⟨rfl,rfl⟩:=h
   cases r with | d _ _ _ r=>exact .inr r
 | tail E c' n' => simp [V.slice?] at h;obtain ⟨rfl,rfl⟩:=h;exact .inr r.tail_sl
 | full c' n' => simp [V.slice?] at h;obtain ⟨rfl,rfl⟩:=h;cases r with | full _ _ _ _ _ r=>exact .inr r
 | _=>simp [V.slice?] at h
theorem index_sound {X:Ctx} {ρ:Operand→V} {t:TypeId} {x i:Operand} {y:V} (hy:indexAddrOp X ρ t x i = some y) {w:World} {g:Gh} {q r:Own} {vx vi:Value}
  (hx:RepV X w g q vx (ρ x)) (hi:RepV X w g r vi (ρ i)) (p:Own):∃ u,(Instr.indexAt t vx vi).run X.P w = .ok u w∧RepV X w g p u y:=by
 unfold indexAddrOp at hy
 split at hy
 ·rename_i k kk hρi
  rw [hρi] at hi
  cases hi with
  | d _ _ _ hi =>
   cases hi
   split at hy
   ·rename_i hk0
    split at hy
    ·rename_i e hu
     split at hy
     ·rename_i z hz
      split at hy
      ·rename_i id off n hρx
       rw [hρx] at hx
       split at hy
       ·rename_i hlt
        simp at hy
        subst hy
        cases hx with
        | osl _ _ _ _ c b hb hn =>
         exact ⟨_,by simp [Instr.indexAt,asIntOf,run_underlying hu,hk0,hlt,run_sizeT hz,Addr.add_lit],.obj _ _ _ b hb⟩
       ·cases hy
      ·split at hy
       ·rename_i c n hsl
        split at hy
        ·rename_i hlt
         simp at hy
         subst hy
         rcases V.slice?_rep hsl hx with ⟨_,_,_,rfl⟩ | hsl'
         ·omega
         ·cases hsl' with
          | sl0=>omega
          | sl b o _ cap _ vals hn hl he hc hr =>
           refine ⟨_,by simp [Instr.indexAt,asIntOf,run_underlying hu,hk0,hlt.1,run_sizeT hz,Addr.add_lit],.d _ _ _ (.ref b o _ c vals hl he hc hr)⟩
        ·cases hy
       ·cases hy
     ·cases hy
    ·rename_i n e hu
     split at hy
     ·rename_i z hz
      split at hy
      ·rename_i hlt
       split at hy
       ·rename_i id off hρx
        rw [hρx] at hx
        simp at hy
        subst hy
        cases hx with
        | obj _ _ _ b hb =>
         exact ⟨_,by simp [Instr.indexAt,asIntOf,Instr.sureAddr,run_underlying hu,hk0,hlt,run_sizeT hz,Addr.add_lit],.obj _ _ _ b hb⟩
       ·rename_i c off hρx
        rw [hρx] at hx
        simp at hy
        subst hy
        cases hx with
        | d _ _ _ hx =>
         cases hx with
         | ref b base _ _ vals hl he hc hr =>
          refine ⟨_,by simp [Instr.indexAt,asIntOf,Instr.sureAddr,run_underlying hu,hk0,hlt,run_sizeT hz,Addr.add_lit,Nat.add_assoc],.d _ _ _ (.ref b base _ c vals hl he hc hr)⟩
       ·cases hy
      ·cases hy
     ·cases hy
    ·cases hy
   ·cases hy
 ·cases hy
theorem fieldAddr_sound {X:Ctx} {ρ:Operand→V} {t:TypeId} {x:Operand} {f:Nat} {y:V} (hy:fieldAddrOp X ρ t x f = some y) {w:World} {g:Gh} {q:Own} {vx:Value}
  (hx:RepV X w g q vx (ρ x)) (p:Own):∃ u,(Instr.fieldAt t vx f).run X.P w = .ok u w∧RepV X w g p u y:=by
 unfold fieldAddrOp at hy
 split at hy
 ·rename_i o ft hf
  unfold fieldT at hf
  split at hf
  ·rename_i fs hu
   cases hff:fs[f]? with
   | none=>simp [hff] at hf
   | some fl =>
    simp [hff] at hf
    obtain ⟨rfl,rfl⟩:=hf
    split at hy
    ·rename_i z hz
     split at hy
     ·cases hy
     ·rename_i hz0
      split at hy
      ·rename_i id off hρx
       rw [hρx] at hx
       simp at hy
       subst hy
       cases hx with
       | obj _ _ _ b hb =>
        exact ⟨_,by simp [Instr.fieldAt,Instr.sureAddr,run_underlying hu,hff,fieldPlace,run_sizeT hz,hz0,Addr.add_lit],.obj _ _ _ b hb⟩
      ·rename_i c off hρx
       rw [hρx] at hx
       simp at hy
       subst hy
       cases hx with
       | d _ _ _ hx =>
        cases hx with
        | ref b base _ _ vals hl he hc hr =>
         exact ⟨_,by simp [Instr.fieldAt,Instr.sureAddr,run_underlying hu,hff,fieldPlace,run_sizeT hz,hz0,Addr.add_lit,Nat.add_assoc],.d _ _ _ (.ref b base _ c vals hl he hc hr)⟩
      ·cases hy
    ·cases hy
  ·cases hf
 ·cases hy
def BV (o:Option Value) (dflt n:Nat):Prop:=(o = none∧n = dflt)∨∃ k,o = some (.int k (n:Int))
theorem bound_rep {X:Ctx} {ρ:Operand→V} {w:World} {g:Gh} {a:Act} {dflt n:Nat} {x:Option Operand} (h:boundOf ρ dflt x = some n) (hr:∀ y,x = some y→∃ q,RepV X w g q (a.eval y) (ρ y)) :
  BV (x.map a.eval) dflt n:=by
 cases x with
 | none=>simp [boundOf] at h;exact .inl ⟨rfl,h.symm⟩
 | some y =>
  obtain ⟨q,hq⟩:=hr y rfl
  simp only [boundOf] at h
  split at h
  ·rename_i k i hρ
   rw [hρ] at hq
   split at h
   ·rename_i h0
    simp at h
    generalize hv:a.eval y = v at hq
    cases hq with
    | d _ _ _ hq =>
     cases hq
     refine .inr ⟨k,?_⟩
     simp only [Option.map_some,hv]
     congr 2
     omega
   ·cases h
  ·cases h
theorem run_sliceBound {P:Program} {w:World} {k:IntKind} {n y:Nat} {code:BoundsCode} (h:n≤y):(Instr.sliceBound (.int k (n:Int)) y code).run P w = .ok n w:=by
 simp [Instr.sliceBound,asIntOf,h]
theorem run_bounds2 {P:Program} {w:World} {s:Bool} {len cap l h:Nat} {lo hi:Option Value} (hlo:BV lo 0 l) (hhi:BV hi len h) (h1:l≤h) (h2:h≤cap) :
  (Instr.sliceBounds s len cap lo hi none).run P w = .ok (l,h,cap) w:=by
 rcases hlo with ⟨rfl,rfl⟩ | ⟨k,rfl⟩ <;> rcases hhi with ⟨rfl,rfl⟩ | ⟨k',rfl⟩ <;> simp [Instr.sliceBounds,run_sliceBound,h1,h2]
theorem run_bounds3 {P:Program} {w:World} {s:Bool} {len cap l h m:Nat} {lo hi mx:Option Value} {k k':IntKind} (hlo:BV lo 0 l) (hhi:hi = some (.int k (h:Int))) (hmx:mx = some (.int k' (m:Int))) (h1:l≤h) (h2:h≤m) (h3:m≤cap) :
  (Instr.sliceBounds s len cap lo hi mx).run P w = .ok (l,h,m) w:=by
 subst hhi
 subst hmx
 rcases hlo with ⟨rfl,rfl⟩ | ⟨k,rfl⟩ <;> simp [Instr.sliceBounds,run_sliceBound,h1,h2,h3]
theorem extract_mk (l:List UInt8) (a b:Nat):(⟨l.toArray⟩:ByteArray).extract a b = ⟨((l.take b).drop a).toArray⟩:=by
 rw [ByteArray.extract_mk]
 rw [List.drop_take]
theorem RepD.sub {w:World} {e:Nat→Nat} {b o:Nat} {cells:List D} {vals:List Value} {i k n c:Nat} (hn:n≤c) (hl:vals.length = cells.length) (he:o + cells.length≤e b)
  (hc:∀ j v,vals[j]? = some v→w.cell? ⟨b,o + j,none⟩ = some v) (hr:∀ (j:Nat) (v:Value) (d:D),vals[j]? = some v→cells[j]? = some d→RepD w e v d) (hi:i≤cells.length) :
  RepD w e (.slice (some ⟨b,o + i,none⟩) n c) (.sl ((cells.take k).drop i) n):=by
 refine .sl b (o + i) n c _ ((vals.take k).drop i) hn (by simp [hl]) ?_ (fun j v hj=>?_) (fun j v d h1 h2=>?_)
 ·simp only [List.length_drop,List.length_take];omega
 ·rw [List.getElem?_drop,List.getElem?_take] at hj
  split at hj
  ·have:=hc _ v hj
   rwa [Nat.add_assoc]
  ·cases hj
 ·rw [List.getElem?_drop,List.getElem?_take] at h1 h2
  split at h1
  ·rename_i hlt
   rw [if_pos hlt] at h2
   exact hr _ v d h1 h2
  ·cases h1
theorem run_sliceAt_slice {P:Program} {w:World} {t e z l h m len cap:Nat} {ad:Option Addr} {lo hi mx:Option Value} (hu:P.underlying t = some (.slice e)) (hz:sizeT P e = some z)
  (hb:(Instr.sliceBounds true len cap lo hi mx).run P w = .ok (l,h,m) w) :
  (Instr.sliceAt t (.slice ad len cap) lo hi mx).run P w = .ok (.slice (if m = l then ad else ad.map (·.add (l * z))) (h - l) (m - l)) w:=by
 simp [Instr.sliceAt,Instr.slice,run_underlying hu,hb,run_sizeT hz]
theorem slice_sound {X:Ctx} {ρ:Operand→V} {t:TypeId} {x:Operand} {lo hi mx:Option Operand} {y:V} (hy:sliceOp X ρ t x lo hi mx = some y) {w:World} {g:Gh} {a:Act} {q:Own}
  (hx:RepV X w g q (a.eval x) (ρ x)) (hlo:∀ z,lo = some z→∃ q,RepV X w g q (a.eval z) (ρ z)) (hhi:∀ z,hi = some z→∃ q,RepV X w g q (a.eval z) (ρ z))
  (hmx:∀ z,mx = some z→∃ q,RepV X w g q (a.eval z) (ρ z)) (p:Own) :
  ∃ u,(Instr.sliceAt t (a.eval x) (lo.map a.eval) (hi.map a.eval) (mx.map a.eval)).run X.P w = .ok u w∧RepV X w g p u y:=by
 unfold sliceOp at hy
 split at hy
 ·
  rename_i s hu hρ
  rw [hρ] at hx
  generalize a.eval x = vx at hx
  cases hx with
  | d _ _ _ hx =>
   cases hx
   split at hy
   ·cases hy
   ·rename_i hm
    obtain rfl:mx = none:=by cases mx <;> simp_all
    split at hy
    ·rename_i l h hl hh
     split at hy
     ·rename_i hle
      simp at hy
      subst hy
      have hb:=run_bounds2 (P:=X.P) (w:=w) (s:=false) (cap:=s.length) (bound_rep hl hlo) (bound_rep hh hhi) hle.1 hle.2
      refine ⟨.string ⟨((s.take h).drop l).toArray⟩,?_,.d _ _ _ (.str _)⟩
      have hsz:(⟨s.toArray⟩:ByteArray).size = s.length:=by simp [ByteArray.size]
      simp [Instr.sliceAt,Instr.slice,run_underlying hu,hsz,hb,extract_mk]
     ·cases hy
    ·cases hy
 ·
  rename_i e hu hρ
  rw [hρ] at hx
  generalize a.eval x = vx at hx
  cases hx with
  | d _ _ _ hx =>
   cases hx
   split at hy
   ·rename_i hcond
    split at hy
    ·rename_i hl hh hm
     simp at hy
     subst hy
     refine ⟨.slice none 0 0,?_,.d _ _ _ .nilsl⟩
     have b1:=bound_rep hl hlo
     have b2:=bound_rep hh hhi
     have b3:=bound_rep hm hmx
     simp only [Bool.and_eq_true,Bool.or_eq_true] at hcond
     obtain ⟨z,hz⟩:=Option.isSome_iff_exists.1 hcond.1
     have hb:(Instr.sliceBounds true 0 0 (lo.map a.eval) (hi.map a.eval) (mx.map a.eval)).run X.P w = .ok (0,0,0) w:=by
      rcases b3 with ⟨h3,_⟩ | ⟨k3,h3⟩
      ·rw [h3];exact run_bounds2 b1 b2 (Nat.le_refl _) (Nat.le_refl _)
      ·rcases b2 with ⟨h2,_⟩ | ⟨k2,h2⟩
       ·rcases hcond.2 with hc | hc
        ·cases mx <;> simp_all
        ·cases hi <;> simp_all
       ·exact run_bounds3 b1 h2 h3 (Nat.le_refl _) (Nat.le_refl _) (Nat.le_refl _)
     simp [Instr.sliceAt,Instr.slice,run_underlying hu,hb,run_sizeT hz]
    ·cases hy
   ·cases hy
 ·rename_i e hu hne
  split at hy
  ·rename_i c n z hsl hz
   split at hy
   ·rename_i l h hl hh
    split at hy
    ·rename_i hle
     obtain ⟨hlh,hhn,hcl⟩:=hle
     have b1:=bound_rep hl hlo
     have b2:=bound_rep hh hhi
     rcases V.slice?_rep hsl hx with ⟨hx0,_⟩ | hr
     ·exact (hne hx0).elim
     ·generalize hve:a.eval x = vx at hr
      cases hr with
      | sl0 ad cap hcap =>
       obtain rfl:h = 0:=by omega
       obtain rfl:l = 0:=by omega
       cases mx with
       | none =>
        simp at hy
        subst hy
        have hb:=run_bounds2 (P:=X.P) (w:=w) (s:=true) (len:=0) (cap:=cap) b1 b2 (Nat.le_refl _) (Nat.zero_le _)
        refine ⟨_,run_sliceAt_slice hu hz hb,.d _ _ _ ?_⟩
        simp only [Nat.sub_self,Nat.sub_zero,Nat.zero_mul]
        refine .sl0 _ _ fun hn=>?_
        split at hn
        ·assumption
        ·cases ad with
         | none=>exact hcap rfl
         | some a=>cases hn
       | some m =>
        simp only at hy
        split at hy
        ·rename_i m' hm'
         split at hy
         ·rename_i hmh
          obtain ⟨rfl,hhi'⟩:=hmh
          simp at hy
          subst hy
          rcases bound_rep hm' hmx with ⟨h3,_⟩ | ⟨k3,h3⟩
          ·simp at h3
          ·rcases b2 with ⟨h2,_⟩ | ⟨k2,h2⟩
           ·cases hi <;> simp_all
           ·have hb:=run_bounds3 (P:=X.P) (w:=w) (s:=true) (len:=0) (cap:=cap) b1 h2 h3 (Nat.le_refl _) (Nat.le_refl _) (Nat.zero_le _)
            exact ⟨_,run_sliceAt_slice hu hz hb,.tail0 _ _ _⟩
         ·cases hy
        ·cases hy
      | sl b o _ cap _ vals hn hlv he hc hrr =>
       have hcz:l * z≤c.length:=by rw [hcl];exact Nat.mul_le_mul_right z (by omega)
       cases mx with
       | none =>
        simp at hy
        subst hy
        have hb:=run_bounds2 (P:=X.P) (w:=w) (s:=true) (len:=n) (cap:=cap) b1 b2 hlh (by omega)
        by_cases hcl2:cap = l
        ·have hcd:(c.take (h * z)).drop (l * z) = []:=List.drop_eq_nil_of_le (by simp only [List.length_take];rw [show h = l from by omega];exact Nat.min_le_left _ _)
         refine ⟨.slice (some ⟨b,o,none⟩) (h - l) (cap - l),(run_sliceAt_slice hu hz hb).trans (by rw [if_pos hcl2]),.d _ _ _ ?_⟩
         rw [hcd]
         exact .sl b o _ _ [] [] (by omega) rfl (by simp;omega) (by simp) (by simp)
        ·refine ⟨.slice (some ⟨b,o + l * z,none⟩) (h - l) (cap - l),(run_sliceAt_slice hu hz hb).trans (by rw [if_neg hcl2,Option.map_some,Addr.add_lit]),.d _ _ _ ?_⟩
         exact RepD.sub (by omega) hlv he hc hrr hcz
       | some m =>
        simp only at hy
        split at hy
        ·rename_i m' hm'
         split at hy
         ·rename_i hmh
          obtain ⟨rfl,hhi'⟩:=hmh
          have b3:=bound_rep hm' hmx
          rcases b3 with ⟨h3,_⟩ | ⟨k3,h3⟩
          ·simp at h3
          ·rcases b2 with ⟨h2,_⟩ | ⟨k2,h2⟩
           ·cases hi <;> simp_all
           ·by_cases hn0:n = 0
            ·subst hn0
             obtain rfl:m' = 0:=by omega
             obtain rfl:l = 0:=by omega
             simp at hy
             subst hy
             have hb:=run_bounds3 (P:=X.P) (w:=w) (s:=true) (len:=0) (cap:=cap) b1 h2 h3 hlh (Nat.le_refl _) (by omega)
             exact ⟨_,run_sliceAt_slice hu hz hb,.tail0 _ _ _⟩
            rw [if_pos hn0] at hy
            simp at hy
            subst hy
            have hb:=run_bounds3 (P:=X.P) (w:=w) (s:=true) (len:=n) (cap:=cap) b1 h2 h3 hlh (Nat.le_refl _) (by omega)
            by_cases hcl2:m' = l
            ·have hcd:(c.take (m' * z)).drop (l * z) = []:=List.drop_eq_nil_of_le (by simp only [List.length_take];subst hcl2;exact Nat.min_le_left _ _)
             refine ⟨.slice (some ⟨b,o,none⟩) (m' - l) (m' - l),(run_sliceAt_slice hu hz hb).trans (by rw [if_pos hcl2]),.full _ _ _ _ _ ?_⟩
             rw [hcd]
             exact .sl b o _ _ [] [] (by omega) rfl (by simp;omega) (by simp) (by simp)
            ·refine ⟨.slice (some ⟨b,o + l * z,none⟩) (m' - l) (m' - l),(run_sliceAt_slice hu hz hb).trans (by rw [if_neg hcl2,Option.map_some,Addr.add_lit]),.full _ _ _ _ _ ?_⟩
             exact RepD.sub (by omega) hlv he hc hrr hcz
         ·cases hy
        ·cases hy
    ·cases hy
   ·cases hy
  ·split at hy
   ·rename_i id off n z hρ hz
    split at hy
    ·cases hy
    ·rename_i hm
     obtain rfl:mx = none:=by cases mx <;> simp_all
     split at hy
     ·rename_i l h hl hh
      split at hy
      ·rename_i hle
       obtain ⟨hlh,hhn,hl0⟩:=hle
       simp at hy
       subst hy
       have b1:=bound_rep hl hlo
       have b2:=bound_rep hh hhi
       rw [hρ] at hx
       generalize a.eval x = vx at hx
       cases hx with
       | osl _ _ _ _ cap b hb' hn =>
        have hb:=run_bounds2 (P:=X.P) (w:=w) (s:=true) (len:=n) (cap:=cap) b1 b2 hlh (by omega)
        by_cases hcl2:cap = l
        ·have hl00:l = 0:=by omega
         refine ⟨.slice (some ⟨b,off,none⟩) (h - l) (cap - l),(run_sliceAt_slice hu hz hb).trans (by rw [if_pos hcl2]),?_⟩
         subst hl00
         rw [Nat.zero_mul,Nat.add_zero]
         exact .osl _ _ _ _ _ _ hb' (by omega)
        ·refine ⟨.slice (some ⟨b,off + l * z,none⟩) (h - l) (cap - l),(run_sliceAt_slice hu hz hb).trans (by rw [if_neg hcl2,Option.map_some,Addr.add_lit]),?_⟩
         exact .osl _ _ _ _ _ _ hb' (by omega)
      ·cases hy
     ·cases hy
   ·cases hy
 ·cases hy
def PtD (w:World) (e:Nat→Nat) (vals:List Value) (ds:List D):Prop :=
 vals.length = ds.length∧∀ (j:Nat) (v:Value) (d:D),vals[j]? = some v→ds[j]? = some d→RepD w e v d
def PtV (X:Ctx) (w:World) (g:Gh) (vals:List Value) (vs:List V):Prop :=
 vals.length = vs.length∧∀ (j:Nat) (v:Value) (x:V),vals[j]? = some v→vs[j]? = some x→RepV X w g .free v x
theorem PtD.toV {X:Ctx} {w:World} {g:Gh} {vals:List Value} {ds:List D} (h:PtD w g.e vals ds):PtV X w g vals (ds.map .d):=by
 refine ⟨by rw [List.length_map];exact h.1,fun j v x h1 h2=>?_⟩
 rw [List.getElem?_map] at h2
 cases hd:ds[j]? with
 | none=>simp [hd] at h2
 | some d=>simp [hd] at h2;subst h2;exact .d _ _ _ (h.2 j v d h1 hd)
theorem PtV.toDs {X:Ctx} {w:World} {g:Gh} {vals:List Value} {vs:List V} (h:PtV X w g vals vs) {ds:List D} (hd:Pv.toDs vs = some ds):PtD w g.e vals ds:=by
 obtain ⟨h1,h2⟩:=toDs_spec vs ds hd
 refine ⟨h.1.trans h1.symm,fun j v d hv hdj=>?_⟩
 have hlt:j < vs.length:=by rw [← h1];exact (List.getElem?_eq_some_iff.1 hdj).1
 exact (h.2 j v vs[j] hv (List.getElem?_eq_getElem hlt)).toD (h2 j vs[j] d (List.getElem?_eq_getElem hlt) hdj)
theorem cells_rep {X:Ctx} {w:World} {g:Gh} {q:Own} {v:Value} {x:V} (h:RepV X w g q v x) (hs:x.sure = true):PtV X w g v.cells.toList x.copy.cells:=by
 have single:∀ (u:Value) (y:V),u.cells = #[u] → y.cells = [y] → RepV X w g .free u y→PtV X w g u.cells.toList y.cells:=by
  intro u y hu hy hr
  rw [hu,hy]
  refine ⟨rfl,fun j v x h1 h2=>?_⟩
  cases j with
  | zero=>simp at h1 h2;subst h1;subst h2;exact hr
  | succ j=>simp at h1
 cases h with
 | d _ _ y hy =>
  have hy':=hy
  cases hy with
  | und=>simp [V.sure] at hs
  | tup=>simp [V.sure] at hs
  | agg vals cells hl hr=>exact PtD.toV (X:=X) (g:=g) (vals:=vals) (ds:=cells) ⟨hl,hr⟩
  | _=>exact single _ _ rfl rfl (.d _ _ _ hy')
 | tail p E cells n b c cur z vals hz hz0 hb hn hm hcur hcl he ho hp hv hr =>
  exact single _ _ rfl rfl (RepV.copy (p:=q) (q:=.free) (x:=.tail E cells n) (.tail q E cells n b c cur z vals hz hz0 hb hn hm hcur hcl he ho hp hv hr))
 | tail0 p E a0=>exact single _ _ rfl rfl (.d _ _ _ (.sl0 _ 0 fun _=>rfl))
 | full _ b o cells n hh=>exact single _ _ rfl rfl (.full _ _ _ _ _ hh)
 | obj _ id off b hb=>exact single _ _ rfl rfl (.obj _ _ _ _ hb)
 | osl _ id off n c b hb hn=>exact single _ _ rfl rfl (.osl _ _ _ _ _ _ hb hn)
 | clo _ fn va vb a b h1 h2 h3 h4=>exact single _ _ rfl rfl (.clo _ _ _ _ _ _ h1 h2 h3 h4)
 | agg _ vals vs hl hr=>exact ⟨hl,hr⟩
 | tup=>simp [V.sure] at hs
 | mp _ id b hb=>exact single _ _ rfl rfl (.mp _ _ _ hb)
 | it _ id b hb=>exact single _ _ rfl rfl (.it _ _ _ hb)
theorem cells_ofVal {w:World} {e:Nat→Nat} (n:Nat) (v:Value):PtD w e v.cells.toList (D.ofVal (n + 2) v).cells:=by
 have single:∀ (u:Value) (y:D),u.cells = #[u] → y.cells = [y] → RepD w e u y→PtD w e u.cells.toList y.cells:=by
  intro u y hu hy hr
  rw [hu,hy]
  refine ⟨rfl,fun j v x h1 h2=>?_⟩
  cases j with
  | zero=>simp at h1 h2;subst h1;subst h2;exact hr
  | succ j=>simp at h1
 cases v with
 | agg cs =>
  refine ⟨by simp [Value.cells,D.ofVal,D.cells],fun j v d h1 h2=>?_⟩
  have h2':(cs.toList.map (D.ofVal (n + 1)))[j]? = some d:=h2
  have h1':cs.toList[j]? = some v:=h1
  rw [List.getElem?_map,h1'] at h2'
  cases h2'
  exact RepD.ofVal _ _
 | pointer a=>cases a <;> exact single _ _ rfl rfl (RepD.ofVal _ _)
 | slice a l c =>
  refine single _ _ rfl ?_ (RepD.ofVal _ _)
  cases a with
  | none=>simp only [D.ofVal];split <;> rfl
  | some a=>rfl
 | map r=>cases r <;> exact single _ _ rfl rfl (RepD.ofVal _ _)
 | func fn a b =>
  refine single _ _ rfl ?_ (RepD.ofVal _ _)
  cases fn with
  | func f=>simp only [D.ofVal];split <;> rfl
  | _=>rfl
 | _=>exact single _ _ rfl rfl (RepD.ofVal _ _)
theorem zip_fold:∀ (xs:List Value) (k off:Nat) (l:List Value),off + k + xs.length≤l.length →
  (xs.zipIdx k).foldl (fun (cs:Array Value) (x:Value × Nat)=>cs.setIfInBounds (off + x.2) x.1) ⟨l⟩ = ⟨l.take (off + k) ++ xs ++ l.drop (off + k + xs.length)⟩
 | [],k,off,l,h=>by simp
 | x :: xs,k,off,l,h=>by
  simp only [List.zipIdx_cons,List.foldl_cons]
  have hs:(⟨l⟩:Array Value).setIfInBounds (off + k) x = ⟨l.set (off + k) x⟩:=by simp
  rw [hs,zip_fold xs (k + 1) off (l.set (off + k) x) (by simp at h ⊢;omega)]
  congr 1
  have hlt:off + k < l.length:=by simp at h;omega
  have e1:(l.set (off + k) x).take (off + (k + 1)) = l.take (off + k) ++ [x]:=by
   rw [show off + (k + 1) = off + k + 1 from by omega,List.take_succ_eq_append_getElem (by simpa using hlt)]
   simp [List.take_set_of_le]
  have e2:(l.set (off + k) x).drop (off + (k + 1) + xs.length) = l.drop (off + k + (x :: xs).length):=by
   rw [List.drop_set_of_lt (by omega)]
   congr 1
   simp;omega
  rw [e1,e2]
  simp
theorem fold_splice {xs l:List Value} {off:Nat} (h:off + xs.length≤l.length) :
  (⟨xs⟩:Array Value).zipIdx.foldl (fun (cs:Array Value) (x:Value × Nat)=>cs.setIfInBounds (off + x.2) x.1) ⟨l⟩ = ⟨splice l off xs⟩:=by
 have:=zip_fold xs 0 off l (by simpa using h)
 rw [← Array.foldl_toList]
 simpa [splice] using this
theorem splice_length {α:Type} {l xs:List α} {off:Nat} (h:off + xs.length≤l.length):(splice l off xs).length = l.length:=by
 simp only [splice,List.length_append,List.length_take,List.length_drop]
 omega
theorem splice_get {α:Type} {l xs:List α} {off:Nat} (h:off + xs.length≤l.length) (j:Nat) :
  (splice l off xs)[j]? = if j < off then l[j]? else if j < off + xs.length then xs[j - off]? else l[j]?:=by
 have h1:(l.take off).length = off:=by rw [List.length_take];omega
 simp only [splice]
 rw [List.append_assoc,List.getElem?_append,h1]
 split
 ·rename_i hlt
  rw [List.getElem?_take,if_pos hlt]
 ·rename_i hge
  rw [List.getElem?_append]
  split
  ·rename_i h2;rw [if_pos (by omega)]
  ·rename_i h2
   rw [if_neg (by omega),List.getElem?_drop]
   congr 1
   omega
theorem PtV.splice {X:Ctx} {w:World} {g:Gh} {vals us:List Value} {vs xs:List V} {off:Nat} (h:PtV X w g vals vs) (k:PtV X w g us xs) (ho:off + xs.length≤vs.length) :
  PtV X w g (Pv.splice vals off us) (Pv.splice vs off xs):=by
 have ho':off + us.length≤vals.length:=by rw [h.1,k.1];exact ho
 refine ⟨by rw [splice_length ho,splice_length ho',h.1],fun j v x h1 h2=>?_⟩
 rw [splice_get ho'] at h1
 rw [splice_get ho] at h2
 rw [k.1] at h1
 split at h1
 ·rename_i hlt;rw [if_pos hlt] at h2;exact h.2 j v x h1 h2
 ·rename_i hge
  rw [if_neg hge] at h2
  split at h1
  ·rename_i hlt;rw [if_pos hlt] at h2;exact k.2 _ v x h1 h2
  ·rename_i hge2;rw [if_neg hge2] at h2;exact h.2 j v x h1 h2
theorem fill_rep {X:Ctx} {w:World} {g:Gh} (place:Nat→Option (Nat × Nat)):∀ (parts:List (Nat × V)) (ps:List (Nat × Value)) (vs vs':List V) (vals:List Value),
  ps.length = parts.length→(∀ (j:Nat) (p:Nat × Value) (q:Nat × V),ps[j]? = some p→parts[j]? = some q→p.1 = q.1∧∃ o,RepV X w g o p.2 q.2) →
  fillV place vs parts = some vs' → PtV X w g vals vs→∃ vals',Instr.fill place ⟨vals⟩ ps = some ⟨vals'⟩ ∧ PtV X w g vals' vs'
 | [],[],vs,vs',vals,_,_,h,hp=>by simp [fillV] at h;subst h;exact ⟨vals,rfl,hp⟩
 | [],p :: ps,_,_,_,hl,_,_,_=>by simp at hl
 | q :: parts,[],_,_,_,hl,_,_,_=>by simp at hl
 | (i,x) :: parts,(i',v) :: ps,vs,vs',vals,hl,hr,h,hp=>by
  obtain ⟨h0,o,hv⟩:=hr 0 (i',v) (i,x) rfl rfl
  simp only at h0 hv
  subst h0
  simp only [fillV] at h
  cases hpl:place i' with
  | none=>simp [hpl] at h
  | some on =>
   obtain ⟨off,n⟩:=on
   simp only [hpl] at h
   split at h
   ·rename_i hc
    obtain ⟨hsure,hn,hle⟩:=hc
    have hcells:=cells_rep hv hsure
    have hlen:v.cells.size = n:=by rw [← Array.length_toList,hcells.1,hn]
    have hvl:off + v.cells.size≤(⟨vals⟩:Array Value).size:=by
     show off + v.cells.size≤vals.length
     rw [hlen,hp.1];exact hle
    have hsp:=hp.splice (off:=off) hcells (by rw [hn];exact hle)
    have hf:v.cells.zipIdx.foldl (fun (cs:Array Value) (x:Value × Nat)=>cs.setIfInBounds (off + x.2) x.1) ⟨vals⟩ = ⟨splice vals off v.cells.toList⟩ :=
     fold_splice (xs:=v.cells.toList) (l:=vals) (off:=off) (by rw [Array.length_toList];exact hvl)
    obtain ⟨vals',h1,h2⟩:=fill_rep place parts ps _ vs' _ (by simpa using hl) (fun j p q hp' hq' => hr (j + 1) p q (by simpa using hp') (by simpa using hq')) h hsp
    refine ⟨vals',?_,h2⟩
    simp only [Instr.fill,hpl]
    rw [if_neg (by simp only [hlen,ne_eq,not_true_eq_false,decide_false,Bool.false_or,decide_eq_true_eq];rw [← hlen];omega)]
    rw [← h1]
    congr 1
   ·cases h
theorem parts_rep {X:Ctx} {w:World} {g:Gh} {a:Act} {ρ:Operand→V} {parts:Array (Nat × Operand)} (hr:∀ p ∈ parts.toList,∃ q,RepV X w g q (a.eval p.2) (ρ p.2)) :
  ((parts.map fun (i,x)=>(i,a.eval x)).toList).length = (partsV ρ parts).length ∧
  ∀ (j:Nat) (p:Nat × Value) (q:Nat × V),((parts.map fun (i,x)=>(i,a.eval x)).toList)[j]? = some p→(partsV ρ parts)[j]? = some q→p.1 = q.1∧∃ o,RepV X w g o p.2 q.2:=by
 simp only [partsV,Array.toList_map]
 refine ⟨by simp,fun j p q hp hq=>?_⟩
 rw [List.getElem?_map] at hp hq
 cases hx:parts.toList[j]? with
 | none=>simp [hx] at hp
 | some y =>
  simp [hx] at hp hq
  subst hp
  subst hq
  exact ⟨rfl,hr y (List.mem_of_getElem? hx)⟩
theorem places_eq {P:Program}:∀ (fs:List Field),(∀ f ∈ fs,(sizeT P f.type).isSome = true) →
  fs.mapM (fun f=>(P.info? f.type).map fun i=>(f.offset,i.size)) = some (fs.map fun f=>(f.offset,(sizeT P f.type).getD 0))
 | [],_=>by simp
 | f :: fs,h=>by
  have hf:=h f (by simp)
  have ih:=places_eq fs fun x hx=>h x (by simp [hx])
  unfold sizeT at hf
  cases hi:P.info? f.type with
  | none=>simp [hi] at hf
  | some i=>simp [List.mapM_cons,hi,ih,sizeT]
theorem ofVal_nil:∀ (n:Nat) (v:Value),(D.ofVal n v).nilB = true→v = .slice none 0 0
 | 0,_,h=>by simp [D.ofVal,D.nilB] at h
 | n + 1,v,h=>by
  cases v with
  | slice a l c =>
   cases a with
   | none =>
    by_cases hh:l = 0∧c = 0
    ·obtain ⟨rfl,rfl⟩:=hh;rfl
    ·have e:D.ofVal (n + 1) (.slice none l c) = .und:=by simp only [D.ofVal];rw [if_neg hh]
     rw [e] at h;cases h
   | some a=>cases h
  | pointer a=>cases a <;> cases h
  | map a=>cases a <;> cases h
  | func fn a b =>
   cases fn with
   | func f =>
    by_cases hh:a.size = 0∧b.size = 0
    ·have e:D.ofVal (n + 1) (.func (.func f) a b) = .fn f:=by simp only [D.ofVal];rw [if_pos hh]
     rw [e] at h;cases h
    ·have e:D.ofVal (n + 1) (.func (.func f) a b) = .und:=by simp only [D.ofVal];rw [if_neg hh]
     rw [e] at h;cases h
   | _=>cases h
  | _=>cases h
theorem cells_nil (n:Nat) (zv:Value) (j:Nat) (v:Value) (d:D) (h1:zv.cells.toList[j]? = some v) (h2:(D.ofVal (n + 2) zv).cells[j]? = some d) (hd:d.nilB = true):v = .slice none 0 0:=by
 have single:zv.cells = #[zv] → (D.ofVal (n + 2) zv).cells = [D.ofVal (n + 2) zv] → v = .slice none 0 0:=by
  intro e1 e2
  rw [e1] at h1
  rw [e2] at h2
  cases j with
  | zero =>
   simp at h1 h2
   subst h1
   subst h2
   exact ofVal_nil _ _ hd
  | succ j=>simp at h1
 cases zv with
 | agg cs =>
  have h2':(cs.toList.map (D.ofVal (n + 1)))[j]? = some d:=h2
  have h1':cs.toList[j]? = some v:=h1
  rw [List.getElem?_map,h1',Option.map_some,Option.some.injEq] at h2'
  rw [← h2'] at hd
  exact ofVal_nil _ _ hd
 | pointer a=>cases a <;> exact single rfl rfl
 | slice a l c =>
  refine single rfl ?_
  cases a with
  | none=>simp only [D.ofVal];split <;> rfl
  | some a=>rfl
 | map a=>cases a <;> exact single rfl rfl
 | func fn a b=>cases fn <;> first | (refine single rfl ?_;simp only [D.ofVal];split <;> rfl) | exact single rfl rfl
 | _=>exact single rfl rfl
theorem openZero_rep {X:Ctx} {w:World} {g:Gh} {zv:Value} (n:Nat) (t:TypeId):PtV X w g zv.cells.toList (openZero X.P t (D.ofVal (n + 2) zv).cells):=by
 have hp:PtD w g.e zv.cells.toList (D.ofVal (n + 2) zv).cells:=cells_ofVal n zv
 have old:PtV X w g zv.cells.toList ((D.ofVal (n + 2) zv).cells.map .d):=PtD.toV hp
 unfold openZero
 split
 ·split
  ·rename_i ts _
   split
   ·rename_i hl
    refine ⟨by rw [List.length_zipWith,hl,Nat.min_self];exact hp.1,fun j v y h1 h2=>?_⟩
    rw [List.getElem?_zipWith] at h2
    cases h3:ts[j]? with
    | none=>simp [h3] at h2
    | some ty =>
     cases h4:(D.ofVal (n + 2) zv).cells[j]? with
     | none=>simp [h3,h4] at h2
     | some d =>
      simp [h3,h4] at h2
      subst h2
      unfold openD
      split
      ·rename_i hd
       have:=cells_nil n zv j v d h1 h4 hd
       subst this
       split
       ·exact .tail0 _ _ _
       ·exact .d _ _ _ (hp.2 j _ d h1 h4)
      ·exact .d _ _ _ (hp.2 j v d h1 h4)
   ·exact old
  ·exact old
 ·exact old
theorem aggB_rep {X:Ctx} {w:World} {g:Gh} {p:Own} {vals:List Value} {vs:List V} (hl:vals.length = vs.length)
  (hr:∀ (j:Nat) (v:Value) (x:V),vals[j]? = some v→vs[j]? = some x→RepV X w g .free v x):RepV X w g p (.agg ⟨vals⟩) (aggB vs):=by
 unfold aggB
 split
 ·exact .agg _ _ _ hl hr
 ·exact aggV_rep hl hr
theorem build_sound {X:Ctx} {ρ:Operand→V} {t:TypeId} {parts:Array (Nat × Operand)} {y:V} (hy:buildOp X ρ t parts = some y) {w:World} {g:Gh} {a:Act}
  (hr:∀ p ∈ parts.toList,∃ q,RepV X w g q (a.eval p.2) (ρ p.2)) (p:Own) :
  ∃ u,(Instr.build t (parts.map fun (i,x)=>(i,a.eval x))).run X.P w = .ok u w∧RepV X w g p u y:=by
 obtain ⟨hp1,hp2⟩:=parts_rep hr
 unfold buildOp at hy
 cases hz:zeroT X.P t with
 | none=>simp [hz] at hy
 | some z =>
  simp only [hz] at hy
  unfold zeroT at hz
  cases hi:X.P.info? t with
  | none=>simp [hi] at hz
  | some i =>
   simp only [hi] at hz
   cases hzz:i.zero with
   | none=>simp [hzz] at hz
   | some zv =>
    simp [hzz] at hz
    subst hz
    have hcz:PtV X w g zv.cells.toList ((D.ofVal 6 zv).cells.map .d):=PtD.toV (cells_ofVal 4 zv)
    cases hu:X.P.underlying t with
    | none=>simp [hu] at hy
    | some d =>
     cases d <;> try (simp [hu] at hy;done)
     case array n e =>
      simp only [hu] at hy
      cases hse:sizeT X.P e with
      | none=>simp [hse] at hy
      | some n' =>
       simp only [hse] at hy
       cases hf:fillV (fun i=>some (i * n',n')) ((D.ofVal 6 zv).cells.map .d) (partsV ρ parts) with
       | none=>simp [hf] at hy
       | some vs' =>
        simp [hf] at hy
        subst hy
        obtain ⟨vals',h1,h2⟩:=fill_rep _ _ _ _ _ _ hp1 hp2 hf hcz
        refine ⟨.agg ⟨vals'⟩,run_build w t _ _ ?_,aggV_rep h2.1 h2.2⟩
        unfold sizeT at hse
        cases hie:X.P.info? e with
        | none=>simp [hie] at hse
        | some ie =>
         simp [hie] at hse
         subst hse
         unfold Program.built
         simp only [hi,hu,hzz,hie]
         exact h1
     case struct fs =>
      simp only [hu] at hy
      split at hy
      ·rename_i hall
       cases hf:fillV (fun i=>(fs[i]?).map fun f=>(f.offset,(sizeT X.P f.type).getD 0)) (openZero X.P t (D.ofVal 6 zv).cells) (partsV ρ parts) with
       | none=>simp [hf] at hy
       | some vs' =>
        simp [hf] at hy
        subst hy
        obtain ⟨vals',h1,h2⟩:=fill_rep _ _ _ _ _ _ hp1 hp2 hf (openZero_rep 4 t)
        refine ⟨.agg ⟨vals'⟩,run_build w t _ _ ?_,aggB_rep h2.1 h2.2⟩
        have hpl:=places_eq (P:=X.P) fs.toList (fun f hf=>by
         simp only [Array.all_eq_true'] at hall
         exact hall f (by simpa using hf))
        unfold Program.built
        simp only [hi,hu,hzz,hpl]
        rw [← h1]
        congr 1
        funext k
        simp
      ·cases hy
def GlobOk (X:Ctx) (w:World) (g:Gh):Prop :=
 ∃ ms:Nat→Int,∀ (k:Nat) (cs:List D),(X.glob k = some cs∨(k ∈ X.ints∧cs = [.int .i64 (ms k)]))→g.own k = .fgn∧∃ (vals:List Value) (T:TypeId) (fz:Nat × Nat),w.heap[k]? = some (.cells ⟨vals⟩ T fz)∧PtD w g.e vals cs∧cs.length≤g.e k
theorem GlobOk.get {X:Ctx} {w:World} {g:Gh} (h:GlobOk X w g) :
  ∃ ms:Nat→Int,∀ (k:Nat) (cs:List D),(X.glob k = some cs∨(k ∈ X.ints∧cs = [.int .i64 (ms k)]))→∃ vals,PtD w g.e vals cs∧cs.length≤g.e k∧∀ j v,vals[j]? = some v→w.cell? ⟨k,j,none⟩ = some v:=by
 obtain ⟨ms,h⟩:=h
 refine ⟨ms,fun k cs hk=>?_⟩
 obtain ⟨_,vals,T,fz,h1,h2,h3⟩:=h k cs hk
 exact ⟨vals,h2,h3,fun j v hj=>by rw [cell_of_heap h1];simpa using hj⟩
theorem GlobOk.later {X:Ctx} {w w':World} {g g':Gh} (h:GlobOk X w g) (k:Later g w g' w'):GlobOk X w' g':=by
 obtain ⟨ms,h⟩:=h
 refine ⟨ms,fun i cs hi=>?_⟩
 obtain ⟨h0,vals,T,fz,h1,h2,h3⟩:=h i cs hi
 obtain ⟨k1,k2,k3⟩:=k.fgn i h0
 exact ⟨k2,vals,T,fz,k1.trans h1,⟨h2.1,fun j v d hv hd=>(h2.2 j v d hv hd).mono k.cells k.e⟩,Nat.le_trans h3 (k.e i)⟩
theorem GlobOk.keep {X:Ctx} {w w':World} {g g':Gh} (h:GlobOk X w g) (k:Keep g w g' w') (hf:Fresh g w):GlobOk X w' g':=h.later (k.later hf)
structure Sit (X:Ctx) (w:World) (g:Gh) (h:List Ob):Prop where
 fresh:Fresh g w
 heap:RepH X w g h
 glob:GlobOk X w g
theorem Sit.keep {X:Ctx} {w w':World} {g g':Gh} {h:List Ob} (s:Sit X w g h) (k:Keep g w g' w'):Sit X w' g' h :=
 ⟨k.fresh,k.repH s.fresh s.heap,s.glob.keep k s.fresh⟩
def Gh.still (g:Gh) (b n:Nat):Gh:={ g with e:=fun x=>if x = b then n else g.e x }
theorem keep_still {g:Gh} {w:World} (hf:Fresh g w) (o:Obj) (n:Nat):Keep g w (g.still w.heap.size n) (w.alloc o) where
 os:=rfl
 tape:=rfl
 output:=rfl
 size:=by simp
 block:=fun b hb=>heap_alloc_old w o hb
 own:=fun _ _=>rfl
 e:=fun b hb=>by simp only [Gh.still];rw [if_neg (by omega)]
 μ:=fun _ _ h=>h
 pin:=rfl
 μeq:=rfl
 fresh:=fun b hb=>by
  simp at hb
  simp only [Gh.still]
  rw [if_neg (by omega)]
  exact hf b (by omega)
theorem flat_replicate {α:Type} (z:List α):∀ (len j:Nat),j < len * z.length→((List.replicate len z).flatten)[j]? = z[j % z.length]?
 | 0,j,h=>by simp at h
 | len + 1,j,h=>by
  rw [List.replicate_succ,List.flatten_cons,List.getElem?_append]
  split
  ·rename_i hlt;rw [Nat.mod_eq_of_lt hlt]
  ·rename_i hge
   have h1:j - z.length < len * z.length:=by rw [Nat.add_mul,Nat.one_mul] at h;omega
   rw [flat_replicate z len (j - z.length) h1,Nat.mod_eq_sub_mod (a:=j) (b:=z.length) (by omega)]
theorem flat_length {α:Type} (z:List α) (len:Nat):((List.replicate len z).flatten).length = len * z.length:=by
 simp [List.length_flatten]
theorem zero_rows {w:World} {e:Nat→Nat} {zv:Value} {len n:Nat} (hn:(D.ofVal 6 zv).cells.length = n) :
  PtD w e ((Array.range (len * n)).map (fun i=>zv.cells[i % zv.cells.size]!)).toList ((List.replicate len (D.ofVal 6 zv).cells).flatten):=by
 have hp:=cells_ofVal (w:=w) (e:=e) 4 zv
 have hsz:zv.cells.size = n:=by rw [← Array.length_toList,hp.1];exact hn
 refine ⟨by simp [flat_length,hn],fun j v d h1 h2=>?_⟩
 have hlt:j < len * n:=by
  have:=(List.getElem?_eq_some_iff.1 h2).1
  rw [flat_length,hn] at this
  exact this
 rw [flat_replicate _ _ _ (by rw [hn];exact hlt),hn] at h2
 simp only [Array.toList_map,List.getElem?_map,Array.toList_range,List.getElem?_range hlt,Option.map_some,Option.some.injEq,hsz] at h1
 subst h1
 have hn0:0 < n:=by apply Nat.pos_of_ne_zero;intro h0;subst h0;simp at hlt
 have hm:j % n < zv.cells.size:=by rw [hsz];exact Nat.mod_lt _ hn0
 refine hp.2 (j % n) _ d ?_ h2
 rw [getElem!_pos zv.cells (j % n) hm]
 simp [hm]
theorem buildSlice_run {X:Ctx} {ρ:Operand→V} {t len:Nat} {parts:Array (Nat × Operand)} {vs:List V} (hy:buildSliceV X ρ t len parts = some vs) {w:World} {g:Gh} {a:Act}
  (hr:∀ p ∈ parts.toList,∃ q,RepV X w g q (a.eval p.2) (ρ p.2)) :
  ∃ e vals,elemT X.P t = some e∧PtV X w g vals vs∧(Instr.buildSlice t len (parts.map fun (i,x)=>(i,a.eval x))).run X.P w = .ok (.slice (some ⟨w.heap.size,0,none⟩) len len) (w.alloc (.cells ⟨vals⟩ e)):=by
 obtain ⟨hp1,hp2⟩:=parts_rep hr
 unfold buildSliceV at hy
 cases he:elemT X.P t with
 | none=>simp [he] at hy
 | some e =>
  simp only [he] at hy
  have hu:X.P.underlying t = some (.slice e):=by
   unfold elemT at he
   split at he
   ·rename_i e' hu;simp at he;subst he;exact hu
   ·cases he
  cases hz:sizeT X.P e with
  | none=>simp [hz] at hy
  | some n =>
   cases hzz:zeroT X.P e with
   | none=>simp [hz,hzz] at hy
   | some z =>
    simp only [hz,hzz] at hy
    split at hy
    ·cases hy
    ·rename_i hcond
     have hn0:n ≠ 0:=fun h=>hcond (.inl h)
     have hle:¬ len * n > 100000:=fun h=>hcond (.inr (.inl h))
     have hzl:z.cells.length = n:=by apply Classical.byContradiction;intro h;exact hcond (.inr (.inr h))
     unfold zeroT at hzz
     cases hi:X.P.info? e with
     | none=>simp [hi] at hzz
     | some i =>
      simp only [hi] at hzz
      cases hzv:i.zero with
      | none=>simp [hzv] at hzz
      | some zv =>
       simp [hzv] at hzz
       subst hzz
       have hsz:i.size = n:=by simpa [sizeT,hi] using hz
       have hrows:=zero_rows (w:=w) (e:=g.e) (zv:=zv) (len:=len) hzl
       obtain ⟨vals',h1,h2⟩:=fill_rep _ _ _ _ _ _ hp1 hp2 hy (PtD.toV (X:=X) (g:=g) hrows)
       refine ⟨e,vals',rfl,h2,?_⟩
       have hbig:¬ len * n > 2 ^ 24:=by simp at hle ⊢;omega
       by_cases hl0:len = 0
       ·subst hl0
        have h1':Instr.fill (fun i=>some (i * n,n)) #[] (parts.map fun (i,x)=>(i,a.eval x)).toList = some ⟨vals'⟩:=by
         rw [← h1];congr 1;simp
        have hr0:(Array.range (0 * n)).map (fun i=>(#[]:Array Value)[i % (#[]:Array Value).size]!) = #[]:=by simp
        have hmul:0 * n = 0:=Nat.zero_mul n
        simp only [Instr.buildSlice,Sem.run_bind,run_underlying hu,run_sizeT hz,Result.andThen_ok]
        rw [if_neg hbig,if_pos hmul]
        simp only [Sem.run_bind,Sem.run_pure,Result.andThen_ok,hr0,h1']
        simp [newRow]
       ·have hl00:¬ (len = 0∨n = 0):=by omega
        have hz0:(zeroValue e).run X.P w = .ok zv w:=by simp [zeroValue,typeInfo,hi,hzv]
        have hmul:¬ len * n = 0:=Nat.mul_ne_zero hl0 hn0
        have h1':Instr.fill (fun i=>some (i * n,n)) ((Array.range (len * n)).map (fun i=>zv.cells[i % zv.cells.size]!)) (parts.map fun (i,x)=>(i,a.eval x)).toList = some ⟨vals'⟩:=h1
        simp only [Instr.buildSlice,Sem.run_bind,run_underlying hu,run_sizeT hz,Result.andThen_ok]
        rw [if_neg hbig,if_neg hmul]
        simp only [Sem.run_bind,Sem.run_pure,hz0,Result.andThen_ok,h1']
        simp [newRow]
theorem buildSlice_sound {X:Ctx} {ρ:Operand→V} {t len:Nat} {parts:Array (Nat × Operand)} {y:V} (hy:buildSliceOp X ρ t len parts = some y) {w:World} {g:Gh} {a:Act}
  (hr:∀ p ∈ parts.toList,∃ q,RepV X w g q (a.eval p.2) (ρ p.2)) (hf:Fresh g w) (p:Own) :
  ∃ u w' g',(Instr.buildSlice t len (parts.map fun (i,x)=>(i,a.eval x))).run X.P w = .ok u w' ∧ Keep g w g' w' ∧ RepV X w' g' p u y:=by
 unfold buildSliceOp at hy
 cases hb:buildSliceV X ρ t len parts with
 | none=>simp [hb] at hy
 | some vs =>
  simp only [hb] at hy
  cases hd:toDs vs with
  | none=>simp [hd] at hy
  | some ds =>
   simp only [hd] at hy
   split at hy
   ·simp at hy
    subst hy
    obtain ⟨e,vals,_,h1,h2⟩:=buildSlice_run hb hr
    have hk:=keep_still hf (.cells ⟨vals⟩ e) ds.length
    refine ⟨_,_,_,h2,hk,.full _ _ _ _ _ (.sl _ 0 _ _ _ vals (Nat.le_refl _) ((h1.toDs hd).1) ?_ (fun j v hj=>?_) fun j v d hv hdj=>hk.repD hf ((h1.toDs hd).2 j v d hv hdj))⟩
    ·simp [Gh.still]
    ·rw [Nat.zero_add]
     rw [cell_of_heap (heap_alloc_new w _)]
     simpa using hj
   ·cases hy
theorem copies_rep {X:Ctx} {w:World} {g:Gh} {a:Act} {ρ:Operand→V} {xs:Array Operand} (hr:∀ x ∈ xs.toList,∃ q,RepV X w g q (a.eval x) (ρ x)):PtV X w g (xs.map a.eval).toList (copies ρ xs):=by
 refine ⟨by simp [copies],fun j v x h1 h2=>?_⟩
 simp only [Array.toList_map,List.getElem?_map,copies] at h1 h2
 cases hx:xs.toList[j]? with
 | none=>simp [hx] at h1
 | some y =>
  simp [hx] at h1 h2
  subst h1
  subst h2
  obtain ⟨q,hq⟩:=hr y (List.mem_of_getElem? hx)
  exact hq.copy.flat
theorem elemT_under {P:Program} {t e:TypeId} (h:elemT P t = some e):P.underlying t = some (.slice e):=by
 unfold elemT at h
 split at h
 ·rename_i e' hu;simp at h;subst h;exact hu
 ·cases h
theorem sl_val {X:Ctx} {w:World} {g:Gh} {p:Own} {v:Value} {x:V} (h:RepV X w g p v x) (hx:x.isSl = true):∃ a n c,v = .slice (some a) n c:=by
 cases h with
 | d _ _ y hy=>cases hy <;> simp [V.isSl] at hx <;> exact ⟨_,_,_,rfl⟩
 | tail0=>simp [V.isSl] at hx
 | tail=>exact ⟨_,_,_,rfl⟩
 | full=>exact ⟨_,_,_,rfl⟩
 | osl=>exact ⟨_,_,_,rfl⟩
 | _=>simp [V.isSl] at hx
theorem pt_val {X:Ctx} {w:World} {g:Gh} {p:Own} {v:Value} {x:V} (h:RepV X w g p v x) (hx:x.isPt = true):∃ a,v = .pointer (some a):=by
 cases h with
 | d _ _ y hy=>cases hy <;> simp [V.isPt] at hx <;> exact ⟨_,rfl⟩
 | obj=>exact ⟨_,rfl⟩
 | _=>simp [V.isPt] at hx
theorem fn_val {X:Ctx} {w:World} {g:Gh} {p:Own} {v:Value} {x:V} (h:RepV X w g p v x) (hx:x.isFn = true):∃ f a b,v = .func f a b:=by
 cases h with
 | d _ _ y hy=>cases hy <;> simp [V.isFn] at hx <;> exact ⟨_,_,_,rfl⟩
 | clo=>exact ⟨_,_,_,rfl⟩
 | _=>simp [V.isFn] at hx
theorem if_val {X:Ctx} {w:World} {g:Gh} {p:Own} {v:Value} {x:V} (h:RepV X w g p v x) (hx:x.isIf = true):∃ t u,v = .iface t u:=by
 cases h with
 | d _ _ y hy=>cases hy <;> simp [V.isIf] at hx <;> exact ⟨_,_,rfl⟩
 | _=>simp [V.isIf] at hx
theorem mp_val {X:Ctx} {w:World} {g:Gh} {p:Own} {v:Value} {x:V} (h:RepV X w g p v x) (hx:x.isMp = true):∃ r,v = .map (some r):=by
 cases h with
 | mp=>exact ⟨_,rfl⟩
 | _=>simp [V.isMp] at hx
theorem nil_val {X:Ctx} {w:World} {g:Gh} {p:Own} {v:Value} {x:V} (h:RepV X w g p v x) :
  (x.nilSl = true→v = .slice none 0 0)∧(x.nilPt = true→v = .pointer none)∧(x.nilFn = true→v = .nilFunc)∧(x.nilIf = true→v = .nilIface)∧(x.nilMp = true→v = .map none):=by
 cases h with
 | d _ _ y hy=>cases hy <;> simp [V.nilSl,V.nilPt,V.nilFn,V.nilIf,V.nilMp]
 | _=>simp [V.nilSl,V.nilPt,V.nilFn,V.nilIf,V.nilMp]
theorem unlike_run {X:Ctx} {w:World} {g:Gh} {p q:Own} {t:TypeId} {x y:V} {vx vy:Value} (h:unlike X.P t x y = true) (hx:RepV X w g p vx x) (hy:RepV X w g q vy y) (ox oy:Operand) :
  (eqGuard .eql t ox oy vx vy).run X.P w = .ok () w∧(eqGuard .neq t ox oy vx vy).run X.P w = .ok () w∧(binOp .eql t vx vy).run X.P w = .ok (.bool false) w∧(binOp .neq t vx vy).run X.P w = .ok (.bool true) w:=by
 have fin:(Op.equal t vx vy).run X.P w = .ok false w→(eqGuard .eql t ox oy vx vy).run X.P w = .ok () w→(eqGuard .neq t ox oy vx vy).run X.P w = .ok () w →
   (binOp .eql t vx vy = (do pure (.bool (← Op.equal t vx vy))))→(binOp .neq t vx vy = (do pure (.bool (!(← Op.equal t vx vy))))) →
   (eqGuard .eql t ox oy vx vy).run X.P w = .ok () w∧(eqGuard .neq t ox oy vx vy).run X.P w = .ok () w∧(binOp .eql t vx vy).run X.P w = .ok (.bool false) w∧(binOp .neq t vx vy).run X.P w = .ok (.bool true) w:=by
  intro h1 h2 h3 h4 h5
  refine ⟨h2,h3,?_,?_⟩
  ·rw [h4];simp [h1]
  ·rw [h5];simp [h1]
 have eqd:(∀ d,(Op.equalIn (d + 1) t vx vy).run X.P w = .ok false w)→(Op.equal t vx vy).run X.P w = .ok false w:=fun h=>h 9999
 unfold unlike at h
 cases hu:X.P.underlying t with
 | none=>simp [hu] at h
 | some d =>
  cases d <;> simp only [hu,Bool.false_eq_true,Bool.or_eq_true,Bool.and_eq_true] at h
  case slice e =>
   rcases h with ⟨h1,h2⟩ | ⟨h1,h2⟩
   ·obtain ⟨a,n,c,rfl⟩:=sl_val hx h1
    obtain rfl:=(nil_val hy).1 h2
    exact fin (eqd fun d=>by simp [Op.equalIn,run_underlying hu]) (by simp [eqGuard]) (by simp [eqGuard]) rfl rfl
   ·obtain ⟨a,n,c,rfl⟩:=sl_val hy h2
    obtain rfl:=(nil_val hx).1 h1
    exact fin (eqd fun d=>by simp [Op.equalIn,run_underlying hu]) (by simp [eqGuard]) (by simp [eqGuard]) rfl rfl
  case pointer e =>
   rcases h with ⟨h1,h2⟩ | ⟨h1,h2⟩
   ·obtain ⟨a,rfl⟩:=pt_val hx h1
    obtain rfl:=(nil_val hy).2.1 h2
    exact fin (eqd fun d=>by simp [Op.equalIn,run_underlying hu]) (by simp [eqGuard]) (by simp [eqGuard]) rfl rfl
   ·obtain ⟨a,rfl⟩:=pt_val hy h2
    obtain rfl:=(nil_val hx).2.1 h1
    exact fin (eqd fun d=>by simp [Op.equalIn,run_underlying hu]) (by simp [eqGuard]) (by simp [eqGuard]) rfl rfl
  case func ps rs vr =>
   rcases h with ⟨h1,h2⟩ | ⟨h1,h2⟩
   ·obtain ⟨f,a,b,rfl⟩:=fn_val hx h1
    obtain rfl:=(nil_val hy).2.2.1 h2
    exact fin (eqd fun d=>by simp [Op.equalIn,run_underlying hu]) (by simp [eqGuard]) (by simp [eqGuard]) rfl rfl
   ·obtain ⟨f,a,b,rfl⟩:=fn_val hy h2
    obtain rfl:=(nil_val hx).2.2.1 h1
    exact fin (eqd fun d=>by simp [Op.equalIn,run_underlying hu]) (by simp [eqGuard]) (by simp [eqGuard]) rfl rfl
  case interface ms =>
   rcases h with ⟨h1,h2⟩ | ⟨h1,h2⟩
   ·obtain ⟨f,a,rfl⟩:=if_val hx h1
    obtain rfl:=(nil_val hy).2.2.2.1 h2
    exact fin (eqd fun d=>by simp [Op.equalIn,run_underlying hu]) (by simp [eqGuard]) (by simp [eqGuard]) rfl rfl
   ·obtain ⟨f,a,rfl⟩:=if_val hy h2
    obtain rfl:=(nil_val hx).2.2.2.1 h1
    exact fin (eqd fun d=>by simp [Op.equalIn,run_underlying hu]) (by simp [eqGuard]) (by simp [eqGuard]) rfl rfl
  case map k e =>
   rcases h with ⟨h1,h2⟩ | ⟨h1,h2⟩
   ·obtain ⟨r,rfl⟩:=mp_val hx h1
    obtain rfl:=(nil_val hy).2.2.2.2 h2
    exact fin (eqd fun d=>by simp [Op.equalIn,run_underlying hu]) (by simp [eqGuard]) (by simp [eqGuard]) rfl rfl
   ·obtain ⟨r,rfl⟩:=mp_val hy h2
    obtain rfl:=(nil_val hx).2.2.2.2 h1
    exact fin (eqd fun d=>by simp [Op.equalIn,run_underlying hu]) (by simp [eqGuard]) (by simp [eqGuard]) rfl rfl
section
variable {P:Program} {w:World} {e:Nat→Nat}
theorem part_leaf {t:TypeId} {vals:List Value} {off:Nat} {v:Value} (hu:(∃ k,P.underlying t = some (.int k))∨P.underlying t = some .bool∨P.underlying t = some .string) (hv:vals[off]? = some v):(part t ⟨vals⟩ off).run P w = .ok v w:=by
 have h:(⟨vals⟩:Array Value)[off]? = some v:=by simpa using hv
 rcases hu with ⟨k,hu⟩ | hu | hu <;> simp [part,isAgg,run_underlying hu,h]
theorem eqLeaf_run {t:TypeId} {xs ys:List D} {vs us:List Value} {off d:Nat} {b:Bool} (h:eqLeaf P t xs[off]? ys[off]? = some b) (hx:PtD w e vs xs) (hy:PtD w e us ys) :
  ∃ v u,(part t ⟨vs⟩ off).run P w = .ok v w∧(part t ⟨us⟩ off).run P w = .ok u w∧(Op.equalIn (d + 1) t v u).run P w = .ok b w:=by
 have get:∀ {vals:List Value} {ds:List D} {x:D},PtD w e vals ds→ds[off]? = some x→∃ v,vals[off]? = some v∧RepD w e v x:=by
  intro vals ds x hp hd
  have hlt:off < vals.length:=by rw [hp.1];exact (List.getElem?_eq_some_iff.1 hd).1
  exact ⟨vals[off],List.getElem?_eq_getElem hlt,hp.2 off _ x (List.getElem?_eq_getElem hlt) hd⟩
 unfold eqLeaf at h
 split at h
 ·rename_i k a k' c h1 h2
  obtain ⟨v,hv,rv⟩:=get hx h1
  obtain ⟨u,hu,ru⟩:=get hy h2
  split at h
  ·rename_i kk hk
   split at h
   ·rename_i hkk
    simp at h
    subst h;subst hkk
    cases rv;cases ru
    exact ⟨_,_,part_leaf (.inl ⟨_,hk⟩) hv,part_leaf (.inl ⟨_,hk⟩) hu,run_equalIn_int w d t _ _ _ _ hk⟩
   ·cases h
  ·cases h
 ·rename_i a c h1 h2
  obtain ⟨v,hv,rv⟩:=get hx h1
  obtain ⟨u,hu,ru⟩:=get hy h2
  split at h
  ·rename_i hk
   simp at h
   subst h
   cases rv;cases ru
   refine ⟨_,_,part_leaf (.inr (.inl hk)) hv,part_leaf (.inr (.inl hk)) hu,?_⟩
   rw [run_equalIn_bool' w d t _ _ hk]
  ·cases h
 ·rename_i a c h1 h2
  obtain ⟨v,hv,rv⟩:=get hx h1
  obtain ⟨u,hu,ru⟩:=get hy h2
  split at h
  ·rename_i hk
   simp at h
   subst h
   cases rv;cases ru
   refine ⟨_,_,part_leaf (.inr (.inr hk)) hv,part_leaf (.inr (.inr hk)) hu,?_⟩
   rw [run_equalIn_string w d t _ _ hk]
   congr 1
   rw [Bool.eq_iff_iff]
   simp only [beq_iff_eq,ByteArray.toList_eq]
   all_goals simp
  ·cases h
 ·cases h
theorem eqFs_run {xs ys:List D} {vs us:List Value} {d:Nat} (hx:PtD w e vs xs) (hy:PtD w e us ys):∀ (fs:List Field) (b:Bool),eqFs P xs ys fs = some b→(Op.eqFields (d + 1) ⟨vs⟩ ⟨us⟩ fs).run P w = .ok b w:=by
 intro fs
 induction fs with
 | nil=>intro b h;simp [eqFs] at h;subst h;simp [Op.eqFields]
 | cons f fs ih =>
  intro b h
  simp only [eqFs] at h
  split at h
  ·cases h
  ·rename_i hn
   split at h
   ·rename_i a c h1 h2
    simp at h
    subst h
    obtain ⟨v,u,k1,k2,k3⟩:=eqLeaf_run (d:=d) h1 hx hy
    simp only [Op.eqFields,ne_eq,hn,not_false_eq_true,if_true,Sem.run_bind,k1,k2,k3,Result.andThen_ok]
    cases a
    ·simp
    ·simpa using ih c h2
   ·cases h
theorem eqAgg_run {t:TypeId} {xs ys:List D} {vs us:List Value} {b:Bool} (h:eqAgg P t xs ys = some b) (hx:PtD w e vs xs) (hy:PtD w e us ys) :
  (Op.equalIn 10000 t (.agg ⟨vs⟩) (.agg ⟨us⟩)).run P w = .ok b w∧P.eqGuardType P.depth t = false:=by
 unfold eqAgg at h
 split at h
 ·rename_i fs hu
  split at h
  ·cases h
  ·rename_i hs
   simp only [Bool.or_eq_true,not_or,Bool.not_eq_true] at hs
   have hfs:P.fieldsOf t = fs:=by simp [Program.fieldsOf,hu]
   refine ⟨?_,hs.2⟩
   rw [show (10000:Nat) = 9999 + 1 from rfl,run_equalIn_struct w 9999 t _ _ (by rw [hfs];exact hu) hs.1,hfs]
   exact eqFs_run (d:=9998) hx hy _ _ h
 ·cases h
end
theorem eqOp_run {X:Ctx} {w:World} {g:Gh} {q1 q2:Own} {op:BinOp} {t:TypeId} {v1 v2:Value} {x y:V} {b:Bool} (h:eqOp X.P op t x y = some b) (h1:RepV X w g q1 v1 x) (h2:RepV X w g q2 v2 y) (o1 o2:Operand) :
  (do eqGuard op t o1 o2 v1 v2;binOp op t v1 v2:Sem Value).run X.P w = .ok (.bool b) w:=by
 unfold eqOp at h
 split at h
 ·rename_i xs ys
  cases h1 with | d _ _ _ h1=>cases h2 with | d _ _ _ h2 =>
  cases h1 with | agg vs _ l1 r1=>cases h2 with | agg us _ l2 r2 =>
  obtain ⟨k1,k2⟩:=eqAgg_run h ⟨l1,r1⟩ ⟨l2,r2⟩
  rw [Sem.run_bind,run_eqGuard_agg w _ _ _ _ _ _ k2]
  simp only [Result.andThen_ok]
  rw [run_eql_struct,k1]
  rfl
 ·rename_i xs ys
  cases h1 with | d _ _ _ h1=>cases h2 with | d _ _ _ h2 =>
  cases h1 with | agg vs _ l1 r1=>cases h2 with | agg us _ l2 r2 =>
  cases he:eqAgg X.P t xs ys with
  | none=>simp [he] at h
  | some c =>
   simp [he] at h
   subst h
   obtain ⟨k1,k2⟩:=eqAgg_run he ⟨l1,r1⟩ ⟨l2,r2⟩
   rw [Sem.run_bind,run_eqGuard_agg w _ _ _ _ _ _ k2]
   simp only [Result.andThen_ok]
   have:(binOp .neq t (.agg ⟨vs⟩) (.agg ⟨us⟩)).run X.P w = ((Op.equalIn 10000 t (.agg ⟨vs⟩) (.agg ⟨us⟩)).run X.P w).andThen fun b w' => .ok (.bool (!b)) w':=by
    simp [binOp,Op.equal,Op.maxDepth]
   rw [this,k1]
   simp
 ·cases h
def IsPos (p:Own):Prop:=∃ t i j,p = .slot t∨p = .cell i j
def CallPOk (X:Ctx) (call:CallF):Prop :=
 ∀ f args x,call.p f args = some x→args.all V.pure = true→∀ (w:World) (g:Gh) (vargs:List Value),Fresh g w→GlobOk X w g→PtV X w g vargs args→∀ p,IsPos p →
  ∃ fn,X.P.funcs[f]? = some fn∧(fn.name == "runtime.NumGoroutine") = false∧((∃ c,fn.body = some c)∧Calls X.P f ⟨vargs⟩ w fun E w' => ∃ v g',E = .returned v∧Keep g w g' w' ∧ RepV X w' g' p v x)
theorem calleeOf_val {X:Ctx} {w:World} {g:Gh} {q:Own} {v:Value} {x:V} {f:FuncId} {a b:List V} (hx:RepV X w g q v x) (h:calleeOf x = some (f,a,b)) :
  ∃ va vb,v = .func (.func f) ⟨va⟩ ⟨vb⟩ ∧ PtV X w g va a∧PtV X w g vb b:=by
 cases hx with
 | d _ _ y hy =>
  cases hy <;> simp [calleeOf] at h
  obtain ⟨rfl,rfl,rfl⟩:=h
  exact ⟨[],[],rfl,⟨rfl,by simp⟩,⟨rfl,by simp⟩⟩
 | clo _ fn va vb a' b' h1 h2 h3 h4 =>
  cases fn <;> simp [calleeOf] at h
  obtain ⟨rfl,rfl,rfl⟩:=h
  exact ⟨va,vb,rfl,⟨h1,h3⟩,⟨h2,h4⟩⟩
 | _=>simp [calleeOf] at h
theorem PtV.append {X:Ctx} {w:World} {g:Gh} {a b:List Value} {x y:List V} (h:PtV X w g a x) (k:PtV X w g b y):PtV X w g (a ++ b) (x ++ y):=by
 refine ⟨by simp [h.1,k.1],fun j v z h1 h2=>?_⟩
 rw [List.getElem?_append] at h1 h2
 rw [h.1] at h1
 split at h1
 ·rename_i hlt;rw [if_pos hlt] at h2;exact h.2 j v z h1 h2
 ·rename_i hge;rw [if_neg hge] at h2;exact k.2 _ v z h1 h2
theorem run_call_value {P:Program} {o:Oper} {c:Call} (ho:o.op = .call c) {f:Operand} (hc:c.callee = .value f) {a:Act} {g:FuncId} {va vb:List Value} (hf:a.eval f = .func (.func g) ⟨va⟩ ⟨vb⟩)
  {fn:Func} (hfn:P.funcs[g]? = some fn) (hn:(fn.name == "runtime.NumGoroutine") = false) (hb:fn.body.isSome = true) (w:World) :
  (execOp a.eval o).run P w = .ok (.enter g ⟨va ++ (c.args.map a.eval).toList ++ vb⟩) w:=by
 have hbn:fn.body.isNone = false:=by cases h:fn.body <;> simp_all
 unfold execOp
 simp only [ho,resolve,hc,hf,Deferred.ofValue,Sem.run_bind,Sem.run_pure,Result.andThen_ok,invoke,callFunc,run_program,hfn,hn,hbn,Bool.false_eq_true,if_false]
 congr 2
 apply Array.ext'
 simp
theorem val_sound {X:Ctx} {call:CallF} {ρ:Operand→V} {h:List Ob} {o:Oper} {y:V} (hv:valOp X call ρ h o = some y) {a:Act} {w:World} {g:Gh}
  (hr:RepOps X w g a ρ o) (hs:Sit X w g h) (hcall:CallPOk X call) {p:Own} (hp:IsPos p) {K:Act→World→Prop} {Q:Exit→Act→World→Prop}
  (hK:∀ v w' g',Keep g w g' w' → RepV X w' g' p v y→K (a.put o.dst v) w'):o.wp X.P a w K Q:=by
 have same:∀ v,(execOp a.eval o).run X.P w = .ok (.value v) w→RepV X w g p v y→o.wp X.P a w K Q:=fun v h1 h2=>wp_value h1 (hK v w g (Keep.refl hs.fresh) h2)
 have pur:∀ d,pureOp X ρ o = some d→y = .d d→(∀ cs b,o.op ≠ .select cs b)→o.wp X.P a w K Q:=by
  intro d hd hy hns
  obtain ⟨v,h1,h2⟩:=pure_sound hd hns hr
  subst hy
  exact same v h1 (.d _ _ _ h2)
 unfold valOp at hv
 cases hop:o.op with
 | move x =>
  simp [hop] at hv
  subst hv
  obtain ⟨q,hq⟩:=hr x (by simp [hop,Op.operands])
  exact same _ (by unfold execOp;simp [hop]) hq.copy
 | pick c x1 x2 =>
  simp only [hop] at hv
  split at hv
  ·rename_i t hρ
   simp at hv
   subst hv
   obtain ⟨q,hq⟩:=hr c (by simp [hop,Op.operands])
   rw [hρ] at hq
   have hcv:a.eval c = .bool t:=by
    generalize a.eval c = vc at hq
    cases hq with | d _ _ _ hq=>cases hq;rfl
   obtain ⟨q1,hq1⟩:=hr (if t then x1 else x2) (by cases t <;> simp [hop,Op.operands])
   refine same (a.eval (if t then x1 else x2)) ?_ hq1.copy
   unfold execOp
   simp only [hop,hcv,asBool]
   cases t <;> simp
  ·cases hv
 | build t parts =>
  simp only [hop] at hv
  obtain ⟨u,h1,h2⟩:=build_sound hv (w:=w) (g:=g) (a:=a) (fun pr hpr=>hr pr.2 (by simp only [hop,Op.operands];simp only [List.mem_toArray,List.mem_map];exact ⟨pr,hpr,rfl⟩)) p
  exact same u (by unfold execOp;simp only [hop];simp only [Sem.run_bind,h1,Result.andThen_ok,Sem.run_pure]) h2
 | buildSlice t len parts =>
  simp only [hop] at hv
  obtain ⟨u,w',g',h1,h2,h3⟩:=buildSlice_sound hv (w:=w) (g:=g) (a:=a) (fun pr hpr=>hr pr.2 (by simp only [hop,Op.operands];simp only [List.mem_toArray,List.mem_map];exact ⟨pr,hpr,rfl⟩)) hs.fresh p
  exact wp_value (by unfold execOp;simp only [hop];simp only [Sem.run_bind,h1,Result.andThen_ok,Sem.run_pure]) (hK _ _ _ h2 h3)
 | load t x =>
  simp only [hop] at hv
  obtain ⟨q,hq⟩:=hr x (by simp [hop,Op.operands])
  obtain ⟨u,h1,h2⟩:=load_sound hv hq hs.heap p
  exact same u (by unfold execOp;simp [hop,h1]) h2
 | nilCheck x =>
  simp only [hop] at hv
  obtain ⟨q,hq⟩:=hr x (by simp [hop,Op.operands])
  have key:∀ v,a.eval x = v→RepV X w g p v y→(execOp a.eval o).run X.P w = .ok (.value v) w→o.wp X.P a w K Q:=fun v _ h2 h3=>same v h3 h2
  split at hv
  ·rename_i id off hρ
   rw [hρ] at hq
   simp at hv
   subst hv
   generalize hve:a.eval x = v at hq
   have hq':RepV X w g p v (.obj id off):=hq.place (by simp)
   cases hq with
   | obj _ _ _ b hb=>exact key _ hve hq' (by unfold execOp;simp [hop,hve])
  ·rename_i c off hρ
   rw [hρ] at hq
   simp at hv
   subst hv
   generalize hve:a.eval x = v at hq
   have hq':RepV X w g p v (.d (.ref c off)):=hq.place (by simp)
   cases hq with
   | d _ _ _ hq=>cases hq;exact key _ hve hq' (by unfold execOp;simp [hop,hve])
  ·rename_i f hρ
   rw [hρ] at hq
   simp at hv
   subst hv
   generalize hve:a.eval x = v at hq
   have hq':RepV X w g p v (.d (.fn f)):=hq.place (by simp)
   cases hq with
   | d _ _ _ hq=>cases hq;exact key _ hve hq' (by unfold execOp;simp [hop,hve])
  ·rename_i f va vb hρ
   rw [hρ] at hq
   simp at hv
   subst hv
   generalize hve:a.eval x = v at hq
   have hq':RepV X w g p v (.clo (.func f) va vb):=hq.place (by simp)
   cases hq with
   | clo=>exact key _ hve hq' (by unfold execOp;simp [hop,hve])
  ·cases hv
 | binOp op t x1 x2 t2 =>
  simp only [hop] at hv
  split at hv
  ·rename_i hun
   obtain ⟨q1,hq1⟩:=hr x1 (by simp [hop,Op.operands])
   obtain ⟨q2,hq2⟩:=hr x2 (by simp [hop,Op.operands])
   obtain ⟨k1,k2,k3,k4⟩:=unlike_run hun hq1 hq2 x1 x2
   cases op <;> simp at hv
   ·subst hv;exact same (.bool false) (by unfold execOp;simp [hop,k1,k3]) (.d _ _ _ (.bool _))
   ·subst hv;exact same (.bool true) (by unfold execOp;simp [hop,k2,k4]) (.d _ _ _ (.bool _))
  ·split at hv
   ·rename_i b hb
    simp at hv
    subst hv
    obtain ⟨q1,hq1⟩:=hr x1 (by simp [hop,Op.operands])
    obtain ⟨q2,hq2⟩:=hr x2 (by simp [hop,Op.operands])
    have:=eqOp_run hb hq1 hq2 x1 x2
    exact same (.bool b) (by unfold execOp;simp only [hop,Sem.run_bind,this,Result.andThen_ok,Sem.run_pure]) (.d _ _ _ (.bool _))
   ·split at hv
    ·rename_i b hb
     simp at hv
     subst hv
     obtain ⟨q1,hq1⟩:=hr x1 (by simp [hop,Op.operands])
     have key:nilConst x2 = true→unlike X.P t (ρ x1) (.d .nilsl) = true→_:=fun hn hun=>unlike_run (q:=.free) (vy:=a.eval x2) hun hq1 (by
      have:x2 = .const (.slice none 0 0):=by
       unfold nilConst at hn
       split at hn
       ·rfl
       ·cases hn
      subst this
      exact .d _ _ _ .nilsl) x1 x2
     unfold nilCmp at hb
     cases op <;> simp at hb
     ·obtain ⟨⟨c1,c2⟩,rfl⟩:=hb
      obtain ⟨k1,k2,k3,k4⟩:=key c1 c2
      exact same (.bool false) (by unfold execOp;simp [hop,k1,k3]) (.d _ _ _ (.bool _))
     ·obtain ⟨⟨c1,c2⟩,rfl⟩:=hb
      obtain ⟨k1,k2,k3,k4⟩:=key c1 c2
      exact same (.bool true) (by unfold execOp;simp [hop,k2,k4]) (.d _ _ _ (.bool _))
    ·cases hd:pureOp X ρ o with
     | none=>simp [hd] at hv
     | some d=>simp [hd] at hv;exact pur d hd hv.symm (by simp [hop])
 | unOp =>
  simp only [hop] at hv
  cases hd:pureOp X ρ o with
  | none=>simp [hd] at hv
  | some d=>simp [hd] at hv;exact pur d hd hv.symm (by simp [hop])
 | convert =>
  simp only [hop] at hv
  cases hd:pureOp X ρ o with
  | none=>simp [hd] at hv
  | some d=>simp [hd] at hv;exact pur d hd hv.symm (by simp [hop])
 | makeFunc fn first cap =>
  simp [hop] at hv
  subst hv
  have h1:=copies_rep (X:=X) (w:=w) (g:=g) (a:=a) (ρ:=ρ) (xs:=first) (fun x hx=>hr x (by simp only [hop,Op.operands];simp at hx;simp [hx]))
  have h2:=copies_rep (X:=X) (w:=w) (g:=g) (a:=a) (ρ:=ρ) (xs:=cap) (fun x hx=>hr x (by simp only [hop,Op.operands];simp at hx;simp [hx]))
  exact same (.func fn ⟨(first.map a.eval).toList⟩ ⟨(cap.map a.eval).toList⟩) (by unfold execOp;simp only [hop,Instr.makeFunc,Sem.run_bind,Sem.run_pure,Result.andThen_ok]) (.clo _ _ _ _ _ _ h1.1 h2.1 h1.2 h2.2)
 | slice t x lo hi mx =>
  simp only [hop] at hv
  obtain ⟨q,hq⟩:=hr x (by simp [hop,Op.operands])
  obtain ⟨u,h1,h2⟩:=slice_sound hv hq (fun z hz=>hr z (by subst hz;simp [hop,Op.operands])) (fun z hz=>hr z (by subst hz;simp [hop,Op.operands])) (fun z hz=>hr z (by subst hz;simp [hop,Op.operands])) p
  exact same u (by unfold execOp;simp [hop,h1]) h2
 | fieldAddr t x f =>
  simp only [hop] at hv
  obtain ⟨q,hq⟩:=hr x (by simp [hop,Op.operands])
  obtain ⟨u,h1,h2⟩:=fieldAddr_sound hv hq p
  exact same u (by unfold execOp;simp [hop,h1]) h2
 | indexAddr t x i =>
  simp only [hop] at hv
  obtain ⟨q,hq⟩:=hr x (by simp [hop,Op.operands])
  obtain ⟨q2,hq2⟩:=hr i (by simp [hop,Op.operands])
  obtain ⟨u,h1,h2⟩:=index_sound hv hq hq2 p
  exact same u (by unfold execOp;simp [hop,h1]) h2
 | field t x f =>
  simp only [hop] at hv
  obtain ⟨q,hq⟩:=hr x (by simp [hop,Op.operands])
  split at hv
  ·rename_i off ft cs hf hρ
   rw [hρ] at hq
   cases hpd:partD X.P ft cs off with
   | none=>simp [hpd] at hv
   | some d =>
    simp [hpd] at hv
    subst hv
    obtain ⟨n,gg,hn,hg,k1,k2,k3⟩:=partD_spec hpd
    unfold fieldT at hf
    split at hf
    ·rename_i fs hu
     cases hff:fs[f]? with
     | none=>simp [hff] at hf
     | some fl =>
      simp [hff] at hf
      obtain ⟨rfl,rfl⟩:=hf
      generalize hve:a.eval x = v at hq
      cases hq with
      | d _ _ _ hq =>
       cases hq with
       | agg vals _ hl hrr =>
        have hp:=run_part_seg (P:=X.P) (w:=w) (vals:=vals) hn hg (fun hh=>by rw [hl];exact k1 hh) (fun hh=>by rw [hl];exact k2 hh)
        exact same (partVal gg vals fl.offset n) (by unfold execOp;simp [hop,Instr.field,run_underlying hu,hff,hve,asAgg,hp]) (.d _ _ _ (k3 w g.e vals hl hrr))
    ·cases hf
  ·rename_i off ft vs hf hρ
   rw [hρ] at hq
   obtain ⟨n,gg,hn,hg,k1,k2,k3⟩:=partV_spec hv
   unfold fieldT at hf
   split at hf
   ·rename_i fs hu
    cases hff:fs[f]? with
    | none=>simp [hff] at hf
    | some fl =>
     simp [hff] at hf
     obtain ⟨rfl,rfl⟩:=hf
     generalize hve:a.eval x = v at hq
     cases hq with
     | agg _ vals _ hl hrr =>
      have hpp:=run_part_seg (P:=X.P) (w:=w) (vals:=vals) hn hg (fun hh=>by rw [hl];exact k1 hh) (fun hh=>by rw [hl];exact k2 hh)
      exact same (partVal gg vals fl.offset n) (by unfold execOp;simp [hop,Instr.field,run_underlying hu,hff,hve,asAgg,hpp]) (k3 w g p (fun _=>.free) vals (by omega) hrr)
   ·cases hf
  ·cases hv
 | index t x i =>
  simp only [hop] at hv
  obtain ⟨q,hq⟩:=hr x (by simp [hop,Op.operands])
  obtain ⟨q2,hq2⟩:=hr i (by simp [hop,Op.operands])
  split at hv
  ·rename_i n e cs kk k hu hρ hρi
   rw [hρ] at hq
   rw [hρi] at hq2
   split at hv
   ·rename_i z hz
    split at hv
    ·rename_i hk
     cases hpd:partD X.P e cs (k.toNat * z) with
     | none=>simp [hpd] at hv
     | some d =>
      simp [hpd] at hv
      subst hv
      obtain ⟨n',gg,hn,hg,k1,k2,k3⟩:=partD_spec hpd
      generalize hve:a.eval x = v at hq
      generalize hvi:a.eval i = vi at hq2
      cases hq2 with
      | d _ _ _ hq2 =>
       cases hq2
       cases hq with
       | d _ _ _ hq =>
        cases hq with
        | agg vals _ hl hrr =>
         have hpp:=run_part_seg (P:=X.P) (w:=w) (vals:=vals) hn hg (fun hh=>by rw [hl];exact k1 hh) (fun hh=>by rw [hl];exact k2 hh)
         exact same (partVal gg vals (k.toNat * z) n') (by unfold execOp;simp [hop,Instr.index,asIntOf,run_underlying hu,hve,hvi,hk,run_sizeT hz,hpp]) (.d _ _ _ (k3 w g.e vals hl hrr))
    ·cases hv
   ·cases hv
  ·rename_i s kk k hu hρ hρi
   rw [hρ] at hq
   rw [hρi] at hq2
   split at hv
   ·rename_i hk
    cases hb:s[k.toNat]? with
    | none=>simp [hb] at hv
    | some b =>
     simp [hb] at hv
     subst hv
     generalize hve:a.eval x = v at hq
     generalize hvi:a.eval i = vi at hq2
     cases hq2 with
     | d _ _ _ hq2 =>
      cases hq2
      cases hq with
      | d _ _ _ hq =>
       cases hq
       have hlt:k.toNat < s.length:=(List.getElem?_eq_some_iff.1 hb).1
       have hbs:(⟨s.toArray⟩:ByteArray)[k.toNat]? = some b:=by
        have hsz:k.toNat < (⟨s.toArray⟩:ByteArray).size:=by simpa [ByteArray.size] using hlt
        rw [getElem?_pos (⟨s.toArray⟩:ByteArray) k.toNat hsz]
        have:s[k.toNat] = b:=by rw [List.getElem?_eq_getElem hlt] at hb;simpa using hb
        rw [← this]
        rfl
       exact same (.int .u8 b.toNat) (by unfold execOp;simp [hop,Instr.index,asIntOf,run_underlying hu,hve,hvi,hk,hbs]) (.d _ _ _ (.int _ _))
   ·cases hv
  ·cases hv
 | extract x i =>
  simp only [hop] at hv
  obtain ⟨q,hq⟩:=hr x (by simp [hop,Op.operands])
  split at hv
  ·rename_i ds hρ
   rw [hρ] at hq
   cases hd:ds[i]? with
   | none=>simp [hd] at hv
   | some d =>
    simp [hd] at hv
    subst hv
    generalize hve:a.eval x = v at hq
    cases hq with
    | d _ _ _ hq =>
     cases hq with
     | tup vals _ hl hrr =>
      have hlt:i < vals.length:=by rw [hl];exact (List.getElem?_eq_some_iff.1 hd).1
      exact same vals[i] (by unfold execOp;simp [hop,Instr.extract,hve,hlt]) (.d _ _ _ (hrr i _ d (List.getElem?_eq_getElem hlt) hd))
  ·rename_i vs hρ
   rw [hρ] at hq
   cases hd:vs[i]? with
   | none=>simp [hd] at hv
   | some x' =>
    simp [hd] at hv
    subst hv
    generalize hve:a.eval x = v at hq
    cases hq with
    | tup _ vals _ hl hrr =>
     have hlt:i < vals.length:=by rw [hl];exact (List.getElem?_eq_some_iff.1 hd).1
     exact same vals[i] (by unfold execOp;simp [hop,Instr.extract,hve,hlt]) (hrr i _ x' (List.getElem?_eq_getElem hlt) hd).copy
  ·cases hv
 | call c =>
  simp only [hop] at hv
  have purc:(pureOp X ρ o).map V.d = some y→o.wp X.P a w K Q:=by
   intro hh
   cases hd:pureOp X ρ o with
   | none=>simp [hd] at hh
   | some d=>simp [hd] at hh;exact pur d hd hh.symm (by simp [hop])
  split at hv
  ·
   rename_i hc
   split at hv
   ·rename_i x t hargs hts
    unfold lenOp at hv
    split at hv
    ·rename_i het
     obtain ⟨e,he⟩:=Option.isSome_iff_exists.1 het
     have hu:=elemT_under he
     have hargs':c.args = #[x]:=by apply Array.ext';simpa using hargs
     have hts':c.argTypes = #[t]:=by apply Array.ext';simpa using hts
     obtain ⟨q,hq⟩:=hr x (by simp [hop,Op.operands,Call.operands,hc,hargs'])
     have run:∀ n ad cp,a.eval x = .slice ad n cp→(execOp a.eval o).run X.P w = .ok (.value (.int .i64 (n:Int))) w:=by
      intro n ad cp hve
      unfold execOp
      simp [hop,resolve,hc,hargs',invoke,builtin,hts',Builtin.len_,run_underlying hu,hve,goInt]
     split at hv
     ·rename_i c' n hsl
      simp at hv
      subst hv
      rcases V.slice?_rep hsl hq with ⟨_,hve,_,rfl⟩ | hsl'
      ·exact same _ (run 0 none 0 hve) (.d _ _ _ (.int _ _))
      ·generalize hve:a.eval x = v at hsl'
       cases hsl' with
       | sl0 ad cp _=>exact same _ (run 0 ad cp hve) (.d _ _ _ (.int _ _))
       | sl b o' _ cp _ vals=>exact same _ (run n _ cp hve) (.d _ _ _ (.int _ _))
     ·split at hv
      ·rename_i id off n hρ
       rw [hρ] at hq
       simp at hv
       subst hv
       generalize hve:a.eval x = v at hq
       cases hq with
       | osl _ _ _ _ cp b=>exact same _ (run n _ cp hve) (.d _ _ _ (.int _ _))
      ·cases hv
    ·exact purc hv
   ·cases hv
  ·exact purc hv
  ·exact purc hv
  ·rename_i f hc
   split at hv
   ·rename_i gf va vb hcal
    split at hv
    ·rename_i hall
     obtain ⟨q,hq⟩:=hr f (by simp [hop,Op.operands,Call.operands,hc])
     obtain ⟨ua,ub,hve,ha,hb⟩:=calleeOf_val hq hcal
     have hcs:=copies_rep (X:=X) (w:=w) (g:=g) (a:=a) (ρ:=ρ) (xs:=c.args) (fun x hx=>hr x (by simp only [hop,Op.operands,Call.operands,hc];simp at hx;simp [hx]))
     have hpt:=(ha.append hcs).append hb
     obtain ⟨fn,hfn,hname,hbody,hcalls⟩:=hcall gf _ y hv hall w g _ hs.fresh hs.glob hpt p hp
     obtain ⟨cb,hcb⟩:=hbody
     have hrun:=run_call_value (P:=X.P) hop hc hve hfn hname (by simp [hcb]) w
     unfold Oper.wp
     rw [hrun]
     refine hcalls.mono ?_
     rintro E w' ⟨v,g',rfl,hk,hrv⟩
     exact hK v w' g' hk hrv
    ·cases hv
   ·cases hv
  ·cases hv
 | _=>simp [hop] at hv
structure Mod (b:Nat) (w w':World):Prop where
 os:w'.os = w.os
 tape:w'.tape = w.tape
 output:w'.output = w.output
 size:w'.heap.size = w.heap.size
 block:∀ x,x ≠ b→w'.heap[x]? = w.heap[x]?
theorem mod_setRow {w:World} {b:Nat} {cs:Array Value}:Mod b w (w.setRow b cs) where
 os:=rfl
 tape:=rfl
 output:=rfl
 size:=by simp [World.setRow]
 block:=fun x hx=>by simp only [World.setRow,Array.getElem?_modify];rw [if_neg (fun h=>hx h.symm)]
section
variable {X:Ctx} {g:Gh} {w w':World} {b:Nat}
theorem Mod.repD (h:Mod b w w') (he:g.e b = 0) {v:Value} {d:D} (r:RepD w g.e v d):RepD w' g.e v d :=
 r.mono (fun x o ho=>by
  have hx:x ≠ b:=fun hh=>by subst hh;rw [he] at ho;omega
  exact World.cell?_of_block (w:=w) (a:=⟨x,o,none⟩) (h.block x hx)) fun _=>Nat.le_refl _
theorem Mod.repV (h:Mod b w w') (he:g.e b = 0) (ho:∃ id,g.own b = .obj id) {p:Own} {v:Value} {x:V} (r:RepV X w g p v x):RepV X w' g p v x:=by
 induction r with
 | d p v x r=>exact .d p v x (h.repD he r)
 | tail p E cells n b' c cur z vals hz hz0 hb hn hm hcur hcl hee hoo hp hv hr =>
  have hne:b' ≠ b:=fun hh=>by
   subst hh
   obtain ⟨id,hid⟩:=ho
   rw [hid] at hoo
   obtain ⟨t,i,j,hp | hp⟩:=hp <;> rw [hp] at hoo <;> cases hoo
  exact .tail p E cells n b' c cur z vals hz hz0 ((h.block b' hne).trans hb) hn hm hcur hcl hee hoo hp hv fun j v d h1 h2=>h.repD he (hr j v d h1 h2)
 | tail0 _ E a0=>exact .tail0 _ E _
 | full p b' o cells n r=>exact .full p b' o cells n (h.repD he r)
 | obj p id off b' r=>exact .obj p id off b' r
 | osl p id off n c b' r hn=>exact .osl p id off n c b' r hn
 | clo p fn va vb a b' hla hlb _ _ iha ihb=>exact .clo p fn va vb a b' hla hlb iha ihb
 | agg p vals vs hl _ ih=>exact .agg p vals vs hl ih
 | tup p vals vs hl _ ih=>exact .tup p vals vs hl ih
 | mp p id b' r=>exact .mp p id b' r
 | it p id b' r=>exact .it p id b' r
theorem Mod.repOb (h:Mod b w w') (he:g.e b = 0) (ho:∃ id,g.own b = .obj id) {id b':Nat} {o:Ob} (hne:b' ≠ b) (r:RepOb X w g id b' o):RepOb X w' g id b' o:=by
 cases o with
 | cells vs=>obtain ⟨vals,T,h1,h2,h3,h4⟩:=r;exact ⟨vals,T,(h.block b' hne).trans h1,h2,h3,fun j v x k1 k2=>h.repV he ho (h4 j v x k1 k2)⟩
 | frozen ds=>obtain ⟨vals,T,h1,h2,h3,h4⟩:=r;exact ⟨vals,T,(h.block b' hne).trans h1,h2,h3,fun j v x k1 k2=>h.repD he (h4 j v x k1 k2)⟩
 | map es ck=>obtain ⟨en,h1,h2,h3,h4⟩:=r;exact ⟨en,(h.block b' hne).trans h1,h2,h3,fun j v x k1 k2=>⟨h.repD he (h4 j v x k1 k2).1,h.repD he (h4 j v x k1 k2).2⟩⟩
 | iter s pos=>exact ⟨(h.block b' hne).trans r.1,r.2⟩
theorem Mod.later (h:Mod b w w') (he:g.e b = 0) (ho:∃ id,g.own b = .obj id):Later g w g w' where
 os:=h.os
 tape:=h.tape
 output:=h.output
 size:=Nat.le_of_eq h.size.symm
 cells:=fun x o hlt=>by
  have hx:x ≠ b:=fun hh=>by subst hh;rw [he] at hlt;omega
  exact World.cell?_of_block (w:=w) (a:=⟨x,o,none⟩) (h.block x hx)
 e:=fun _=>Nat.le_refl _
 fgn:=fun x hx=>by
  have hne:x ≠ b:=fun hh=>by subst hh;obtain ⟨id,hid⟩:=ho;rw [hid] at hx;cases hx
  exact ⟨h.block x hne,hx,rfl⟩
 pin:=rfl
theorem Mod.glob (h:Mod b w w') (he:g.e b = 0) (ho:∃ id,g.own b = .obj id) (k:GlobOk X w g):GlobOk X w' g:=k.later (h.later he ho)
end
def Gh.give (g:Gh) (b:Nat) (p:Own):Gh:={ g with own:=fun x=>if x = b then p else g.own x }
section
variable {X:Ctx} {g:Gh} {w:World} {b:Nat} {p:Own}
theorem give_later (hb:g.own b ≠ .fgn):Later g w (g.give b p) w where
 os:=rfl
 tape:=rfl
 output:=rfl
 size:=Nat.le_refl _
 cells:=fun _ _ _=>rfl
 e:=fun _=>Nat.le_refl _
 fgn:=fun x hx=>by
  have hne:x ≠ b:=fun hh=>hb (by rw [← hh];exact hx)
  refine ⟨rfl,?_,rfl⟩
  simp only [Gh.give]
  rw [if_neg hne]
  exact hx
 pin:=rfl
end
def Gh.freeze (g:Gh) (b n:Nat):Gh:={ g with e:=fun x=>if x = b then n else g.e x }
section
variable {X:Ctx} {g:Gh} {w:World} {b n:Nat}
theorem freeze_e (he:g.e b≤n) (x:Nat):g.e x≤(g.freeze b n).e x:=by
 simp only [Gh.freeze]
 split
 ·rename_i h;rw [h];exact he
 ·exact Nat.le_refl _
theorem freeze_repD (he:g.e b≤n) {v:Value} {d:D} (r:RepD w g.e v d):RepD w (g.freeze b n).e v d:=r.mono (fun _ _ _=>rfl) (freeze_e he)
theorem freeze_repV (he:g.e b≤n) (ho:∃ id,g.own b = .obj id) {p:Own} {v:Value} {x:V} (r:RepV X w g p v x):RepV X w (g.freeze b n) p v x:=by
 induction r with
 | d p v x r=>exact .d p v x (freeze_repD he r)
 | tail p E cells m b' c cur z vals hz hz0 hb hn hm hcur hcl hee hoo hp hv hr =>
  have hne:b' ≠ b:=fun hh=>by
   subst hh
   obtain ⟨id,hid⟩:=ho
   rw [hid] at hoo
   obtain ⟨t,i,j,hp | hp⟩:=hp <;> rw [hp] at hoo <;> cases hoo
  exact .tail p E cells m b' c cur z vals hz hz0 hb hn hm hcur hcl (by simp only [Gh.freeze];rw [if_neg hne];exact hee) hoo hp hv fun j v d h1 h2=>freeze_repD he (hr j v d h1 h2)
 | tail0 _ E a0=>exact .tail0 _ E _
 | full p b' o cells n r=>exact .full p b' o cells n (freeze_repD he r)
 | obj p id off b' r=>exact .obj p id off b' r
 | osl p id off n c b' r hn=>exact .osl p id off n c b' r hn
 | clo p fn va vb a b' hla hlb _ _ iha ihb=>exact .clo p fn va vb a b' hla hlb iha ihb
 | agg p vals vs hl _ ih=>exact .agg p vals vs hl ih
 | tup p vals vs hl _ ih=>exact .tup p vals vs hl ih
 | mp p id b' r=>exact .mp p id b' r
 | it p id b' r=>exact .it p id b' r
theorem freeze_repOb (he:g.e b≤n) (ho:∃ id,g.own b = .obj id) {id b':Nat} {o:Ob} (hne:b' ≠ b) (r:RepOb X w g id b' o):RepOb X w (g.freeze b n) id b' o:=by
 have hee:(g.freeze b n).e b' = g.e b':=by simp only [Gh.freeze];rw [if_neg hne]
 cases o with
 | cells vs=>obtain ⟨vals,T,h1,h2,h3,h4⟩:=r;exact ⟨vals,T,h1,h2,hee.trans h3,fun j v x k1 k2=>freeze_repV he ho (h4 j v x k1 k2)⟩
 | frozen ds=>obtain ⟨vals,T,h1,h2,h3,h4⟩:=r;exact ⟨vals,T,h1,h2,hee.trans h3,fun j v x k1 k2=>freeze_repD he (h4 j v x k1 k2)⟩
 | map es ck=>obtain ⟨en,h1,h2,h3,h4⟩:=r;exact ⟨en,h1,h2,hee.trans h3,fun j v x k1 k2=>⟨freeze_repD he (h4 j v x k1 k2).1,freeze_repD he (h4 j v x k1 k2).2⟩⟩
 | iter s pos=>exact ⟨r.1,hee.trans r.2⟩
theorem freeze_later (he:g.e b≤n) (ho:∃ id,g.own b = .obj id):Later g w (g.freeze b n) w where
 os:=rfl
 tape:=rfl
 output:=rfl
 size:=Nat.le_refl _
 cells:=fun _ _ _=>rfl
 e:=freeze_e he
 fgn:=fun x hx=>by
  have hne:x ≠ b:=fun hh=>by subst hh;obtain ⟨id,hid⟩:=ho;rw [hid] at hx;cases hx
  refine ⟨rfl,hx,?_⟩
  simp only [Gh.freeze]
  rw [if_neg hne]
 pin:=rfl
end
def Gh.box (g:Gh) (b:Nat):Gh:={ μ:=g.μ ++ [b],e:=g.e,own:=fun x=>if x = b then .obj g.μ.length else g.own x,pin:=g.pin }
theorem grow_box {g:Gh} {w:World} (hf:Fresh g w) (o:Obj):Grow g w (g.box w.heap.size) (w.alloc o) where
 os:=rfl
 tape:=rfl
 output:=rfl
 size:=by simp
 block:=fun b hb=>heap_alloc_old w o hb
 own:=fun b hb=>by simp only [Gh.box];rw [if_neg (by omega)]
 e:=fun _ _=>rfl
 μ:=fun id b hb=>by
  have hlt:=(List.getElem?_eq_some_iff.1 hb).1
  simp only [Gh.box]
  rw [List.getElem?_append_left hlt]
  exact hb
 pin:=rfl
 fresh:=fun b hb=>by
  simp at hb
  simp only [Gh.box]
  rw [if_neg (by omega)]
  exact hf b (by omega)
theorem RepV.anyPos {X:Ctx} {w:World} {g:Gh} {q:Own} {v:Value} {x:V} (r:RepV X w g .free v x):RepV X w g q v x :=
 match x,r with
 | .tail _ _ _,.tail0 _ _ _=>.tail0 _ _ _
 | .tail _ _ _,.tail _ _ _ _ _ _ _ _ _ _ _ _ _ _ _ _ _ _ hp _ _=>by obtain ⟨t,i,j,h | h⟩:=hp <;> cases h
 | .d _,r | .full _ _,r | .obj _ _,r | .osl _ _ _,r | .clo _ _ _,r | .agg _,r | .tup _,r | .mp _,r | .it _,r=>r.place fun _ _ _ hx=>by cases hx
def Gh.trunc (g:Gh) (n:Nat):Gh:={ g with μ:=g.μ.take n }
def Elder (X:Ctx) (w:World) (g:Gh) (n:Nat) (h:List Ob):Prop:=∀ (id b:Nat) (o:Ob),id < n→g.μ[id]? = some b→h[id]? = some o→RepOb X w (g.trunc n) id b o
def Low (X:Ctx) (w:World) (g:Gh) (base:Nat) (h:List Ob):Prop :=
 base≤h.length∧(∀ n,n≤base→(n = base∨g.pin.eld n)→Elder X w g n h)∧∀ (id b:Nat),id < base→g.pin.blocks[id]? = some b→g.μ[id]? = some b
theorem trunc_get {g:Gh} {n id b:Nat} (h:(g.trunc n).μ[id]? = some b):id < n∧g.μ[id]? = some b:=by
 simp only [Gh.trunc] at h
 rw [List.getElem?_take] at h
 split at h
 ·exact ⟨‹_›,h⟩
 ·cases h
theorem trunc_put {g:Gh} {n id b:Nat} (hn:id < n) (h:g.μ[id]? = some b):(g.trunc n).μ[id]? = some b:=by
 simp only [Gh.trunc]
 rw [List.getElem?_take,if_pos hn]
 exact h
theorem Grow.trunc {g g':Gh} {w w':World} (h:Grow g w g' w') (n:Nat):Grow (g.trunc n) w (g'.trunc n) w' where
 os:=h.os
 tape:=h.tape
 output:=h.output
 size:=h.size
 block:=h.block
 own:=h.own
 e:=h.e
 μ:=fun id b hb=>by obtain ⟨h1,h2⟩:=trunc_get hb;exact trunc_put h1 (h.μ id b h2)
 pin:=h.pin
 fresh:=h.fresh
structure Shift (p:Own) (g:Gh) (w:World) (g':Gh) (w':World):Prop where
 later:Later g w g' w'
 tails:∀ b,g.own b ≠ p→IsPos (g.own b)→w'.heap[b]? = w.heap[b]? ∧ g'.own b = g.own b∧g'.e b = g.e b
 objs:∀ (b id:Nat),g.own b = .obj id→w'.heap[b]? = w.heap[b]? ∧ g'.own b = .obj id∧g'.e b = g.e b
 μ:g'.μ = g.μ
 fresh:Fresh g' w'
section
variable {X:Ctx} {g g':Gh} {w w':World} {p:Own}
theorem Shift.trunc (s:Shift p g w g' w') (n:Nat):Shift p (g.trunc n) w (g'.trunc n) w' where
 later:=⟨s.later.os,s.later.tape,s.later.output,s.later.size,s.later.cells,s.later.e,s.later.fgn,s.later.pin⟩
 tails:=s.tails
 objs:=s.objs
 μ:=by simp only [Gh.trunc];rw [s.μ]
 fresh:=s.fresh
theorem Shift.repD (s:Shift p g w g' w') {v:Value} {d:D} (r:RepD w g.e v d):RepD w' g'.e v d:=r.mono s.later.cells s.later.e
theorem Shift.repV (s:Shift p g w g' w') (hp:p ≠ .free) {q:Own} {v:Value} {x:V} (r:RepV X w g q v x) (hq:q ≠ p):RepV X w' g' q v x:=by
 induction r with
 | d q v x r=>exact .d q v x (s.repD r)
 | tail q E cells n b c cur z vals hz hz0 hb hn hm hcur hcl he ho hpos hv hr =>
  obtain ⟨h1,h2,h3⟩:=s.tails b (by rw [ho];exact hq) (by rw [ho];exact hpos)
  exact .tail q E cells n b c cur z vals hz hz0 (h1.trans hb) hn hm hcur hcl (h3.trans he) (h2.trans ho) hpos hv fun j v d k1 k2=>s.repD (hr j v d k1 k2)
 | tail0 _ E a0=>exact .tail0 _ E _
 | full q b o cells n r=>exact .full q b o cells n (s.repD r)
 | obj q id off b r=>exact .obj q id off b (by rw [s.μ];exact r)
 | osl q id off n c b r hn=>exact .osl q id off n c b (by rw [s.μ];exact r) hn
 | clo q fn va vb a b hla hlb _ _ iha ihb=>exact .clo q fn va vb a b hla hlb (fun j v x h1 h2=>iha j v x h1 h2 (Ne.symm hp)) (fun j v x h1 h2=>ihb j v x h1 h2 (Ne.symm hp))
 | agg q vals vs hl _ ih=>exact .agg q vals vs hl (fun j v x h1 h2=>ih j v x h1 h2 (Ne.symm hp))
 | tup q vals vs hl _ ih=>exact .tup q vals vs hl (fun j v x h1 h2=>ih j v x h1 h2 (Ne.symm hp))
 | mp q id b r=>exact .mp q id b (by rw [s.μ];exact r)
 | it q id b r=>exact .it q id b (by rw [s.μ];exact r)
theorem Shift.copy (s:Shift p g w g' w') (hp:p ≠ .free) {q r:Own} {v:Value} {x:V} (h:RepV X w g q v x):RepV X w' g' r v x.copy :=
 (s.repV hp (q:=.free) h.copy (Ne.symm hp)).anyPos
theorem Shift.glob (s:Shift p g w g' w') (k:GlobOk X w g):GlobOk X w' g':=k.later s.later
def copyAt:Own→List Ob→List Ob
 | .cell id j,h=>match h[id]? with
  | some (.cells vs)=>h.set id (.cells (vs.set j ((vs.getD j undefV).copy)))
  | _=>h
 | _,h=>h
theorem copyAt_length (p:Own) (h:List Ob):(copyAt p h).length = h.length:=by
 cases p <;> simp only [copyAt]
 split
 ·simp
 ·rfl
theorem Shift.repOb (s:Shift p g w g' w') (hp:p ≠ .free) {id b:Nat} {h:List Ob} {o o':Ob} (hown:g.own b = .obj id) (ho:h[id]? = some o) (ho':(copyAt p h)[id]? = some o') (r:RepOb X w g id b o):RepOb X w' g' id b o':=by
 obtain ⟨k1,k2,k3⟩:=s.objs b id hown
 have same:o' = o→(∀ j,p ≠ .cell id j)∨(∀ vs,o ≠ .cells vs)→RepOb X w' g' id b o':=by
  intro hoo hpos
  subst hoo
  cases o' with
  | cells vs =>
   obtain ⟨vals,T,h1,h2,h3,h4⟩:=r
   rcases hpos with hpos | hpos
   ·exact ⟨vals,T,k1.trans h1,h2,k3.trans h3,fun j v x i1 i2=>s.repV hp (h4 j v x i1 i2) (Ne.symm (hpos j))⟩
   ·exact (hpos vs rfl).elim
  | frozen ds=>obtain ⟨vals,T,h1,h2,h3,h4⟩:=r;exact ⟨vals,T,k1.trans h1,h2,k3.trans h3,fun j v x i1 i2=>s.repD (h4 j v x i1 i2)⟩
  | map es ck=>obtain ⟨en,h1,h2,h3,h4⟩:=r;exact ⟨en,k1.trans h1,h2,k3.trans h3,fun j v x i1 i2=>⟨s.repD (h4 j v x i1 i2).1,s.repD (h4 j v x i1 i2).2⟩⟩
  | iter t pos=>exact ⟨k1.trans r.1,k3.trans r.2⟩
 cases p with
 | cell i j =>
  simp only [copyAt] at ho'
  cases hi:h[i]? with
  | none =>
   simp only [hi] at ho'
   refine same (by rw [ho'] at ho;exact Option.some.inj ho) (.inl fun j' hh=>?_)
   cases hh
   rw [hi] at ho;cases ho
  | some oi =>
   cases oi with
   | cells vs =>
    simp only [hi] at ho'
    by_cases hid:i = id
    ·subst hid
     have hlt:i < h.length:=(List.getElem?_eq_some_iff.1 hi).1
     rw [List.getElem?_set_self hlt] at ho'
     cases ho'
     rw [hi] at ho
     cases ho
     obtain ⟨vals,T,h1,h2,h3,h4⟩:=r
     refine ⟨vals,T,k1.trans h1,by simpa using h2,k3.trans h3,fun j' v x i1 i2=>?_⟩
     rw [List.getElem?_set] at i2
     split at i2
     ·rename_i hjj
      subst hjj
      split at i2
      ·rename_i hlt2
       cases i2
       rw [List.getD_eq_getElem?_getD,List.getElem?_eq_getElem hlt2,Option.getD_some]
       exact s.copy hp (h4 j v vs[j] i1 (List.getElem?_eq_getElem hlt2))
      ·cases i2
     ·rename_i hjj
      exact s.repV hp (h4 j' v x i1 i2) (fun hh=>hjj (by cases hh;rfl))
    ·rw [List.getElem?_set_ne hid] at ho'
     exact same (by rw [ho'] at ho;exact Option.some.inj ho) (.inl fun j' hh=>hid (by cases hh;rfl))
   | _ =>
    simp only [hi] at ho'
    refine same (by rw [ho'] at ho;exact Option.some.inj ho) ?_
    by_cases hid:i = id
    ·subst hid
     rw [hi] at ho
     cases ho
     exact .inr (by intro vs hh;cases hh)
    ·exact .inl fun j' hh=>hid (by cases hh;rfl)
 | _=>exact same (by simp only [copyAt] at ho';rw [ho'] at ho;exact Option.some.inj ho) (.inl (by intro j hh;cases hh))
theorem Shift.repH (s:Shift p g w g' w') (hp:p ≠ .free) {h:List Ob} (r:RepH X w g h):RepH X w' g' (copyAt p h) where
 len:=by rw [s.μ,copyAt_length];exact r.len
 own:=fun id b hb=>by rw [s.μ] at hb;exact (s.objs b id (r.own id b hb)).2.1
 ob:=fun id b o hb ho=>by
  rw [s.μ] at hb
  obtain ⟨o0,h1,h2⟩:=r.get hb
  exact s.repOb hp (r.own id b hb) h1 ho h2
theorem Shift.low (s:Shift p g w g' w') (hp:p ≠ .free) {h:List Ob} (r:RepH X w g h) {base:Nat} (l:Low X w g base h):Low X w' g' base (copyAt p h):=by
 refine ⟨by rw [copyAt_length];exact l.1,fun n hn he id b o hid hb ho=>?_,fun id b hid hb=>by rw [s.later.pin] at hb;rw [s.μ];exact l.2.2 id b hid hb⟩
 rw [s.μ] at hb
 obtain ⟨o0,h1,_⟩:=r.get hb
 exact (s.trunc n).repOb hp (r.own id b hb) h1 ho (l.2.1 n hn (by rw [← s.later.pin];exact he) id b o0 hid hb h1)
end
theorem shift_give {g:Gh} {w:World} {b:Nat} {p q:Own} (hf:Fresh g w) (hb:g.own b = p) (hp:IsPos p):Shift p g w (g.give b q) w where
 later:=give_later (by rw [hb];obtain ⟨t,i,j,h | h⟩:=hp <;> rw [h] <;> intro hh <;> cases hh)
 tails:=fun x hx _=>by
  have hne:x ≠ b:=fun hh=>hx (by rw [hh];exact hb)
  exact ⟨rfl,by simp only [Gh.give];rw [if_neg hne],rfl⟩
 objs:=fun x id hx=>by
  have hne:x ≠ b:=fun hh=>by
   subst hh
   rw [hb] at hx
   obtain ⟨t,i,j,h | h⟩:=hp <;> rw [h] at hx <;> cases hx
  exact ⟨rfl,by simp only [Gh.give];rw [if_neg hne];exact hx,rfl⟩
 μ:=rfl
 fresh:=fun x hx=>by
  have hne:x ≠ b:=fun hh=>by
   subst hh
   have:=(hf x hx).1
   rw [hb] at this
   obtain ⟨t,i,j,h | h⟩:=hp <;> rw [h] at this <;> cases this
  simp only [Gh.give]
  rw [if_neg hne]
  exact hf x hx
theorem IsPos.ne_free {p:Own} (h:IsPos p):p ≠ .free:=by
 obtain ⟨t,i,j,h | h⟩:=h <;> rw [h] <;> intro hh <;> cases hh
structure Src (P:Program) (w:World) (size m:Nat) (x:Value) (news:List Value):Prop where
 len:∀ w',(Builtin.lenOf x).run P w' = .ok m w'
 cells:∀ w':World,(∀ a,w'.cell? a = w.cell? a)→(Builtin.firstCells size m x).run P w' = .ok ⟨news⟩ w'
theorem run_append_fit {P:Program} {w:World} {t u ty e:TypeId} {i:TypeInfo} (ht:P.underlying t = some (.slice e)) (hu:(∃ e',P.underlying u = some (.slice e'))∨P.underlying u = some .string) (hi:P.info? e = some i)
  {b n cap m:Nat} {cur:Array Value} {x:Value} {news:List Value} (hsrc:Src P w i.size m x news) (hb:w.heap[b]? = some (.cells cur e (0,0))) (hfit:n + m≤cap) (hsz:n * i.size + news.length≤cur.size)
  (h1:∀ v ∈ news,v.oneCell' = true) :
  (Builtin.append_ #[t,u] ty #[.slice (some ⟨b,0,none⟩) n cap,x]).run P w =
   .ok (.slice (some ⟨b,0,none⟩) (n + m) cap) (w.setRow b (cur.toList.take (n * i.size) ++ news ++ cur.toList.drop (n * i.size + news.length)).toArray):=by
 have hl:=hsrc.len w
 have hc:=hsrc.cells w fun _=>rfl
 have hst:=run_storeCells_at (P:=P) b (n * i.size) e news 0 cur w hb (by simpa using hsz) h1
 simp only [Nat.add_zero] at hst
 rcases hu with ⟨e',hu⟩ | hu <;>
 simp [Builtin.append_,run_underlying ht,run_underlying hu,Go.sizeOf,typeInfo,hi,hl,hfit,hc,Addr.add_lit,hst]
theorem run_append_new {P:Program} {w:World} {t u ty e:TypeId} {i:TypeInfo} {z:Value} (ht:P.underlying t = some (.slice e)) (hu:(∃ e',P.underlying u = some (.slice e'))∨P.underlying u = some .string) (hi:P.info? e = some i)
  (hz:i.zero = some z) (hzs:z.cells.size = i.size) {ad:Option Addr} {n cap m:Nat} {x:Value} {olds news:List Value} (hsrc:Src P w i.size m x news)
  (hold:∀ w':World,(∀ a,w'.cell? a = w.cell? a)→(Builtin.firstCells i.size n (.slice ad n cap)).run P w' = .ok ⟨olds⟩ w') (hol:olds.length = n * i.size) (hnl:news.length = m * i.size) (hno:cap < n + m) (hbig:(n + m) * i.bytes≤140737488355328) (hm:n + m≤maxLen) :
  ∃ c rest,n + m≤c∧c≤maxLen∧(olds ++ news ++ rest).length = c * i.size∧(Builtin.append_ #[t,u] ty #[.slice ad n cap,x]).run P w =
   .ok (.slice (some ⟨w.heap.size,0,none⟩) (n + m) c) (w.drew.alloc (.cells ⟨olds ++ news ++ rest⟩ e)):=by
 have hl:=hsrc.len w
 have hc:=hsrc.cells w.drew fun _=>rfl
 have ho:=hold w.drew fun _=>rfl
 have hnot:¬ n + m≤cap:=by omega
 have hg:=growslice_fits hno hbig
 have h48':¬ (281474976710656 < Builtin.nextslicecap (n + m) cap * i.bytes):=by omega
 have h63':¬ (9223372036854775807 < ((n:Int) + (m:Int))):=by simp only [maxLen] at hm;omega
 refine ⟨grownCap w (n + m) cap e,(Builtin.zeroCells z.cells (grownCap w (n + m) cap e - (n + m))).toList,grownCap_ge w (n + m) cap e,grownCap_le_maxLen w (n + m) cap e hm,?_,?_⟩
 ·have hcap1:=grownCap_ge w (n + m) cap e
  simp only [List.length_append,hol,hnl,Array.length_toList,size_zeroCells,hzs]
  rw [← Nat.add_mul,← Nat.add_mul]
  congr 1
  omega
 ·rcases hu with ⟨e',hu⟩ | hu
  all_goals
   simp [Builtin.append_,run_underlying ht,run_underlying hu,Go.sizeOf,typeInfo,zeroValue,hi,hz,hl,hnot,h63',h48',Question.forced,hc,ho,newRow,grownCap]
   congr 2
   apply Array.ext'
   simp [List.append_assoc]
theorem one_val {w:World} {e:Nat→Nat} {v:Value} {d:D} (r:RepD w e v d) (h:d.one = true):v.oneCell' = true:=by
 cases r <;> simp [D.one] at h <;> rfl
theorem PtD.one {w:World} {e:Nat→Nat} {vals:List Value} {ds:List D} (r:PtD w e vals ds) (h:ds.all D.one = true):∀ v ∈ vals,v.oneCell' = true:=by
 intro v hv
 obtain ⟨j,hj,rfl⟩:=List.mem_iff_getElem.1 hv
 have hlt:j < ds.length:=by rw [← r.1];exact hj
 exact one_val (r.2 j vals[j] ds[j] (List.getElem?_eq_getElem hj) (List.getElem?_eq_getElem hlt)) (by simp only [List.all_eq_true] at h;exact h _ (List.getElem_mem hlt))
theorem src_rep {X:Ctx} {w:World} {g:Gh} {q:Own} {u size m:Nat} {v:Value} {x:V} {cs:List D} (h:srcOf X.P u x = some (cs,m)) (hl:cs.length = m * size) (r:RepV X w g q v x) :
  ((∃ e',X.P.underlying u = some (.slice e'))∨X.P.underlying u = some .string)∧∃ news,Src X.P w size m v news∧PtD w g.e news cs:=by
 unfold srcOf at h
 split at h
 ·rename_i e' hu
  refine ⟨.inl ⟨e',hu⟩,?_⟩
  rcases V.slice?_rep h r with ⟨_,rfl,rfl,rfl⟩ | r'
  ·refine ⟨[],⟨fun w' => by simp [Builtin.lenOf],fun w' _=>by simp [Builtin.firstCells]⟩,⟨rfl,by simp⟩⟩
  ·cases r' with
   | sl0 ad cp _ =>
    refine ⟨[],⟨fun w' => by simp [Builtin.lenOf],fun w' _=>?_⟩,⟨rfl,by simp⟩⟩
    cases ad <;> simp [Builtin.firstCells,loadCells,loadCellsFrom]
   | sl b o _ c _ vals hn hlv he hc hr =>
    refine ⟨vals,⟨fun w' => by simp [Builtin.lenOf],fun w' hw=>?_⟩,⟨hlv,hr⟩⟩
    exact run_firstCells_some w' size m ⟨b,o,none⟩ m c vals (by rw [hlv,hl]) (fun j v hj=>by rw [Addr.add_lit,hw];exact hc j v hj)
 ·rename_i s hu
  simp at h
  obtain ⟨rfl,rfl⟩:=h
  refine ⟨.inr hu,?_⟩
  cases r with
  | d _ _ _ r =>
   cases r
   refine ⟨s.map fun b=>.int .u8 b.toNat,⟨fun w' => by simp [Builtin.lenOf,ByteArray.size],fun w' _=>?_⟩,⟨by simp,fun j v d h1 h2=>?_⟩⟩
   ·simp only [Builtin.firstCells,Sem.run_pure]
    congr 1
    apply Array.ext'
    rw [extract_mk]
    simp
   ·rw [List.getElem?_map] at h1 h2
    cases hs:s[j]? with
    | none=>simp [hs] at h1
    | some b=>simp [hs] at h1 h2;subst h1;subst h2;exact .int _ _
 ·cases h
def Gh.row (g:Gh) (b n:Nat) (q:Own):Gh:={ μ:=g.μ,e:=fun x=>if x = b then n else g.e x,own:=fun x=>if x = b then q else g.own x,pin:=g.pin }
theorem keep_row {g:Gh} {w w1:World} (hf:Fresh g w) (h1:w1.heap = w.heap) (h2:w1.os = w.os) (h3:w1.tape = w.tape) (h4:w1.output = w.output) (o:Obj) (n:Nat) (q:Own):Keep g w (g.row w.heap.size n q) (w1.alloc o) where
 os:=h2
 tape:=h3
 output:=h4
 size:=by simp [World.alloc,h1]
 block:=fun b hb=>by rw [heap_alloc_old w1 o (by rw [h1];exact hb),h1]
 own:=fun b hb=>by simp only [Gh.row];rw [if_neg (by omega)]
 e:=fun b hb=>by simp only [Gh.row];rw [if_neg (by omega)]
 μ:=fun _ _ h=>h
 pin:=rfl
 μeq:=rfl
 fresh:=fun b hb=>by
  have hb':w.heap.size + 1≤b:=by simpa [World.alloc,h1] using hb
  simp only [Gh.row]
  rw [if_neg (by omega),if_neg (by omega)]
  exact hf b (by omega)
theorem Keep.shift {g g':Gh} {w w':World} (k:Keep g w g' w') (hf:Fresh g w) (p:Own):Shift p g w g' w' where
 later:=k.later hf
 tails:=fun b _ hb=>by
  have hlt:b < w.heap.size:=by
   apply Classical.byContradiction;intro hn
   rw [(hf b (by omega)).1] at hb
   exact hb.ne_free rfl
  exact ⟨k.block b hlt,k.own b hlt,k.e b hlt⟩
 objs:=fun b id hb=>by
  have hlt:b < w.heap.size:=by
   apply Classical.byContradiction;intro hn
   rw [(hf b (by omega)).1] at hb
   cases hb
  exact ⟨k.block b hlt,(k.own b hlt).trans hb,k.e b hlt⟩
 μ:=k.μeq
 fresh:=k.fresh
theorem row_rep {X:Ctx} {w w1:World} {g:Gh} {E z c k:Nat} {vals rest:List Value} {ds:List D} (hf:Fresh g w) (h1:w1.heap = w.heap) (h2:w1.os = w.os) (h3:w1.tape = w.tape) (h4:w1.output = w.output)
  (hz:sizeT X.P E = some z) (hz0:0 < z) (hp:PtD w g.e vals ds) (hl:ds.length = k * z) (hkc:k≤c) (hm:c≤maxLen) (hlen:(vals ++ rest).length = c * z) {q:Own} (hq:IsPos q) :
  RepV X (w1.alloc (.cells ⟨vals ++ rest⟩ E)) (g.row w.heap.size (k * z) q) q (.slice (some ⟨w.heap.size,0,none⟩) k c) (.tail E ds k):=by
 have hk:=keep_row (q:=q) hf h1 h2 h3 h4 (.cells ⟨vals ++ rest⟩ E) (k * z)
 have hnew:(w1.alloc (.cells ⟨vals ++ rest⟩ E)).heap[w.heap.size]? = some (.cells ⟨vals ++ rest⟩ E (0,0)):=by
  have:=heap_alloc_new w1 (.cells ⟨vals ++ rest⟩ E)
  rw [h1] at this
  exact this
 refine .tail q E ds k _ c ⟨vals ++ rest⟩ z vals hz hz0 hnew hkc hm (by simpa using hlen) hl (by simp [Gh.row]) (by simp [Gh.row]) hq ?_ fun j v d a1 a2=>hk.repD hf (hp.2 j v d a1 a2)
 have:vals.length = k * z:=by rw [hp.1,hl]
 simp [← this]
theorem PtD.append {w:World} {e:Nat→Nat} {a b:List Value} {x y:List D} (h:PtD w e a x) (k:PtD w e b y):PtD w e (a ++ b) (x ++ y):=by
 refine ⟨by simp [h.1,k.1],fun j v z h1 h2=>?_⟩
 rw [List.getElem?_append] at h1 h2
 rw [h.1] at h1
 split at h1
 ·rename_i hlt;rw [if_pos hlt] at h2;exact h.2 j v z h1 h2
 ·rename_i hge;rw [if_neg hge] at h2;exact k.2 _ v z h1 h2
structure AppOk (X:Ctx) (w:World) (g:Gh) (t u E m:Nat) (i:TypeInfo) (zv x:Value) (cs:List D) (news:List Value):Prop where
 ht:X.P.underlying t = some (.slice E)
 hu:(∃ e',X.P.underlying u = some (.slice e'))∨X.P.underlying u = some .string
 hi:X.P.info? E = some i
 hz:i.zero = some zv
 hzs:zv.cells.size = i.size
 h0:0 < i.size
 src:Src X.P w i.size m x news
 pt:PtD w g.e news cs
 len:cs.length = m * i.size
 one:cs.all D.one = true
theorem AppOk.hsz {X:Ctx} {w:World} {g:Gh} {t u E m:Nat} {i:TypeInfo} {zv x:Value} {cs:List D} {news:List Value} (k:AppOk X w g t u E m i zv x cs news):sizeT X.P E = some i.size:=by
 simp [sizeT,k.hi]
section
variable {X:Ctx} {w:World} {g:Gh} {t u ty E m:Nat} {i:TypeInfo} {zv x:Value} {cs:List D} {news:List Value}
theorem append_full (k:AppOk X w g t u E m i zv x cs news) (hf:Fresh g w) {v:Value} {c:List D} {n:Nat} (hv:((∃ ad,v = .slice ad 0 0)∧c = [] ∧ n = 0)∨∃ b o,v = .slice (some ⟨b,o,none⟩) n n∧RepD w g.e v (.sl c n))
  (hcl:c.length = n * i.size) (hm:0 < m) (hbig:(n + m) * i.bytes≤bigLen) (hbl:n + m≤bigLen) {q:Own} (hq:IsPos q) :
  ∃ v' w' g',(Builtin.append_ #[t,u] ty #[v,x]).run X.P w = .ok v' w' ∧ Keep g w g' w' ∧ RepV X w' g' q v' (.tail E (c ++ cs) (n + m)):=by
 have hml:n + m≤maxLen:=by simp only [bigLen] at hbl;simp only [maxLen];omega
 have core:∀ (ad:Option Addr) (cap:Nat) (olds:List Value),cap≤n→v = .slice ad n cap→(∀ w':World,(∀ a,w'.cell? a = w.cell? a)→(Builtin.firstCells i.size n (.slice ad n cap)).run X.P w' = .ok ⟨olds⟩ w')→PtD w g.e olds c →
   ∃ v' w' g',(Builtin.append_ #[t,u] ty #[v,x]).run X.P w = .ok v' w' ∧ Keep g w g' w' ∧ RepV X w' g' q v' (.tail E (c ++ cs) (n + m)):=by
  intro ad cap olds hcap hv' hold hpo
  obtain ⟨cp,rest,h1,h2,h3,h4⟩:=run_append_new (ty:=ty) k.ht k.hu k.hi k.hz k.hzs k.src hold (by rw [hpo.1,hcl]) (by rw [k.pt.1,k.len]) (by omega) (by simpa [bigLen] using hbig) hml
  subst hv'
  refine ⟨_,_,g.row w.heap.size ((n + m) * i.size) q,h4,keep_row (w1:=w.drew) hf rfl rfl rfl rfl _ _ _,?_⟩
  exact row_rep (w1:=w.drew) hf rfl rfl rfl rfl k.hsz k.h0 (hpo.append k.pt) (by rw [List.length_append,hcl,k.len,Nat.add_mul]) h1 h2 h3 hq
 rcases hv with ⟨⟨ad,rfl⟩,rfl,rfl⟩ | ⟨b,o,rfl,r⟩
 ·exact core ad 0 [] (Nat.le_refl _) rfl (fun w' _=>by cases ad <;> simp [Builtin.firstCells,loadCells,loadCellsFrom]) ⟨rfl,by simp⟩
 ·cases r with
  | sl0=>exact core (some ⟨b,o,none⟩) 0 [] (Nat.le_refl _) rfl (fun w' _=>by simp [Builtin.firstCells,loadCells,loadCellsFrom]) ⟨rfl,by simp⟩
  | sl _ _ _ _ _ vals hn hl he hc hr =>
   exact core (some ⟨b,o,none⟩) n vals (Nat.le_refl _) rfl (fun w' hw=>run_firstCells_some w' i.size n ⟨b,o,none⟩ n n vals (by rw [hl,hcl]) (fun j v hj=>by rw [Addr.add_lit,hw];exact hc j v hj)) ⟨hl,hr⟩
theorem append_none (k:AppOk X w g t u E 0 i zv x cs news) {ad:Option Addr} {n cap:Nat} (hn:n≤cap) :
  (Builtin.append_ #[t,u] ty #[.slice ad n cap,x]).run X.P w = .ok (.slice ad n cap) w:=by
 have hnews:news = []:=by
  have h1:=k.pt.1
  have h2:=k.len
  rw [Nat.zero_mul] at h2
  rw [h2] at h1
  exact List.eq_nil_of_length_eq_zero h1
 have hl:=k.src.len w
 have hc:=k.src.cells w fun _=>rfl
 rw [hnews] at hc
 rcases k.hu with ⟨e',hu⟩ | hu <;> cases ad <;>
 simp [Builtin.append_,run_underlying k.ht,run_underlying hu,Go.sizeOf,typeInfo,k.hi,hl,hn,hc,storeCells]
theorem append_tail (k:AppOk X w g t u E m i zv x cs news) (hf:Fresh g w) {p:Own} {v:Value} {c:List D} {n:Nat} (hv:RepV X w g p v (.tail E c n)) (hcl:c.length = n * i.size)
  (hbig:(n + m) * i.bytes≤bigLen) (hbl:n + m≤bigLen) {q:Own} (hq:IsPos q) :
  ∃ v' w' g',(Builtin.append_ #[t,u] ty #[v,x]).run X.P w = .ok v' w' ∧ Shift p g w g' w' ∧ RepV X w' g' q v' (.tail E (c ++ cs) (n + m)):=by
 have hml:n + m≤maxLen:=by simp only [bigLen] at hbl;simp only [maxLen];omega
 cases hv with
 | tail0 =>
  by_cases hm:0 < m
  ·obtain ⟨v',w',g',h1,h2,h3⟩:=append_full k hf (.inl ⟨⟨_,rfl⟩,rfl,rfl⟩) hcl hm hbig hbl hq
   exact ⟨v',w',g',h1,h2.shift hf p,h3⟩
  ·obtain rfl:m = 0:=by omega
   have hcs:cs = []:=List.eq_nil_of_length_eq_zero (by rw [k.len,Nat.zero_mul])
   subst hcs
   exact ⟨_,w,g,append_none k (Nat.le_refl _),(Keep.refl hf).shift hf p,.tail0 _ _ _⟩
 | tail _ _ _ _ b cap cur z vals hz hz0 hb hn hm hcur hcl' he ho hp hvv hr =>
  have hzz:z = i.size:=by have:=hz;rw [k.hsz] at this;exact (Option.some.inj this).symm
  subst hzz
  have hvl:vals.length = n * i.size:=by
   rw [← hvv,List.length_take,Array.length_toList,hcur]
   exact Nat.min_eq_left (Nat.mul_le_mul_right _ hn)
  have hpv:PtD w g.e vals c:=⟨by rw [hvl,hcl],hr⟩
  by_cases hfit:n + m≤cap
  ·have hnl:news.length = m * i.size:=by rw [k.pt.1,k.len]
   have hsz:n * i.size + news.length≤cur.size:=by rw [hnl,← Nat.add_mul,hcur];exact Nat.mul_le_mul_right _ hfit
   have hrun:=run_append_fit (ty:=ty) k.ht k.hu k.hi k.src hb hfit hsz (k.pt.one k.one)
   generalize hnew:(cur.toList.take (n * i.size) ++ news ++ cur.toList.drop (n * i.size + news.length)).toArray = cur' at hrun
   have hmod:Mod b w (w.setRow b cur'):=mod_setRow
   have hb':(w.setRow b cur').heap[b]? = some (.cells cur' E (0,0)):=setRow_heap w b cur cur' E (0,0) hb
   have hpre:∀ j,j < n * i.size→cur'[j]? = cur[j]?:=by
    intro j hj
    rw [← hnew]
    have hlen:(cur.toList.take (n * i.size)).length = n * i.size:=by rw [hvv];exact hvl
    simp only [List.getElem?_toArray]
    rw [List.append_assoc,List.getElem?_append_left (by rw [hlen];exact hj),List.getElem?_take,if_pos hj,Array.getElem?_toList]
   have hshift:Shift p g w (g.row b ((n + m) * i.size) q) (w.setRow b cur'):={
    later:={
     os:=rfl
     tape:=rfl
     output:=rfl
     size:=Nat.le_of_eq hmod.size.symm
     cells:=fun x o hlt=>by
      by_cases hx:x = b
      ·subst hx
       rw [he] at hlt
       rw [cell_of_heap hb',cell_of_heap hb]
       exact hpre o hlt
      ·exact World.cell?_of_block (w:=w) (a:=⟨x,o,none⟩) (hmod.block x hx)
     e:=fun x=>by
      simp only [Gh.row]
      split
      ·rename_i hx;rw [hx,he];exact Nat.mul_le_mul_right _ (by omega)
      ·exact Nat.le_refl _
     fgn:=fun x hx=>by
      have hne:x ≠ b:=fun hh=>by
       subst hh;rw [ho] at hx
       obtain ⟨t,i,j,h | h⟩:=hp <;> rw [h] at hx <;> cases hx
      exact ⟨hmod.block x hne,by simp only [Gh.row];rw [if_neg hne];exact hx,by simp only [Gh.row];rw [if_neg hne]⟩
     pin:=rfl }
    tails:=fun x hx _=>by
     have hne:x ≠ b:=fun hh=>by subst hh;exact hx ho
     exact ⟨hmod.block x hne,by simp only [Gh.row];rw [if_neg hne],by simp only [Gh.row];rw [if_neg hne]⟩
    objs:=fun x id hx=>by
     have hne:x ≠ b:=fun hh=>by
      subst hh;rw [ho] at hx
      obtain ⟨t,i,j,h | h⟩:=hp <;> rw [h] at hx <;> cases hx
     exact ⟨hmod.block x hne,by simp only [Gh.row];rw [if_neg hne];exact hx,by simp only [Gh.row];rw [if_neg hne]⟩
    μ:=rfl
    fresh:=fun x hx=>by
     have hlt:b < w.heap.size:=(Array.getElem?_eq_some_iff.1 hb).1
     rw [hmod.size] at hx
     simp only [Gh.row]
     rw [if_neg (by omega),if_neg (by omega)]
     exact hf x hx }
   refine ⟨_,_,_,hrun,hshift,?_⟩
   have hp2:=hpv.append k.pt
   have hsize:cur'.size = cap * i.size:=by
    rw [← hnew,← hcur]
    simp only [List.size_toArray,List.length_append,List.length_take,List.length_drop,Array.length_toList]
    omega
   refine .tail q E _ _ b cap cur' i.size (vals ++ news) hz k.h0 hb' hfit hm hsize (by rw [List.length_append,hcl,k.len,Nat.add_mul]) (by simp [Gh.row]) (by simp [Gh.row]) hq ?_ fun j v d a1 a2=>hshift.repD (hp2.2 j v d a1 a2)
   rw [← hnew,← hvv]
   have e1:(n + m) * i.size = (cur.toList.take (n * i.size) ++ news).length:=by
    rw [List.length_append,hvv,hvl,hnl,Nat.add_mul]
   simp only [List.toList_toArray]
   rw [e1,List.take_left']
   rfl
  ·have hold:∀ w':World,(∀ a,w'.cell? a = w.cell? a)→(Builtin.firstCells i.size n (.slice (some ⟨b,0,none⟩) n cap)).run X.P w' = .ok ⟨vals⟩ w':=fun w' hw =>
    run_firstCells_some w' i.size n ⟨b,0,none⟩ n cap vals hvl (fun j v hj=>by
     rw [Addr.add_lit,hw,Nat.zero_add,cell_of_heap hb]
     rw [← hvv,List.getElem?_take] at hj
     split at hj
     ·simpa using hj
     ·cases hj)
   obtain ⟨cp,rest,h1,h2,h3,h4⟩:=run_append_new (ty:=ty) k.ht k.hu k.hi k.hz k.hzs k.src hold hvl (by rw [k.pt.1,k.len]) (by omega) (by simpa [bigLen] using hbig) hml
   refine ⟨_,_,g.row w.heap.size ((n + m) * i.size) q,h4,(keep_row (w1:=w.drew) hf rfl rfl rfl rfl _ _ _).shift hf p,?_⟩
   exact row_rep (w1:=w.drew) hf rfl rfl rfl rfl k.hsz k.h0 (hpv.append k.pt) (by rw [List.length_append,hcl,k.len,Nat.add_mul]) h1 h2 h3 hq
end
def OgOk (w:World) (g:Gh) (a:Act) (t:Nat):Loc→Prop
 | .slot u=>a.tmps.getD t undef = a.tmps.getD u undef
 | .cell id j=>∃ b,g.μ[id]? = some b∧w.cell? ⟨b,j,none⟩ = some (a.tmps.getD t undef)
structure Rel (X:Ctx) (base N:Nat) (st:St) (a:Act) (w:World) (g:Gh):Prop where
 defers:a.defers = []
 size:N≤a.tmps.size
 slots:∀ t,RepV X w g (.slot t) (a.tmps.getD t undef) (lookT t st.s)
 sit:Sit X w g st.h
 low:Low X w g base st.h
 og:∀ t l,(t,l) ∈ st.og→OgOk w g a t l
theorem getD_put {a:Act} {d:Nat} {v:Value} (hd:d < a.tmps.size) (t:Nat):(a.put (some d) v).tmps.getD t undef = if t = d then v else a.tmps.getD t undef:=by
 simp only [Act.put,Array.getD_eq_getD_getElem?,Array.getElem?_setIfInBounds]
 by_cases h:t = d
 ·subst h;simp [hd]
 ·rw [if_neg h,if_neg (fun hh=>h hh.symm)]
theorem Low.grow {X:Ctx} {w w':World} {g g':Gh} {base:Nat} {h h':List Ob} (l:Low X w g base h) (hf:Fresh g w) (k:Grow g w g' w') (hμ:g.μ.length = h.length) (hh:∀ (id:Nat) (o:Ob),id < base→h'[id]? = some o→h[id]? = some o) (hl:h.length≤h'.length):Low X w' g' base h':=by
 refine ⟨Nat.le_trans l.1 hl,fun n hn he id b o hid hb ho=>?_,fun id b hid hb=>k.μ id b (l.2.2 id b hid (by rw [← k.pin];exact hb))⟩
 have hlt:id < g.μ.length:=by rw [hμ];exact Nat.lt_of_lt_of_le (Nat.lt_of_lt_of_le hid hn) l.1
 have hb0:=List.getElem?_eq_getElem hlt
 have hb1:=k.μ id _ hb0
 rw [hb1] at hb
 cases hb
 exact (k.trunc n).repOb hf (l.2.1 n hn (by rw [← k.pin];exact he) id _ o hid hb0 (hh id o (Nat.lt_of_lt_of_le hid hn) ho))
section
variable {X:Ctx} {base N:Nat} {st:St} {a:Act} {w:World} {g:Gh}
theorem Rel.get (r:Rel X base N st a w g) (x:Operand):∃ q,RepV X w g q (a.eval x) (st.get X x):=by
 cases x with
 | tmp t=>exact ⟨.slot t,r.slots t⟩
 | const v=>exact ⟨.free,.d _ _ _ (RepD.ofVal 6 v)⟩
 | func f=>exact ⟨.free,.d _ _ _ (.fn f)⟩
 | global k =>
  simp only [Act.eval,St.get]
  cases hk:X.glob k with
  | none=>exact ⟨.free,.d _ _ _ (.und _)⟩
  | some cs =>
   obtain ⟨ms,hgl⟩:=r.sit.glob.get
   obtain ⟨vals,h1,h2,h3⟩:=hgl k cs (.inl hk)
   refine ⟨.free,.d _ _ _ ?_⟩
   exact .ref k 0 0 cs vals h1.1 (by omega) (fun j v hj=>by rw [Nat.zero_add];exact h3 j v hj) h1.2
theorem Rel.ops (r:Rel X base N st a w g) (o:Oper):RepOps X w g a (st.get X) o:=fun y _=>r.get y
theorem rel_put {st':St} {w':World} {g':Gh} {o:Oper} {v:Value} {x:V} (hdef:a.defers = []) (hsize:N≤a.tmps.size) (hN:dstOk N o = true)
  (slots:∀ t,o.dst ≠ some t→RepV X w' g' (.slot t) (a.tmps.getD t undef) (lookT t st'.s)) (sit:Sit X w' g' st'.h) (low:Low X w' g' base st'.h) (og:∀ t l,(t,l) ∈ st'.og→OgOk w' g' a t l)
  (hv:∀ d,o.dst = some d→RepV X w' g' (.slot d) v x):Rel X base N (st'.put o.dst x) (a.put o.dst v) w' g':=by
 cases hd:o.dst with
 | none=>exact ⟨hdef,hsize,fun t=>slots t (by rw [hd];simp),sit,low,og⟩
 | some d =>
  have hdN:d < N:=by simpa [dstOk,hd] using hN
  have hda:d < a.tmps.size:=Nat.lt_of_lt_of_le hdN hsize
  refine ⟨hdef,by simpa [Act.put] using hsize,fun t=>?_,sit,low,fun t l hm=>?_⟩
  ·rw [getD_put hda]
   simp only [St.put,lookT]
   by_cases h:t = d
   ·subst h
    simp only [if_true,beq_self_eq_true]
    exact hv t hd
   ·rw [if_neg h]
    have hb:(d == t) = false:=by simp;exact fun hh=>h hh.symm
    simp only [hb,Bool.false_eq_true,if_false]
    exact slots t (by rw [hd];simpa using fun hh=>h hh.symm)
  ·simp only [St.put,List.mem_filter,Bool.and_eq_true,bne_iff_ne,ne_eq] at hm
   obtain ⟨h1,h2,h3⟩:=hm
   have hok:=og t l h1
   cases l with
   | slot u =>
    simp only [OgOk] at hok ⊢
    rw [getD_put hda,getD_put hda,if_neg h2,if_neg (fun hh=>h3 (by rw [hh]))]
    exact hok
   | cell id j =>
    simp only [OgOk] at hok ⊢
    rw [getD_put hda,if_neg h2]
    exact hok
theorem OgOk.grow {w':World} {g':Gh} {t:Nat} {l:Loc} (h:OgOk w g a t l) (k:Grow g w g' w'):OgOk w' g' a t l:=by
 cases l with
 | slot u=>exact h
 | cell id j =>
  obtain ⟨b,h1,h2⟩:=h
  exact ⟨b,k.μ id b h1,(World.cell?_of_block (w:=w) (a:=⟨b,j,none⟩) (k.block b (World.block_lt_of_cell? w ⟨b,j,none⟩ h2))).trans h2⟩
theorem Rel.keep (r:Rel X base N st a w g) {w':World} {g':Gh} (k:Keep g w g' w'):Rel X base N st a w' g' where
 defers:=r.defers
 size:=r.size
 slots:=fun t=>k.repV r.sit.fresh (r.slots t)
 sit:=r.sit.keep k
 low:=r.low.grow r.sit.fresh k.toGrow r.sit.heap.len (fun _ _ _ h=>h) (Nat.le_refl _)
 og:=fun t l h=>(r.og t l h).grow k.toGrow
theorem Rel.put (r:Rel X base N st a w g) {o:Oper} {v:Value} {x:V} (hN:dstOk N o = true) (hv:∀ d,o.dst = some d→RepV X w g (.slot d) v x):Rel X base N (st.put o.dst x) (a.put o.dst v) w g :=
 rel_put r.defers r.size hN (fun t _=>r.slots t) r.sit r.low r.og hv
theorem Rel.setOg (r:Rel X base N st a w g) {dst:Option Tmp} {l:Loc} (h:∀ t,dst = some t→OgOk w g a t l):Rel X base N (Pv.setOg st dst l) a w g:=by
 cases dst with
 | none=>exact r
 | some t =>
  refine ⟨r.defers,r.size,r.slots,r.sit,r.low,fun u k hm=>?_⟩
  simp only [Pv.setOg,List.mem_cons,Prod.mk.injEq] at hm
  rcases hm with ⟨rfl,rfl⟩ | hm
  ·exact h _ rfl
  ·exact r.og u k hm
theorem locCopy_slot (t u:Nat):lookT u (locCopy st (.slot t)).s = if u = t then (lookT t st.s).copy else lookT u st.s:=by
 simp only [locCopy]
 cases h:lookT t st.s with
 | tail E c n =>
  simp only [lookT]
  by_cases hu:u = t
  ·subst hu;simp [V.copy]
  ·have:(t == u) = false:=by simp;exact fun hh=>hu hh.symm
   simp [this,hu]
 | _ =>
  by_cases hu:u = t
  ·subst hu;simp [V.copy,h]
  ·simp [hu]
theorem locCopy_h (t:Nat):(locCopy st (.slot t)).h = st.h:=by
 simp only [locCopy];split <;> rfl
theorem locCopy_og (l:Loc):(locCopy st l).og = st.og:=by
 cases l <;> simp only [locCopy] <;> split <;> rfl
theorem locCopy_cell_s (id j:Nat):(locCopy st (.cell id j)).s = st.s:=by
 simp only [locCopy];split <;> rfl
theorem locCopy_cell_h (id j:Nat):(locCopy st (.cell id j)).h = copyAt (.cell id j) st.h:=by
 cases h:st.h[id]? with
 | none=>simp [locCopy,copyAt,h]
 | some o=>cases o <;> simp [locCopy,copyAt,h]
def posOf:Loc→Own
 | .slot t=>.slot t
 | .cell id j=>.cell id j
theorem posOf_pos (l:Loc):IsPos (posOf l):=by
 cases l with
 | slot t=>exact ⟨t,0,0,.inl rfl⟩
 | cell id j=>exact ⟨0,id,j,.inr rfl⟩
theorem OgOk.shift {p:Own} {w':World} {g':Gh} {t:Nat} {l:Loc} (h:OgOk w g a t l) (s:Shift p g w g' w') (hh:RepH X w g st.h):OgOk w' g' a t l:=by
 cases l with
 | slot u=>exact h
 | cell id j =>
  obtain ⟨b,h1,h2⟩:=h
  exact ⟨b,by rw [s.μ];exact h1,(World.cell?_of_block (w:=w) (a:=⟨b,j,none⟩) (s.objs b id (hh.own id b h1)).1).trans h2⟩
theorem Rel.shift (r:Rel X base N st a w g) {l:Loc} {w':World} {g':Gh} (s:Shift (posOf l) g w g' w'):Rel X base N (locCopy st l) a w' g':=by
 have hp:=(posOf_pos l).ne_free
 cases l with
 | slot t =>
  refine ⟨r.defers,r.size,fun u=>?_,?_,?_,fun u k hm=>?_⟩
  ·rw [locCopy_slot]
   split
   ·rename_i h;subst h;exact s.copy hp (r.slots u)
   ·rename_i h;exact s.repV hp (r.slots u) (fun hh=>h (by cases hh;rfl))
  ·rw [locCopy_h];exact ⟨s.fresh,s.repH hp r.sit.heap,s.glob r.sit.glob⟩
  ·rw [locCopy_h];exact s.low hp r.sit.heap r.low
  ·rw [locCopy_og] at hm;exact (r.og u k hm).shift s r.sit.heap
 | cell id j =>
  refine ⟨r.defers,r.size,fun u=>?_,?_,?_,fun u k hm=>?_⟩
  ·rw [locCopy_cell_s];exact s.repV hp (r.slots u) (by intro hh;cases hh)
  ·rw [locCopy_cell_h];exact ⟨s.fresh,s.repH hp r.sit.heap,s.glob r.sit.glob⟩
  ·rw [locCopy_cell_h];exact s.low hp r.sit.heap r.low
  ·rw [locCopy_og] at hm;exact (r.og u k hm).shift s r.sit.heap
end
section
variable {X:Ctx} {base N:Nat} {st st':St} {a:Act} {w:World} {g:Gh} {call:CallF} {o:Oper}
def Goes (X:Ctx) (base N:Nat) (st':St) (g:Gh) (w:World) (K:Act→World→Prop):Prop :=
 ∀ a' w' g',Later g w g' w' → Rel X base N st' a' w' g' → K a' w'
def dstPos (o:Oper):Own:=.slot (o.dst.getD 0)
theorem dstPos_pos (o:Oper):IsPos (dstPos o):=⟨_,0,0,.inl rfl⟩
theorem dstPos_eq {o:Oper} {d:Nat} (h:o.dst = some d):dstPos o = .slot d:=by simp [dstPos,h]
theorem step_val {x:V} (hv:valOp X call (st.get X) st.h o = some x) (hN:dstOk N o = true) (r:Rel X base N st a w g) (hc:CallPOk X call) {K:Act→World→Prop} {Q:Exit→Act→World→Prop}
  (hK:Goes X base N (st.put o.dst x) g w K):o.wp X.P a w K Q:=by
 refine val_sound hv (r.ops o) r.sit hc (dstPos_pos o) (fun v w' g' k hr=>?_)
 refine hK _ w' g' (k.later r.sit.fresh) ((r.keep k).put hN fun d hd=>?_)
 rw [← dstPos_eq hd]
 exact hr
theorem step_move {t:Tmp} (hop:o.op = .move (.tmp t)) (hN:dstOk N o = true) (r:Rel X base N st a w g) {K:Act→World→Prop} {Q:Exit→Act→World→Prop}
  (hK:Goes X base N (setOg (st.put o.dst (st.get X (.tmp t)).copy) o.dst (.slot t)) g w K):o.wp X.P a w K Q:=by
 have hrun:(execOp a.eval o).run X.P w = .ok (.value (a.tmps.getD t undef)) w:=by unfold execOp;simp [hop,Act.eval]
 refine wp_value hrun (hK _ w g (Later.refl g w) ?_)
 have h1:=r.put (o:=o) (v:=a.tmps.getD t undef) (x:=(st.get X (.tmp t)).copy) hN (fun d _=>(r.slots t).copy)
 refine h1.setOg fun d hd=>?_
 have hda:d < a.tmps.size:=by
  have hdN:d < N:=by simpa [dstOk,hd] using hN
  exact Nat.lt_of_lt_of_le hdN r.size
 simp only [OgOk,hd]
 rw [getD_put hda,getD_put hda,if_pos rfl]
 split <;> rfl
theorem step_load {t:TypeId} {p:Operand} {id off:Nat} {x:V} (hop:o.op = .load t p) (hag:isAggT X.P t = false) (hp:st.get X p = .obj id off) (hx:loadOp X (st.get X) st.h t p = some x) (hN:dstOk N o = true)
  (r:Rel X base N st a w g) {K:Act→World→Prop} {Q:Exit→Act→World→Prop} (hK:Goes X base N (setOg (st.put o.dst x) o.dst (.cell id off)) g w K):o.wp X.P a w K Q:=by
 obtain ⟨q,hq⟩:=r.get p
 obtain ⟨u,h1,h2⟩:=load_sound hx hq r.sit.heap (dstPos o)
 have hrun:(execOp a.eval o).run X.P w = .ok (.value u) w:=by unfold execOp;simp [hop,h1]
 refine wp_value hrun (hK _ w g (Later.refl g w) ?_)
 have h3:=r.put (o:=o) (v:=u) (x:=x) hN (fun d hd=>by rw [← dstPos_eq hd];exact h2)
 refine h3.setOg fun d hd=>?_
 have hda:d < a.tmps.size:=by
  have hdN:d < N:=by simpa [dstOk,hd] using hN
  exact Nat.lt_of_lt_of_le hdN r.size
 rw [hp] at hq
 generalize a.eval p = vp at hq h1
 cases hq with
 | obj _ _ _ b hb =>
  refine ⟨b,hb,?_⟩
  rw [hd,getD_put hda,if_pos rfl]
  have cellEx:∃ u',w.cell? ⟨b,off,none⟩ = some u':=by
   unfold loadOp at hx
   rw [hp] at hx
   simp only at hx
   obtain ⟨ob,ho,hr⟩:=r.sit.heap.get hb
   rw [ho] at hx
   have na:∀ gg,aggT X.P t = some gg→gg = false:=by
    intro gg hgg
    unfold isAggT at hag
    unfold aggT at hgg
    cases hu:X.P.underlying t with
    | none=>simp [hu] at hgg
    | some dd=>cases dd <;> simp_all
   cases ob with
   | cells vs =>
    obtain ⟨vals,T,k1,k2,_,_⟩:=hr
    obtain ⟨n,gg,_,hg,_,k4,_⟩:=partV_spec (X:=X) hx
    have hlt:=k4 (na gg hg)
    refine ⟨vals[off]'(by omega),?_⟩
    rw [cell_of_heap k1]
    simp [k2,hlt]
   | frozen ds =>
    obtain ⟨vals,T,k1,k2,_,_⟩:=hr
    cases hpd:partD X.P t ds off with
    | none=>simp [hpd] at hx
    | some dd =>
     obtain ⟨n,gg,_,hg,_,k4,_⟩:=partD_spec hpd
     have hlt:=k4 (na gg hg)
     refine ⟨vals[off]'(by omega),?_⟩
     rw [cell_of_heap k1]
     simp [k2,hlt]
   | _=>simp at hx
  obtain ⟨u',hu'⟩:=cellEx
  have hagg:aggT X.P t = some false:=by
   have hrr:∃ gg,aggT X.P t = some gg:=by
    unfold loadOp at hx
    rw [hp] at hx
    simp only at hx
    split at hx
    ·rename_i c _
     cases hpd:partD X.P t c off with
     | none=>simp [hpd] at hx
     | some dd=>obtain ⟨n,gg,_,hg,_⟩:=partD_spec hpd;exact ⟨gg,hg⟩
    ·obtain ⟨n,gg,_,hg,_⟩:=partV_spec (X:=X) hx;exact ⟨gg,hg⟩
    ·cases hx
   obtain ⟨gg,hg⟩:=hrr
   unfold isAggT at hag
   unfold aggT at hg ⊢
   cases hu:X.P.underlying t with
   | none=>simp [hu] at hg
   | some dd=>cases dd <;> simp_all
  simp only [Instr.loadAt,Instr.sureAddr,Sem.run_bind,Sem.run_pure,Result.andThen_ok,loadVar,run_aggT hagg,Bool.false_eq_true,if_false,run_load,hu'] at h1
  rw [hu']
  simp at h1
  rw [h1]
theorem step_assign {t:Tmp} (hop:o.op = .assign (.tmp t)) (hN:dstOk N o = true) (r:Rel X base N st a w g) {K:Act→World→Prop} {Q:Exit→Act→World→Prop}
  (hK:Goes X base N ((locCopy st (.slot t)).put o.dst (st.get X (.tmp t))) g w K):o.wp X.P a w K Q:=by
 have hrun:(execOp a.eval o).run X.P w = .ok (.value (a.tmps.getD t undef)) w:=by unfold execOp;simp [hop,Act.eval]
 have hslot:=r.slots t
 by_cases ht:∃ E c n,lookT t st.s = .tail E c n
 ·obtain ⟨E,c,n,ht⟩:=ht
  rw [ht] at hslot
  generalize hve:a.tmps.getD t undef = v at hslot
  have hslot':=hslot
  cases hslot with
  | tail0 =>
   have sh:Shift (.slot t) g w g w:=(Keep.refl r.sit.fresh).shift r.sit.fresh _
   have hr1:=r.shift (l:=.slot t) sh
   refine wp_value hrun (hK _ w _ sh.later (hr1.put hN fun d hd=>?_))
   rw [hve]
   simp only [St.get,ht]
   exact .tail0 _ _ _
  | tail _ _ _ _ b cap cur z vals hz hz0 hb hn hm hcur hcl he ho hp hvv hr =>
   have sh:=shift_give (q:=dstPos o) r.sit.fresh ho hp
   have hr1:=r.shift (l:=.slot t) sh
   refine wp_value hrun (hK _ w _ sh.later (hr1.put hN fun d hd=>?_))
   rw [hve]
   simp only [St.get,ht]
   rw [← dstPos_eq hd]
   exact .tail _ E c n b cap cur z vals hz hz0 hb hn hm hcur hcl he (by simp [Gh.give]) (dstPos_pos o) hvv hr
 ·have hcp:locCopy st (.slot t) = st:=by
   simp only [locCopy]
   split
   ·rename_i E c n h;exact (ht ⟨E,c,n,h⟩).elim
   ·rfl
  rw [hcp] at hK
  refine wp_value hrun (hK _ w g (Later.refl g w) (r.put hN fun d _=>?_))
  exact hslot.place fun E c n h=>ht ⟨E,c,n,h⟩
theorem step_assign_const {x:Operand} (hop:o.op = .assign x) (hx:∀ t,x ≠ .tmp t) (hN:dstOk N o = true) (r:Rel X base N st a w g) {K:Act→World→Prop} {Q:Exit→Act→World→Prop}
  (hK:Goes X base N (st.put o.dst (nilTail X.P o.type x (st.get X x))) g w K):o.wp X.P a w K Q:=by
 have hrun:(execOp a.eval o).run X.P w = .ok (.value (a.eval x)) w:=by unfold execOp;simp [hop]
 refine wp_value hrun (hK _ w g (Later.refl g w) (r.put hN fun d _=>?_))
 obtain ⟨q,hq⟩:=r.get x
 have old:∀ q2,RepV X w g q2 (a.eval x) (st.get X x):=by
  intro q2
  refine hq.place fun E c n h=>?_
  cases x with
  | tmp t=>exact hx t rfl
  | const v=>simp [St.get] at h
  | global k=>simp only [St.get] at h;split at h <;> simp [und] at h
  | func f=>simp [St.get] at h
 unfold nilTail
 split
 ·split
  ·exact .tail0 _ _ _
  ·exact old _
 ·exact old _
theorem Rel.box (r:Rel X base N st a w g) {vals:List Value} {vs:List V} (hp:PtV X w g vals vs) (T:TypeId) (hN:dstOk N o = true) :
  Rel X base N ({ st with h:=st.h ++ [Ob.cells vs] }.put o.dst (.obj st.h.length 0)) (a.put o.dst (.pointer (some ⟨w.heap.size,0,none⟩))) (w.alloc (.cells ⟨vals⟩ T)) (g.box w.heap.size):=by
 have hf:=r.sit.fresh
 have k:=grow_box hf (.cells ⟨vals⟩ T)
 have hμ:(g.box w.heap.size).μ = g.μ ++ [w.heap.size]:=rfl
 have hnew:(g.box w.heap.size).μ[st.h.length]? = some w.heap.size:=by rw [hμ,← r.sit.heap.len];simp
 have hold:∀ (id b:Nat),id < st.h.length→(g.box w.heap.size).μ[id]? = some b→g.μ[id]? = some b:=by
  intro id b hid hb
  rw [hμ,List.getElem?_append_left (by rw [r.sit.heap.len];exact hid)] at hb
  exact hb
 refine rel_put r.defers r.size hN (fun t _=>k.repV hf (r.slots t)) ⟨k.fresh,⟨by simp [hμ,r.sit.heap.len],fun id b hb=>?_,fun id b ob hb ho=>?_⟩,?_⟩ ?_ (fun t l hm=>(r.og t l hm).grow k) (fun d _=>.obj _ _ _ _ hnew)
 ·by_cases hid:id < st.h.length
  ·have hb0:=hold id b hid hb
   rw [k.own b (r.sit.heap.lt hb0)]
   exact r.sit.heap.own id b hb0
  ·have hlt:=(List.getElem?_eq_some_iff.1 hb).1
   rw [hμ] at hlt
   simp [r.sit.heap.len] at hlt
   obtain rfl:id = st.h.length:=by omega
   rw [hnew] at hb
   cases hb
   simp [Gh.box,r.sit.heap.len]
 ·by_cases hid:id < st.h.length
  ·have hb0:=hold id b hid hb
   rw [List.getElem?_append_left hid] at ho
   exact k.repOb hf (r.sit.heap.ob id b ob hb0 ho)
  ·have hlt:=(List.getElem?_eq_some_iff.1 ho).1
   simp at hlt
   obtain rfl:id = st.h.length:=by omega
   rw [hnew] at hb
   cases hb
   simp at ho
   subst ho
   refine ⟨vals,T,heap_alloc_new w _,Nat.le_of_eq hp.1.symm,(hf _ (Nat.le_refl _)).2,fun j v x h1 h2=>?_⟩
   exact (k.repV hf (hp.2 j v x h1 h2)).anyPos
 ·exact r.sit.glob.later (k.later hf)
 ·refine r.low.grow hf k r.sit.heap.len (fun id ob hid ho=>?_) (by simp)
  rw [List.getElem?_append_left (Nat.lt_of_lt_of_le hid r.low.1)] at ho
  exact ho
theorem step_alloc {t:TypeId} {z:D} (hop:o.op = .alloc t) (hz:zeroT X.P t = some z) (hN:dstOk N o = true) (r:Rel X base N st a w g) {K:Act→World→Prop} {Q:Exit→Act→World→Prop}
  (hK:Goes X base N ({ st with h:=st.h ++ [Ob.cells (openZero X.P t z.cells)] }.put o.dst (.obj st.h.length 0)) g w K):o.wp X.P a w K Q:=by
 unfold zeroT at hz
 cases hi:X.P.info? t with
 | none=>simp [hi] at hz
 | some i =>
  simp only [hi] at hz
  cases hzz:i.zero with
  | none=>simp [hzz] at hz
  | some zv =>
   simp [hzz] at hz
   subst hz
   have hp:PtV X w g zv.cells.toList (openZero X.P t (D.ofVal 6 zv).cells):=openZero_rep 4 t
   have hz0:(zeroValue t).run X.P w = .ok zv w:=by simp [zeroValue,typeInfo,hi,hzz]
   have hrun:(execOp a.eval o).run X.P w = .ok (.value (.pointer (some ⟨w.heap.size,0,none⟩))) (w.alloc (.cells ⟨zv.cells.toList⟩ t)):=by
    unfold execOp
    simp [hop,Instr.alloc,hz0,newVar,newRow]
   refine wp_value hrun (hK _ _ _ ((grow_box r.sit.fresh _).later r.sit.fresh) (r.box hp t hN))
theorem step_box {t:TypeId} {x:Operand} (hop:o.op = .box t x) (hs:(st.get X x).sure = true) (hN:dstOk N o = true) (r:Rel X base N st a w g) {K:Act→World→Prop} {Q:Exit→Act→World→Prop}
  (hK:Goes X base N ({ st with h:=st.h ++ [Ob.cells (st.get X x).copy.cells] }.put o.dst (.obj st.h.length 0)) g w K):o.wp X.P a w K Q:=by
 obtain ⟨q,hq⟩:=r.get x
 have hp:=cells_rep hq hs
 have hrun:(execOp a.eval o).run X.P w = .ok (.value (.pointer (some ⟨w.heap.size,0,none⟩))) (w.alloc (.cells ⟨(a.eval x).cells.toList⟩ t)):=by
  unfold execOp
  simp [hop,Instr.box,newVar,newRow]
 refine wp_value hrun (hK _ _ _ ((grow_box r.sit.fresh _).later r.sit.fresh) (r.box hp t hN))
end
theorem one_valV {X:Ctx} {w:World} {g:Gh} {p:Own} {v:Value} {x:V} (r:RepV X w g p v x) (h:x.one = true):v.oneCell' = true:=by
 cases r with
 | d _ _ y hy=>exact one_val hy h
 | agg=>simp [V.one] at h
 | tup=>simp [V.one] at h
 | _=>rfl
theorem RepV.retrunc {X:Ctx} {w:World} {g:Gh} {n:Nat} {p:Own} {v:Value} {x:V} (r:RepV X w g p v x) (h:x.toD.isSome = true):RepV X w (g.trunc n) p v x:=by
 cases r with
 | d _ _ _ r=>exact .d _ _ _ r
 | tail _ E cells m b c cur z vals hz hz0 hb hn hm hcur hcl he ho hp hv hr=>exact .tail _ E cells m b c cur z vals hz hz0 hb hn hm hcur hcl he ho hp hv hr
 | tail0 _ E a0=>exact .tail0 _ E _
 | full _ _ _ _ _ r=>exact .full _ _ _ _ _ r
 | _=>simp [V.toD] at h
theorem toDs_some {xs:List V} (h:(toDs xs).isSome = true):∀ x ∈ xs,x.toD.isSome = true:=by
 obtain ⟨ds,hd⟩:=Option.isSome_iff_exists.1 h
 obtain ⟨h1,h2⟩:=toDs_spec xs ds hd
 intro x hx
 obtain ⟨j,hj,rfl⟩:=List.mem_iff_getElem.1 hx
 have:=h2 j xs[j] (ds[j]'(by omega)) (List.getElem?_eq_getElem hj) (List.getElem?_eq_getElem (by omega))
 rw [this];rfl
section
variable {X:Ctx} {base N:Nat} {st:St} {a:Act} {w:World} {g:Gh} {call:CallF} {o:Oper}
theorem Rel.store (r:Rel X base N st a w g) {id b off:Nat} {vs xs:List V} {us vals:List Value} {T:TypeId} (hid:g.μ[id]? = some b) (ho:st.h[id]? = some (.cells vs)) (hb:w.heap[b]? = some (.cells ⟨vals⟩ T (0,0)))
  (hvl:vs.length≤vals.length) (hl:us.length = xs.length) (hp:∀ (j:Nat) (v:Value) (x:V),us[j]? = some v→xs[j]? = some x→RepV X w g (.cell id (off + j)) v x) (hle:off + xs.length≤vs.length)
  (hbase:base≤id∨(toDs xs).isSome = true) :
  Rel X base N { s:=st.s,h:=st.h.set id (.cells (splice vs off xs)),og:=st.og.filter fun y=>match y.2 with | .cell i _=>i != id | _=>true } a (w.setRow b ⟨splice vals off us⟩) g∧Later g w g (w.setRow b ⟨splice vals off us⟩):=by
 have hown:=r.sit.heap.own id b hid
 have hou:∃ id,g.own b = .obj id:=⟨id,hown⟩
 have he:g.e b = 0:=by
  obtain ⟨_,_,_,_,h,_⟩:=r.sit.heap.ob id b _ hid ho
  exact h
 have hmod:Mod b w (w.setRow b ⟨splice vals off us⟩):=mod_setRow
 have hnew:(w.setRow b ⟨splice vals off us⟩).heap[b]? = some (.cells ⟨splice vals off us⟩ T (0,0)):=setRow_heap w b _ _ T (0,0) hb
 have hlt:id < st.h.length:=(List.getElem?_eq_some_iff.1 ho).1
 have hle':off + us.length≤vals.length:=by rw [hl];omega
 have box:∀ g2:Gh,g2.e = g.e→g2.own = g.own→(∀ (j:Nat) (v:Value) (x:V),vals[j]? = some v→vs[j]? = some x→RepV X w g2 (.cell id j) v x) →
   (∀ (j:Nat) (v:Value) (x:V),us[j]? = some v→xs[j]? = some x→RepV X w g2 (.cell id (off + j)) v x)→RepOb X (w.setRow b ⟨splice vals off us⟩) g2 id b (.cells (splice vs off xs)):=by
  intro g2 h1 h2 h3 h4
  have he2:g2.e b = 0:=by rw [h1];exact he
  have ho2:∃ id,g2.own b = .obj id:=by rw [h2];exact hou
  refine ⟨_,T,hnew,by rw [splice_length hle,splice_length hle'];exact hvl,he2,fun j v x i1 i2=>hmod.repV he2 ho2 ?_⟩
  rw [splice_get hle'] at i1
  rw [splice_get hle] at i2
  rw [hl] at i1
  split at i1
  ·rename_i hj;rw [if_pos hj] at i2;exact h3 j v x i1 i2
  ·rename_i hj
   rw [if_neg hj] at i2
   split at i1
   ·rename_i hj2
    rw [if_pos hj2] at i2
    have:=h4 (j - off) v x i1 i2
    rwa [show off + (j - off) = j from by omega] at this
   ·rename_i hj2;rw [if_neg hj2] at i2;exact h3 j v x i1 i2
 have hcells:∀ (j:Nat) (v:Value) (x:V),vals[j]? = some v→vs[j]? = some x→RepV X w g (.cell id j) v x:=by
  obtain ⟨vals',T',k1,k2,k3,k4⟩:=r.sit.heap.ob id b _ hid ho
  rw [hb] at k1
  cases k1
  exact k4
 refine ⟨⟨r.defers,r.size,fun t=>hmod.repV he hou (r.slots t),⟨?_,⟨by simpa using r.sit.heap.len,r.sit.heap.own,fun i b' ob hi hob=>?_⟩,hmod.glob he hou r.sit.glob⟩,⟨by simpa using r.low.1,fun n hn hel i b' ob hib hi hob=>?_,r.low.2.2⟩,fun t l hm=>?_⟩,hmod.later he hou⟩
 ·intro x hx;rw [hmod.size] at hx;exact r.sit.fresh x hx
 ·by_cases hii:i = id
  ·subst hii
   rw [hid] at hi;cases hi
   rw [List.getElem?_set_self hlt] at hob
   cases hob
   exact box g rfl rfl hcells hp
  ·rw [List.getElem?_set_ne (fun hh=>hii hh.symm)] at hob
   exact hmod.repOb he hou (fun hh=>hii (by subst hh;exact r.sit.heap.inj hi hid)) (r.sit.heap.ob i b' ob hi hob)
 ·have heT:(g.trunc n).e b = 0:=he
  have houT:∃ id,(g.trunc n).own b = .obj id:=hou
  by_cases hii:i = id
  ·subst hii
   rw [hid] at hi;cases hi
   rw [List.getElem?_set_self hlt] at hob
   cases hob
   have hd:(toDs xs).isSome = true:=by
    rcases hbase with h | h
    ·omega
    ·exact h
   refine box (g.trunc n) rfl rfl ?_ fun j v x i1 i2=>(hp j v x i1 i2).retrunc (toDs_some hd x (List.mem_of_getElem? i2))
   obtain ⟨vals',T',k1,k2,k3,k4⟩:=r.low.2.1 n hn hel i b _ hib hid ho
   rw [hb] at k1
   cases k1
   exact k4
  ·rw [List.getElem?_set_ne (fun hh=>hii hh.symm)] at hob
   exact hmod.repOb heT houT (fun hh=>hii (by subst hh;exact r.sit.heap.inj hi hid)) (r.low.2.1 n hn hel i b' ob hib hi hob)
 ·simp only [List.mem_filter] at hm
  obtain ⟨h1,h2⟩:=hm
  have hok:=r.og t l h1
  cases l with
  | slot u=>exact hok
  | cell i j =>
   obtain ⟨b',k1,k2⟩:=hok
   have hne:i ≠ id:=by simpa using h2
   have hbb:b' ≠ b:=fun hh=>hne (by subst hh;exact r.sit.heap.inj k1 hid)
   exact ⟨b',k1,(World.cell?_of_block (w:=w) (a:=⟨b',j,none⟩) (hmod.block b' hbb)).trans k2⟩
theorem run_storeVar {P:Program} {w:World} {b off t n T:Nat} {vals:List Value} {v:Value} (hn:sizeT P t = some n) (hb:w.heap[b]? = some (.cells ⟨vals⟩ T (0,0))) (hs:v.cells.size = n) (hle:off + n≤vals.length)
  (h1:∀ u ∈ v.cells.toList,u.oneCell' = true):(storeVar t ⟨b,off,none⟩ v).run P w = .ok () (w.setRow b ⟨splice vals off v.cells.toList⟩):=by
 have hst:=run_storeCells_at (P:=P) b off T v.cells.toList 0 ⟨vals⟩ w hb (by show off + 0 + v.cells.toList.length≤vals.length;rw [Array.length_toList,hs];omega) h1
 simp only [Nat.add_zero] at hst
 simp only [storeVar,Sem.run_bind,run_sizeT hn,Result.andThen_ok,hs,ne_eq,not_true_eq_false,if_false,hst]
 rfl
theorem step_store {t:TypeId} {p x:Operand} {st':St} (hop:o.op = .store t p x) (hst:storeOp X base st t p x = some st') (hN:dstOk N o = true) (r:Rel X base N st a w g) {K:Act→World→Prop} {Q:Exit→Act→World→Prop}
  (hK:Goes X base N (st'.put o.dst undefV) g w K):o.wp X.P a w K Q:=by
 unfold storeOp at hst
 split at hst
 ·rename_i id off n hρ hn
  split at hst
  ·rename_i vs hob
   simp only at hst
   split at hst
   ·rename_i hc
    obtain ⟨hsure,hxl,hle,hone,hbase⟩:=hc
    simp only [Option.some.injEq] at hst
    obtain ⟨q,hq⟩:=r.get p
    rw [hρ] at hq
    obtain ⟨qx,hqx⟩:=r.get x
    have hcr:=cells_rep hqx hsure
    generalize hvp:a.eval p = vp at hq
    cases hq with
    | obj _ _ _ b hb =>
     obtain ⟨vals,T,k1,k2,k3,k4⟩:=r.sit.heap.ob id b _ hb hob
     have hcl:(st.get X x).copy.cells.length = (st.get X x).cells.length:=by
      cases st.get X x <;> rfl
     have hcs:(a.eval x).cells.size = n:=by rw [← Array.length_toList,hcr.1,hcl];exact hxl
     have hones:∀ u ∈ (a.eval x).cells.toList,u.oneCell' = true:=by
      intro u hu
      obtain ⟨j,hj,rfl⟩:=List.mem_iff_getElem.1 hu
      have hj2:j < (st.get X x).copy.cells.length:=by rw [← hcr.1];exact hj
      refine one_valV (hcr.2 j _ _ (List.getElem?_eq_getElem hj) (List.getElem?_eq_getElem hj2)) ?_
      simp only [List.all_eq_true] at hone
      by_cases ht:∃ E c m,st.get X x = .tail E c m
      ·obtain ⟨E,c,m,ht⟩:=ht
       have:(st.get X x).copy.cells = [.d (.sl c m)]:=by rw [ht];rfl
       simp [this]
       rfl
      ·have hcp:(st.get X x).copy = st.get X x:=by
        cases hx:st.get X x with
        | tail E c m=>exact (ht ⟨E,c,m,hx⟩).elim
        | _=>rfl
       have hj3:j < (st.get X x).cells.length:=by rw [← hcl];exact hj2
       have:=hone (st.get X x).cells[j] (List.getElem_mem hj3)
       simpa [hcp] using this
     have hrun:(execOp a.eval o).run X.P w = .ok .skip (w.setRow b ⟨splice vals off (a.eval x).cells.toList⟩):=by
      unfold execOp
      simp only [hop,hvp,Instr.storeAt,Instr.sureAddr,Sem.run_bind,Sem.run_pure,Result.andThen_ok,run_storeVar hn k1 hcs (Nat.le_trans hle k2) hones]
     have fin:∀ (st1:St) (g1:Gh),Later g w g1 w→Rel X base N st1 a w g1→st1.h = st.h→g1.μ = g.μ →
       (∀ (j:Nat) (v:Value) (y:V),(a.eval x).cells.toList[j]? = some v→(st.get X x).cells[j]? = some y→RepV X w g1 (.cell id (off + j)) v y) →
       st' = { s:=st1.s,h:=st1.h.set id (.cells (splice vs off (st.get X x).cells)),og:=st1.og.filter fun y=>match y.2 with | .cell i _=>i != id | _=>true } → o.wp X.P a w K Q:=by
      intro st1 g1 hl1 r1 hh hμ hcell hst1
      obtain ⟨r2,hl2⟩:=r1.store (id:=id) (b:=b) (off:=off) (vs:=vs) (xs:=(st.get X x).cells) (us:=(a.eval x).cells.toList) (vals:=vals) (T:=T) (by rw [hμ];exact hb) (by rw [hh];exact hob) k1 k2 (by rw [hcr.1,hcl]) hcell (by rw [hxl];exact hle) hbase
      unfold Oper.wp
      rw [hrun]
      subst hst1
      exact hK _ _ g1 (hl1.trans hl2) (r2.put hN fun d _=>.d _ _ _ (.tup [] [] rfl (by simp)))
     have nontail:(¬ ∃ E c m,st.get X x = .tail E c m)→(st.get X x).copy = st.get X x:=by
      intro ht
      cases hx:st.get X x with
      | tail E c m=>exact (ht ⟨E,c,m,hx⟩).elim
      | _=>rfl
     have plain:(¬ ∃ E c m,st.get X x = .tail E c m)→∀ (j:Nat) (v:Value) (y:V),(a.eval x).cells.toList[j]? = some v→(st.get X x).cells[j]? = some y→RepV X w g (.cell id (off + j)) v y:=by
      intro ht j v y h1 h2
      have:=hcr.2 j v y h1 (by rw [nontail ht];exact h2)
      exact this.anyPos
     cases x with
     | tmp ts =>
      simp only at hst
      by_cases ht:∃ E c m,st.get X (.tmp ts) = .tail E c m
      ·obtain ⟨E,c,m,ht⟩:=ht
       have hslot:=r.slots ts
       have hlk:lookT ts st.s = .tail E c m:=ht
       rw [hlk] at hslot
       generalize hve:a.tmps.getD ts undef = v at hslot
       cases hslot with
       | tail0 _ _ ad =>
        have sh:Shift (.slot ts) g w g w:=(Keep.refl r.sit.fresh).shift r.sit.fresh _
        have r1:=r.shift (l:=.slot ts) sh
        refine fin _ _ sh.later r1 (locCopy_h ts) rfl (fun j v' y h1 h2=>?_) hst.symm
        rw [ht] at h2
        have hev:a.eval (.tmp ts) = .slice ad 0 0:=hve
        rw [hev] at h1
        cases j with
        | zero =>
         simp [V.cells] at h2
         simp [Value.cells] at h1
         subst h1;subst h2
         exact .tail0 _ _ _
        | succ j=>simp [V.cells] at h2
       | tail _ _ _ _ b2 cap cur z vals2 hz hz0 hb2 hn2 hm2 hcur hcl2 he2 ho2 hp2 hvv hr2 =>
        have hposc:IsPos (.cell id off):=⟨0,id,off,.inr rfl⟩
        have sh:=shift_give (q:=.cell id off) r.sit.fresh ho2 hp2
        have r1:=r.shift (l:=.slot ts) sh
        refine fin _ _ sh.later r1 (locCopy_h ts) rfl (fun j v' y h1 h2=>?_) hst.symm
        rw [ht] at h2
        have hev:a.eval (.tmp ts) = .slice (some ⟨b2,0,none⟩) m cap:=hve
        rw [hev] at h1
        cases j with
        | zero =>
         simp [V.cells] at h2
         simp [Value.cells] at h1
         subst h1;subst h2
         exact .tail _ E c m b2 cap cur z vals2 hz hz0 hb2 hn2 hm2 hcur hcl2 he2 (by simp [Gh.give]) hposc hvv hr2
        | succ j=>simp [V.cells] at h2
      ·have hcp:locCopy st (.slot ts) = st:=by
        simp only [locCopy]
        split
        ·rename_i E c m h;exact (ht ⟨E,c,m,h⟩).elim
        ·rfl
       rw [hcp] at hst
       exact fin st g (Later.refl g w) r rfl rfl (plain ht) hst.symm
     | const v=>exact fin st g (Later.refl g w) r rfl rfl (plain (by rintro ⟨E,c,m,h⟩;simp [St.get] at h)) hst.symm
     | global k=>exact fin st g (Later.refl g w) r rfl rfl (plain (by rintro ⟨E,c,m,h⟩;simp only [St.get] at h;split at h <;> simp [und] at h)) hst.symm
     | func f=>exact fin st g (Later.refl g w) r rfl rfl (plain (by rintro ⟨E,c,m,h⟩;simp [St.get] at h)) hst.symm
   ·cases hst
  ·cases hst
 ·cases hst
theorem step_storeNil {t:TypeId} {p x:Operand} {st':St} (hop:o.op = .store t p x) (hst:storeNil X st t p x = some st') (hN:dstOk N o = true) (r:Rel X base N st a w g) {K:Act→World→Prop} {Q:Exit→Act→World→Prop}
  (hK:Goes X base N (st'.put o.dst undefV) g w K):o.wp X.P a w K Q:=by
 unfold storeNil at hst
 split at hst
 ·rename_i hcnd
  simp only [Bool.and_eq_true] at hcnd
  have hx:x = .const (.slice none 0 0):=by
   have hn:=hcnd.2
   unfold nilConst at hn
   split at hn
   ·rfl
   ·cases hn
  subst hx
  split at hst
  ·rename_i id off E hρ hn hE
   split at hst
   ·rename_i vs hob
    split at hst
    ·rename_i hle
     simp only [Option.some.injEq] at hst
     obtain ⟨q,hq⟩:=r.get p
     rw [hρ] at hq
     generalize hvp:a.eval p = vp at hq
     cases hq with
     | obj _ _ _ b hb =>
      obtain ⟨vals,T,k1,k2,k3,k4⟩:=r.sit.heap.ob id b _ hb hob
      have hrun:(execOp a.eval o).run X.P w = .ok .skip (w.setRow b ⟨splice vals off [Value.slice none 0 0]⟩):=by
       unfold execOp
       have hev:a.eval (.const (.slice none 0 0)) = .slice none 0 0:=rfl
       simp only [hop,hvp,hev,Instr.storeAt,Instr.sureAddr,Sem.run_bind,Sem.run_pure,Result.andThen_ok,run_storeVar (v:=.slice none 0 0) hn k1 (by rfl) (Nat.le_trans hle k2) (by intro u hu;simp [Value.cells] at hu;subst hu;rfl)]
       rfl
      obtain ⟨r2,hl2⟩:=r.store (id:=id) (b:=b) (off:=off) (vs:=vs) (xs:=[V.tail E [] 0]) (us:=[Value.slice none 0 0]) (vals:=vals) (T:=T) hb hob k1 k2 rfl (by
       intro j v y h1 h2
       cases j with
       | zero=>simp at h1 h2;subst h1;subst h2;exact .tail0 _ _ _
       | succ j=>simp at h2) (by simpa using hle) (.inr rfl)
      unfold Oper.wp
      rw [hrun]
      subst hst
      exact hK _ _ g hl2 (r2.put hN fun d _=>.d _ _ _ (.tup [] [] rfl (by simp)))
    ·cases hst
   ·cases hst
  ·cases hst
 ·cases hst
theorem step_storeOr {t:TypeId} {p x:Operand} {st':St} (hop:o.op = .store t p x) (hst:storeOr X base st t p x = some st') (hN:dstOk N o = true) (r:Rel X base N st a w g) {K:Act→World→Prop} {Q:Exit→Act→World→Prop}
  (hK:Goes X base N (st'.put o.dst undefV) g w K):o.wp X.P a w K Q:=by
 unfold storeOr at hst
 split at hst
 ·rename_i s hs
  cases hst
  exact step_storeNil hop hs hN r hK
 ·exact step_store hop hst hN r hK
end
def CallIOk (X:Ctx) (call:CallF):Prop :=
 ∀ f args h y h',call.i f args h = some (y,h')→∀ (w:World) (g:Gh) (vargs:List Value),Sit X w g h→PtV X w g vargs args→∀ p,IsPos p →
  ∃ fn,X.P.funcs[f]? = some fn∧(fn.name == "runtime.NumGoroutine") = false∧((∃ c,fn.body = some c)∧Calls X.P f ⟨vargs⟩ w fun E w' => ∃ v g',E = .returned v∧Later g w g' w' ∧ Sit X w' g' h' ∧ RepV X w' g' p v y ∧
   (∀ (id b:Nat),g.μ[id]? = some b→g'.μ[id]? = some b)∧(∀ (b t:Nat),g.own b = .slot t→w'.heap[b]? = w.heap[b]? ∧ g'.own b = .slot t∧g'.e b = g.e b)∧∀ base,Low X w g base h→Low X w' g' base h')
section
variable {X:Ctx} {base N:Nat} {st:St} {a:Act} {w:World} {g:Gh} {call:CallF} {o:Oper}
theorem zero_size {P:Program} {E:TypeId} {i:TypeInfo} (hi:P.info? E = some i) (h:(zeroT P E).any (fun z=>z.cells.length == i.size) = true):∃ zv,i.zero = some zv∧zv.cells.size = i.size:=by
 unfold zeroT at h
 simp only [hi] at h
 cases hz:i.zero with
 | none=>simp [hz] at h
 | some zv =>
  simp [hz] at h
  refine ⟨zv,rfl,?_⟩
  have:=(cells_ofVal (w:=default) (e:=fun _=>0) 4 zv).1
  rw [Array.length_toList] at this
  rw [this]
  exact h
theorem og_rep (r:Rel X base N st a w g) {s:Operand} {l:Loc} {E':TypeId} {c0:List D} {n:Nat} (hl:ogOf st s = some l) (hlg:locGet st l = some (.tail E' c0 n)):RepV X w g (posOf l) (a.eval s) (.tail E' c0 n):=by
 cases s with
 | tmp ts =>
  simp only [ogOf] at hl
  cases hfd:st.og.find? (fun x=>x.1 == ts) with
  | none=>simp [hfd] at hl
  | some e =>
   simp [hfd] at hl
   have hmem:=List.mem_of_find?_eq_some hfd
   have he1:e.1 = ts:=by have:=List.find?_some hfd;simpa using this
   have hok:=r.og ts l (by rw [← he1,← hl];exact hmem)
   cases l with
   | slot u' =>
    simp only [locGet,Option.some.injEq] at hlg
    have hslot:=r.slots u'
    rw [hlg] at hslot
    have:a.eval (.tmp ts) = a.tmps.getD u' undef:=hok
    rw [this]
    exact hslot
   | cell id j =>
    obtain ⟨b,k1,k2⟩:=hok
    simp only [locGet] at hlg
    obtain ⟨ob,ho,hr⟩:=r.sit.heap.get k1
    rw [ho] at hlg
    cases ob with
    | cells vs =>
     obtain ⟨vals,T,i1,i2,i3,i4⟩:=hr
     simp only at hlg
     rw [cell_of_heap i1] at k2
     exact i4 j (a.tmps.getD ts undef) _ (show vals[j]? = some (a.tmps.getD ts undef) from by rw [← k2];simp) hlg
    | _=>simp at hlg
 | _=>simp [ogOf] at hl
theorem step_assign_own {t:Tmp} {l:Loc} {E:TypeId} {c:List D} {n:Nat} (hop:o.op = .assign (.tmp t)) (hl:ogOf st (.tmp t) = some l) (hlg:locGet st l = some (.tail E c n)) (hN:dstOk N o = true) (r:Rel X base N st a w g) {K:Act→World→Prop} {Q:Exit→Act→World→Prop}
  (hK:Goes X base N ((locCopy st l).put o.dst (.tail E c n)) g w K):o.wp X.P a w K Q:=by
 have hrun:(execOp a.eval o).run X.P w = .ok (.value (a.tmps.getD t undef)) w:=by unfold execOp;simp [hop,Act.eval]
 have hslot:RepV X w g (posOf l) (a.tmps.getD t undef) (.tail E c n):=og_rep r hl hlg
 generalize hve:a.tmps.getD t undef = v at hslot
 cases hslot with
 | tail0 =>
  have sh:Shift (posOf l) g w g w:=(Keep.refl r.sit.fresh).shift r.sit.fresh _
  have hr1:=r.shift (l:=l) sh
  refine wp_value hrun (hK _ w _ sh.later (hr1.put hN fun d hd=>?_))
  rw [hve]
  exact .tail0 _ _ _
 | tail _ _ _ _ b cap cur z vals hz hz0 hb hn hm hcur hcl he ho hp hvv hr =>
  have sh:=shift_give (q:=dstPos o) r.sit.fresh ho hp
  have hr1:=r.shift (l:=l) sh
  refine wp_value hrun (hK _ w _ sh.later (hr1.put hN fun d hd=>?_))
  rw [hve]
  rw [← dstPos_eq hd]
  exact .tail _ E c n b cap cur z vals hz hz0 hb hn hm hcur hcl he (by simp [Gh.give]) (dstPos_pos o) hvv hr
theorem step_append {c:Call} {s x:Operand} {t u:TypeId} {st1:St} {y:V} (hop:o.op = .call c) (hc:c.callee = .builtin .append) (hargs:c.args.toList = [s,x]) (hts:c.argTypes.toList = [t,u])
  (hst:appendOp X st t u s x = some (st1,y)) (hN:dstOk N o = true) (r:Rel X base N st a w g) {K:Act→World→Prop} {Q:Exit→Act→World→Prop}
  (hK:Goes X base N (st1.put o.dst y) g w K):o.wp X.P a w K Q:=by
 have hargs':c.args = #[s,x]:=by apply Array.ext';simpa using hargs
 have hts':c.argTypes = #[t,u]:=by apply Array.ext';simpa using hts
 have hrun:∀ v w',(Builtin.append_ #[t,u] o.type #[a.eval s,a.eval x]).run X.P w = .ok v w' → (execOp a.eval o).run X.P w = .ok (.value v) w':=by
  intro v w' h
  unfold execOp
  simp [hop,resolve,hc,hargs',hts',invoke,builtin,h]
 unfold appendOp at hst
 split at hst
 ·rename_i E i cs m hE hEi hsrc
  split at hst
  ·rename_i hcond
   simp only [Bool.and_eq_true,bne_iff_ne,ne_eq,beq_iff_eq] at hcond
   obtain ⟨⟨⟨hs0,hlen⟩,hone⟩,hzero⟩:=hcond
   simp only [hE,Option.bind_some] at hEi
   obtain ⟨zv,hz,hzs⟩:=zero_size hEi hzero
   obtain ⟨qx,hqx⟩:=r.get x
   obtain ⟨hu,news,hsr,hpt⟩:=src_rep hsrc hlen hqx
   have k:AppOk X w g t u E m i zv (a.eval x) cs news:=⟨elemT_under hE,hu,hEi,hz,hzs,Nat.pos_of_ne_zero hs0,hsr,hpt,hlen,hone⟩
   have hf:=r.sit.fresh
   have full:∀ (c0:List D) (n:Nat),(((∃ ad,a.eval s = .slice ad 0 0)∧c0 = [] ∧ n = 0)∨∃ b o',a.eval s = .slice (some ⟨b,o',none⟩) n n∧RepD w g.e (a.eval s) (.sl c0 n))→c0.length = n * i.size→0 < m→(n + m) * i.bytes≤bigLen→n + m≤bigLen →
     st1 = st→y = .tail E (c0 ++ cs) (n + m)→o.wp X.P a w K Q:=by
    intro c0 n hv hcl hm hb1 hb2 hs1 hy
    obtain ⟨v',w',g',h1,h2,h3⟩:=append_full (ty:=o.type) k hf hv hcl hm hb1 hb2 (dstPos_pos o)
    subst hs1;subst hy
    refine wp_value (hrun _ _ h1) (hK _ w' g' (h2.later hf) ((r.keep h2).put hN fun d hd=>?_))
    rw [← dstPos_eq hd];exact h3
   have tail:∀ (l:Loc) (c0:List D) (n:Nat),RepV X w g (posOf l) (a.eval s) (.tail E c0 n)→c0.length = n * i.size→(n + m) * i.bytes≤bigLen→n + m≤bigLen →
     st1 = locCopy st l→y = .tail E (c0 ++ cs) (n + m)→o.wp X.P a w K Q:=by
    intro l c0 n hv hcl hb1 hb2 hs1 hy
    obtain ⟨v',w',g',h1,h2,h3⟩:=append_tail (ty:=o.type) k hf hv hcl hb1 hb2 (dstPos_pos o)
    subst hs1;subst hy
    refine wp_value (hrun _ _ h1) (hK _ w' g' h2.later ((r.shift h2).put hN fun d hd=>?_))
    rw [← dstPos_eq hd];exact h3
   simp only at hst
   split at hst
   ·
    rename_i hs
    have hev:a.eval s = .slice none 0 0:=by
     obtain ⟨q,hq⟩:=r.get s
     rw [hs] at hq
     generalize a.eval s = v at hq
     cases hq with | d _ _ _ hq=>cases hq;rfl
    split at hst
    ·rename_i hm
     simp at hst
     obtain ⟨rfl,rfl⟩:=hst
     subst hm
     have:=append_none (ty:=o.type) k (ad:=none) (n:=0) (cap:=0) (Nat.le_refl _)
     refine wp_value (hrun _ _ (by rw [hev];exact this)) (hK _ w g (Later.refl g w) (r.put hN fun d _=>.d _ _ _ .nilsl))
    ·rename_i hm
     split at hst
     ·rename_i hb
      simp at hst
      obtain ⟨rfl,rfl⟩:=hst
      exact full [] 0 (.inl ⟨⟨none,hev⟩,rfl,rfl⟩) (by simp) (by omega) (by simpa using hb.1) (by simpa using hb.2) rfl (by simp)
     ·simp at hst
   ·
    rename_i c0 n hs
    obtain ⟨q,hq⟩:=r.get s
    rw [hs] at hq
    generalize hve:a.eval s = v at hq
    cases hq with
    | full _ b o' _ _ hr =>
     split at hst
     ·rename_i hm
      simp at hst
      obtain ⟨rfl,rfl⟩:=hst
      subst hm
      have:=append_none (ty:=o.type) k (ad:=some ⟨b,o',none⟩) (n:=n) (cap:=n) (Nat.le_refl _)
      exact wp_value (hrun _ _ (by rw [hve];exact this)) (hK _ w g (Later.refl g w) (r.put hN fun d _=>.full _ _ _ _ _ hr))
     ·rename_i hm
      split at hst
      ·rename_i hcl
       split at hst
       ·rename_i hb
        simp at hst
        obtain ⟨rfl,rfl⟩:=hst
        exact full c0 n (.inr ⟨b,o',hve,by rw [hve];exact hr⟩) hcl.1 (by omega) hb.1 hb.2 rfl rfl
       ·simp at hst
      ·cases hst
   ·
    rename_i E' c0 n hs
    split at hst
    ·rename_i hcond2
     obtain ⟨rfl,hcl⟩:=hcond2
     cases s with
     | tmp ts =>
      simp only at hst
      split at hst
      ·rename_i hb
       simp at hst
       obtain ⟨h1,h2⟩:=hst
       have hslot:=r.slots ts
       have hlk:lookT ts st.s = .tail E' c0 n:=hs
       rw [hlk] at hslot
       exact tail (.slot ts) c0 n hslot hcl hb.1 hb.2 h1.symm h2.symm
      ·simp at hst
     | _=>simp at hst
    ·cases hst
   ·
    split at hst
    ·rename_i l hl
     split at hst
     ·rename_i E' c0 n hlg
      split at hst
      ·rename_i hcond2
       obtain ⟨rfl,hcl⟩:=hcond2
       split at hst
       ·rename_i hb
        simp at hst
        obtain ⟨h1,h2⟩:=hst
        refine tail l c0 n ?_ hcl hb.1 hb.2 h1.symm h2.symm
        exact og_rep r hl hlg
       ·simp at hst
      ·cases hst
     ·cases hst
    ·cases hst
  ·cases hst
 ·cases hst
theorem step_callI {c:Call} {f:Operand} {gf:FuncId} {ca cb:List V} {y:V} {h':List Ob} (hop:o.op = .call c) (hc:c.callee = .value f) (hcal:calleeOf (st.get X f) = some (gf,ca,cb))
  (hst:call.i gf (ca ++ copies (st.get X) c.args ++ cb) st.h = some (y,h')) (hci:CallIOk X call) (hN:dstOk N o = true) (r:Rel X base N st a w g) {K:Act→World→Prop} {Q:Exit→Act→World→Prop}
  (hK:Goes X base N ({ s:=st.s,h:=h',og:=[]:St }.put o.dst y) g w K):o.wp X.P a w K Q:=by
 obtain ⟨q,hq⟩:=r.get f
 obtain ⟨ua,ub,hve,ha,hb⟩:=calleeOf_val hq hcal
 have hcs:=copies_rep (X:=X) (w:=w) (g:=g) (a:=a) (ρ:=st.get X) (xs:=c.args) (fun x _=>r.get x)
 obtain ⟨fn,hfn,hname,⟨cbody,hcb⟩,hcalls⟩:=hci gf _ _ y h' hst w g _ r.sit ((ha.append hcs).append hb) (dstPos o) (dstPos_pos o)
 have hrun:=run_call_value (P:=X.P) hop hc hve hfn hname (by simp [hcb]) w
 unfold Oper.wp
 rw [hrun]
 refine hcalls.mono ?_
 rintro E w' ⟨v,g',rfl,hl,hsit,hrv,hμ,hsl,hlow⟩
 refine hK _ w' g' hl (rel_put (st':={ s:=st.s,h:=h',og:=[] }) r.defers r.size hN (fun t _=>?_) hsit (hlow base r.low) (by simp) fun d hd=>by rw [← dstPos_eq hd];exact hrv)
 have gen:∀ (p:Own) (v:Value) (x:V),(p = .slot t∨p = .free)→RepV X w g p v x→RepV X w' g' p v x:=by
  intro p v x hp hr
  induction hr with
  | d p v x hr=>exact .d p v x (hr.mono hl.cells hl.e)
  | tail p E cells n b c cur z vals hz hz0 hb hn hm hcur hcl he ho hpos hv hr =>
   rcases hp with rfl | rfl
   ·obtain ⟨h1,h2,h3⟩:=hsl b t ho
    exact .tail _ E cells n b c cur z vals hz hz0 (h1.trans hb) hn hm hcur hcl (h3.trans he) h2 hpos hv fun j v d k1 k2=>(hr j v d k1 k2).mono hl.cells hl.e
   ·exact (IsPos.ne_free hpos rfl).elim
  | tail0 _ E a0=>exact .tail0 _ E _
  | full p b o cells n hr=>exact .full p b o cells n (hr.mono hl.cells hl.e)
  | obj p id off b hr=>exact .obj p id off b (hμ _ _ hr)
  | osl p id off n c b hr hn=>exact .osl p id off n c b (hμ _ _ hr) hn
  | clo p fn va vb a b hla hlb _ _ iha ihb=>exact .clo p fn va vb a b hla hlb (fun j v x h1 h2=>iha j v x h1 h2 (.inr rfl)) (fun j v x h1 h2=>ihb j v x h1 h2 (.inr rfl))
  | agg p vals vs hl' _ ih=>exact .agg p vals vs hl' (fun j v x h1 h2=>ih j v x h1 h2 (.inr rfl))
  | tup p vals vs hl' _ ih=>exact .tup p vals vs hl' (fun j v x h1 h2=>ih j v x h1 h2 (.inr rfl))
  | mp p id b hr=>exact .mp p id b (hμ _ _ hr)
  | it p id b hr=>exact .it p id b (hμ _ _ hr)
 exact gen _ _ _ (.inl rfl) (r.slots t)
theorem step_sound {st':St} (hst:stepOp X call base o st = some st') (hN:dstOk N o = true) (r:Rel X base N st a w g) (hc:CallPOk X call) (hci:CallIOk X call) {K:Act→World→Prop} {Q:Exit→Act→World→Prop}
  (hK:Goes X base N st' g w K):o.wp X.P a w K Q:=by
 unfold stepOp at hst
 split at hst
 ·rename_i x hv
  split at hst
  ·rename_i t hop
   simp at hst
   subst hst
   have hx:x = (st.get X (.tmp t)).copy:=by
    unfold valOp at hv;rw [hop] at hv;simpa using hv.symm
   subst hx
   exact step_move hop hN r hK
  ·rename_i t p hop
   have hl:loadOp X (st.get X) st.h t p = some x:=by
    unfold valOp at hv;rw [hop] at hv;exact hv
   split at hst
   ·rename_i id off hag hp
    simp at hst
    subst hst
    exact step_load hop hag hp hl hN r hK
   ·simp at hst
    subst hst
    exact step_val hv hN r hc hK
  ·simp at hst
   subst hst
   exact step_val hv hN r hc hK
 ·split at hst
  ·rename_i x hop
   split at hst
   ·rename_i tt
    split at hst
    ·rename_i rr hown
     simp at hst;subst hst
     unfold ownMove at hown
     split at hown
     ·split at hown
      ·rename_i l hl
       split at hown
       ·rename_i E c n hlg
        simp at hown;subst hown
        exact step_assign_own hop hl hlg hN r hK
       ·cases hown
      ·cases hown
     ·cases hown
    ·simp at hst;subst hst;exact step_assign hop hN r hK
   ·rename_i hx
    simp at hst
    subst hst
    exact step_assign_const hop (fun t ht=>hx t ht) hN r hK
  ·rename_i t hop
   split at hst
   ·rename_i z hz
    split at hst
    ·simp at hst;subst hst;exact step_alloc hop hz hN r hK
    ·cases hst
   ·cases hst
  ·rename_i t x hop
   simp only at hst
   split at hst
   ·rename_i hcnd
    simp only [Bool.and_eq_true] at hcnd
    simp at hst
    subst hst
    exact step_box hop hcnd.1 hN r hK
   ·cases hst
  ·rename_i t p x hop
   cases hs:storeOr X base st t p x with
   | none=>simp [hs] at hst
   | some s1=>simp [hs] at hst;subst hst;exact step_storeOr hop hs hN r hK
  ·rename_i c hop
   split at hst
   ·rename_i hcal
    split at hst
    ·rename_i s x t u hargs hts
     cases hs:appendOp X st t u s x with
     | none=>simp [hs] at hst
     | some r1 =>
      simp [hs] at hst
      subst hst
      exact step_append hop hcal hargs hts hs hN r hK
    ·cases hst
   ·rename_i f hcal
    split at hst
    ·rename_i gf ca cb hce
     cases hs:call.i gf (ca ++ copies (st.get X) c.args ++ cb) st.h with
     | none=>rw [hs] at hst;simp only [Option.map_none] at hst;cases hst
     | some r1 =>
      rw [hs] at hst
      simp only [Option.map_some,Option.some.injEq] at hst
      subst hst
      exact step_callI hop hcal hce hs hci hN r hK
    ·cases hst
   ·cases hst
  ·cases hst
end
section
variable {X:Ctx} {base N:Nat} {st:St} {a:Act} {w:World} {g:Gh} {call:CallF} {o:Oper}
theorem Rel.boxAt (r:Rel X base N st a w g):(g.box w.heap.size).μ[st.h.length]? = some w.heap.size:=by
 show (g.μ ++ [w.heap.size])[st.h.length]? = some w.heap.size
 rw [← r.sit.heap.len];simp
theorem Rel.newOb (r:Rel X base N st a w g) {ob:Ob} {obj:Obj} {y:V} {v:Value}
  (hob:RepOb X (w.alloc obj) (g.box w.heap.size) st.h.length w.heap.size ob)
  (hv:∀ p,RepV X (w.alloc obj) (g.box w.heap.size) p v y) (hN:dstOk N o = true) :
  Rel X base N ({ st with h:=st.h ++ [ob] }.put o.dst y) (a.put o.dst v) (w.alloc obj) (g.box w.heap.size):=by
 have hf:=r.sit.fresh
 have k:=grow_box hf obj
 have hμ:(g.box w.heap.size).μ = g.μ ++ [w.heap.size]:=rfl
 have hnew:=r.boxAt
 have hold:∀ (id b:Nat),id < st.h.length→(g.box w.heap.size).μ[id]? = some b→g.μ[id]? = some b:=by
  intro id b hid hb
  rw [hμ,List.getElem?_append_left (by rw [r.sit.heap.len];exact hid)] at hb
  exact hb
 refine rel_put r.defers r.size hN (fun t _=>k.repV hf (r.slots t)) ⟨k.fresh,⟨by simp [hμ,r.sit.heap.len],fun id b hb=>?_,fun id b ob' hb ho=>?_⟩,?_⟩ ?_ (fun t l hm=>(r.og t l hm).grow k) (fun d _=>hv _)
 ·by_cases hid:id < st.h.length
  ·have hb0:=hold id b hid hb
   rw [k.own b (r.sit.heap.lt hb0)]
   exact r.sit.heap.own id b hb0
  ·have hlt:=(List.getElem?_eq_some_iff.1 hb).1
   rw [hμ] at hlt
   simp [r.sit.heap.len] at hlt
   obtain rfl:id = st.h.length:=by omega
   rw [hnew] at hb
   cases hb
   simp [Gh.box,r.sit.heap.len]
 ·by_cases hid:id < st.h.length
  ·have hb0:=hold id b hid hb
   rw [List.getElem?_append_left hid] at ho
   exact k.repOb hf (r.sit.heap.ob id b ob' hb0 ho)
  ·have hlt:=(List.getElem?_eq_some_iff.1 ho).1
   simp at hlt
   obtain rfl:id = st.h.length:=by omega
   rw [hnew] at hb
   cases hb
   simp at ho
   subst ho
   exact hob
 ·exact r.sit.glob.later (k.later hf)
 ·refine r.low.grow hf k r.sit.heap.len (fun id ob hid ho=>?_) (by simp)
  rw [List.getElem?_append_left (Nat.lt_of_lt_of_le hid r.low.1)] at ho
  exact ho
theorem mod_set {w:World} {b:Nat} {ob:Obj}:Mod b w { w with heap:=w.heap.setIfInBounds b ob } where
 os:=rfl
 tape:=rfl
 output:=rfl
 size:=by simp
 block:=fun x hx=>by simp [Ne.symm hx]
theorem Rel.setOb (r:Rel X base N st a w g) {id b:Nat} {ob ob':Ob} {w':World} (hid:g.μ[id]? = some b) (ho:st.h[id]? = some ob) (hmod:Mod b w w') (he:g.e b = 0)
  (hnew:∀ g2:Gh,g2.e = g.e→RepOb X w' g2 id b ob') :
  Rel X base N { s:=st.s,h:=st.h.set id ob',og:=ogBut id st.og } a w' g∧Later g w g w':=by
 have hown:=r.sit.heap.own id b hid
 have hou:∃ id,g.own b = .obj id:=⟨id,hown⟩
 have hlt:id < st.h.length:=(List.getElem?_eq_some_iff.1 ho).1
 refine ⟨⟨r.defers,r.size,fun t=>hmod.repV he hou (r.slots t),⟨?_,⟨by simpa using r.sit.heap.len,r.sit.heap.own,fun i b' ob2 hi hob=>?_⟩,hmod.glob he hou r.sit.glob⟩,⟨by simpa using r.low.1,fun n hn hel i b' ob2 hib hi hob=>?_,r.low.2.2⟩,fun t l hm=>?_⟩,hmod.later he hou⟩
 ·intro x hx;rw [hmod.size] at hx;exact r.sit.fresh x hx
 ·by_cases hii:i = id
  ·subst hii
   rw [hid] at hi;cases hi
   rw [List.getElem?_set_self hlt] at hob
   cases hob
   exact hnew g rfl
  ·rw [List.getElem?_set_ne (fun hh=>hii hh.symm)] at hob
   exact hmod.repOb he hou (fun hh=>hii (by subst hh;exact r.sit.heap.inj hi hid)) (r.sit.heap.ob i b' ob2 hi hob)
 ·have heT:(g.trunc n).e b = 0:=he
  have houT:∃ id,(g.trunc n).own b = .obj id:=hou
  by_cases hii:i = id
  ·subst hii
   rw [hid] at hi;cases hi
   rw [List.getElem?_set_self hlt] at hob
   cases hob
   exact hnew (g.trunc n) rfl
  ·rw [List.getElem?_set_ne (fun hh=>hii hh.symm)] at hob
   exact hmod.repOb heT houT (fun hh=>hii (by subst hh;exact r.sit.heap.inj hi hid)) (r.low.2.1 n hn hel i b' ob2 hib hi hob)
 ·simp only [ogBut,List.mem_filter] at hm
  obtain ⟨h1,h2⟩:=hm
  have hok:=r.og t l h1
  cases l with
  | slot u=>exact hok
  | cell i j =>
   obtain ⟨b',k1,k2⟩:=hok
   have hne:i ≠ id:=by simpa using h2
   have hbb:b' ≠ b:=fun hh=>hne (by subst hh;exact r.sit.heap.inj k1 hid)
   exact ⟨b',k1,(World.cell?_of_block (w:=w) (a:=⟨b',j,none⟩) (hmod.block b' hbb)).trans k2⟩
theorem step_plain {v:Value} {y:V} (hrun:(execOp a.eval o).run X.P w = .ok (.value v) w) (hv:∀ p,RepV X w g p v y) (hN:dstOk N o = true) (r:Rel X base N st a w g) {K:Act→World→Prop} {Q:Exit→Act→World→Prop}
  (hK:Goes X base N (st.put o.dst y) g w K):o.wp X.P a w K Q :=
 wp_value hrun (hK _ _ _ (Later.refl g w) (r.put hN fun _ _=>hv _))
theorem step_range {t:TypeId} {x:Operand} {s:List UInt8} (hop:o.op = .range t x) (ht:X.P.underlying t = some .string) (hx:st.get X x = .d (.str s)) (hN:dstOk N o = true) (r:Rel X base N st a w g) {K:Act→World→Prop} {Q:Exit→Act→World→Prop}
  (hK:Goes X base N ({ st with h:=st.h ++ [Ob.iter s 0] }.put o.dst (.it st.h.length)) g w K):o.wp X.P a w K Q:=by
 obtain ⟨q,hq⟩:=r.get x
 rw [hx] at hq
 generalize hve:a.eval x = v at hq
 cases hq with
 | d _ _ _ hd =>
  cases hd
  have hrun:(execOp a.eval o).run X.P w = .ok (.value (.pointer (some ⟨w.heap.size,0,none⟩))) (w.alloc (.stringIter ⟨s.toArray⟩ 0)):=by
   unfold execOp
   simp [hop,hve,Instr.range,run_underlying ht]
  refine wp_value hrun (hK _ _ _ ((grow_box r.sit.fresh _).later r.sit.fresh) (r.newOb ⟨heap_alloc_new w _,(r.sit.fresh _ (Nat.le_refl _)).2⟩ (fun p=>.it p _ _ r.boxAt) hN))
theorem step_next {it:Operand} {id pos:Nat} {s:List UInt8} (hop:o.op = .next it true) (hx:st.get X it = .it id) (hh:st.h[id]? = some (.iter s pos)) (hN:dstOk N o = true) (r:Rel X base N st a w g) {K:Act→World→Prop} {Q:Exit→Act→World→Prop}
  (hK:Goes X base N (if pos < s.length then { s:=st.s,h:=st.h.set id (.iter s (pos + (Utf8.decode ⟨s.toArray⟩ pos).2)),og:=ogBut id st.og:St }.put o.dst (.d (.tup [.bool true,.int .i64 pos,.int .i32 (Utf8.decode ⟨s.toArray⟩ pos).1])) else st.put o.dst (.d (.tup [.bool false]))) g w K):o.wp X.P a w K Q:=by
 obtain ⟨q,hq⟩:=r.get it
 rw [hx] at hq
 generalize hve:a.eval it = v at hq
 cases hq with
 | it _ _ b hb =>
  obtain ⟨k1,k2⟩:=r.sit.heap.ob id b _ hb hh
  by_cases hp:pos < s.length
  ·rw [if_pos hp] at hK
   have hp':pos < (⟨s.toArray⟩:ByteArray).size:=by simpa [ByteArray.size] using hp
   have hrun:(execOp a.eval o).run X.P w = .ok (.value (.tuple #[.bool true,.int .i64 pos,.int .i32 (Utf8.decode ⟨s.toArray⟩ pos).1])) { w with heap:=w.heap.setIfInBounds b (.stringIter ⟨s.toArray⟩ (pos + (Utf8.decode ⟨s.toArray⟩ pos).2)) }:=by
    unfold execOp
    have:=Lib.run_next_any_at (P:=X.P) w b ⟨s.toArray⟩ pos o.type k1 hp'
    simp [hop,hve,this,World.iterAt]
   have hbl:b < w.heap.size:=(Array.getElem?_eq_some_iff.1 k1).1
   obtain ⟨r2,hl⟩:=r.setOb (ob':=.iter s (pos + (Utf8.decode ⟨s.toArray⟩ pos).2)) hb hh (mod_set (ob:=.stringIter ⟨s.toArray⟩ (pos + (Utf8.decode ⟨s.toArray⟩ pos).2))) k2 (fun g2 h2=>⟨by simp [hbl],by rw [h2];exact k2⟩)
   refine wp_value hrun (hK _ _ _ hl (r2.put hN fun d _=>.d _ _ _ (.tup _ _ rfl fun j v d h1 h2=>?_)))
   match j with
   | 0=>simp at h1 h2;subst h1;subst h2;exact .bool _
   | 1=>simp at h1 h2;subst h1;subst h2;exact .int _ _
   | 2=>simp at h1 h2;subst h1;subst h2;exact .int _ _
   | j + 3=>simp at h1
  ·rw [if_neg hp] at hK
   have hpa:¬ pos < s.toArray.size:=by simpa using hp
   have hrun:(execOp a.eval o).run X.P w = .ok (.value (.tuple #[.bool false])) w:=by
    unfold execOp
    have:=Lib.run_next_end_at (P:=X.P) w b ⟨s.toArray⟩ pos o.type k1 (by simpa [ByteArray.size] using hp)
    simp [hop,hve,this]
   refine step_plain hrun (fun p=>.d _ _ _ (.tup _ _ rfl fun j v d h1 h2=>?_)) hN r hK
   match j with
   | 0=>simp at h1 h2;subst h1;subst h2;exact .bool _
   | j + 1=>simp at h1
end
open Go Go.MapKept
theorem keyOk_rep {P:Program} {kt:TypeId} {kd:D} (h:keyOk P kt kd = true) {w:World} {e:Nat→Nat} {v:Value} (r:RepD w e v kd):∃ d,P.underlying kt = some d∧IsKey d v:=by
 unfold keyOk at h
 split at h
 ·rename_i k k' n hu;cases r;exact ⟨_,hu,by simpa [IsKey] using h⟩
 ·rename_i s hu;cases r;exact ⟨_,hu,trivial⟩
 ·rename_i b hu;cases r;exact ⟨_,hu,trivial⟩
 ·cases h
theorem keySame_rep {d:TypeDesc} {a b:D} {x:Bool} (h:keySame a b = some x) {w:World} {e:Nat→Nat} {u v:Value} (ru:RepD w e u a) (rv:RepD w e v b) (hk:IsKey d u) :
  Instr.sameNow d u v = some x∧(x = true→u = v):=by
 unfold keySame at h
 split at h
 ·rename_i k m k' m'
  cases ru;cases rv
  split at h
  ·rename_i hkk
   subst hkk
   simp at h
   cases d <;> simp [IsKey] at hk
   refine ⟨by simp [Instr.sameNow,h],fun hx=>?_⟩
   subst hx
   have:m = m':=by simpa using h
   rw [this]
  ·cases h
 ·rename_i s s'
  cases ru;cases rv
  simp at h
  cases d <;> simp [IsKey] at hk
  refine ⟨?_,fun hx=>?_⟩
  ·simp only [Instr.sameNow]
   congr 1
   rw [← h]
   show (⟨s.toArray⟩ == (⟨s'.toArray⟩:ByteArray)) = (s == s')
   by_cases hs:s = s'
   ·subst hs;rw [(bytes_beq _ _).2 rfl];simp
   ·rw [show (s == s') = false by simpa using hs]
    cases hb:(⟨s.toArray⟩ == (⟨s'.toArray⟩:ByteArray)) with
    | false=>rfl
    | true =>
     have:=congrArg (fun b:ByteArray=>b.data.toList) ((bytes_beq _ _).1 hb)
     exact absurd (by simpa using this) hs
  ·subst hx
   have:s = s':=by simpa using h
   rw [this]
 ·rename_i s s'
  cases ru;cases rv
  simp at h
  cases d <;> simp [IsKey] at hk
  refine ⟨by simp [Instr.sameNow,h],fun hx=>?_⟩
  subst hx
  have:s = s':=by simpa using h
  rw [this]
 ·cases h
theorem mapFind_rep {d:TypeDesc} {kd:D} {w:World} {e:Nat→Nat} {kv:Value} (rk:RepD w e kv kd) (hk:IsKey d kv):∀ (es:List (D × D)) (ens:List MapEntry) (i:Nat) (r:Option (Nat × D)),
  ens.length = es.length→(∀ (j:Nat) (en:MapEntry) (x:D × D),ens[j]? = some en→es[j]? = some x→RepD w e en.key x.1∧RepD w e en.val x.2)→mapFind kd es i = some r →
  match r with
  | none=>Instr.findNow d kv ens i = some none
  | some (j,xd)=>∃ en xk,Instr.findNow d kv ens i = some (some (j,en.val))∧RepD w e en.val xd∧i≤j∧ens[j - i]? = some en∧es[j - i]? = some (xk,xd)∧en.key = kv
 | [],[],i,r,_,_,h=>by simp [mapFind] at h;subst h;rfl
 | [],_ :: _,_,_,hl,_,_=>by simp at hl
 | _ :: _,[],_,_,hl,_,_=>by simp at hl
 | x :: es,en :: ens,i,r,hl,hr,h=>by
  obtain ⟨h1,h2⟩:=hr 0 en x rfl rfl
  simp only [mapFind] at h
  split at h
  ·rename_i hs
   obtain ⟨k1,k2⟩:=keySame_rep hs rk h1 hk
   simp at h
   subst h
   exact ⟨en,x.1,by simp [Instr.findNow,k1],h2,Nat.le_refl _,by simp,by simp,(k2 rfl).symm⟩
  ·rename_i hs
   obtain ⟨k1,_⟩:=keySame_rep hs rk h1 hk
   have ih:=mapFind_rep rk hk es ens (i + 1) r (by simpa using hl) (fun j en x a b=>hr (j + 1) en x (by simpa using a) (by simpa using b)) h
   cases r with
   | none=>simp only at ih ⊢;simp [Instr.findNow,k1,ih]
   | some jx =>
    obtain ⟨j,xd⟩:=jx
    obtain ⟨en',xk,i1,i2,i3,i4,i5,i6⟩:=ih
    refine ⟨en',xk,by simp [Instr.findNow,k1,i1],i2,by omega,?_,?_,i6⟩
    ·rw [show j - i = (j - (i + 1)) + 1 by omega];simpa using i4
    ·rw [show j - i = (j - (i + 1)) + 1 by omega];simpa using i5
  ·cases h
theorem keyLit_rep {P:Program} {kt:TypeId} {d:D} {l:List UInt8} (h:keyLit P kt d = some l) {w:World} {e:Nat→Nat} {v:Value} (r:RepD w e v d):keyOf P kt v = some (.string l):=by
 unfold keyLit at h
 split at h
 ·rename_i u hu
  rw [r.toVal u hu]
  split at h
  ·rename_i s hs
   cases h
   exact hs
  ·cases h
 ·cases h
theorem mapFindW_spec {P:Program} {kt:TypeId} {k:List UInt8}:∀ (es:List (D × D)) (i:Nat) (r:Option (Nat × D)),mapFindW P kt k es i = some r →
  (∀ e ∈ es,∃ l,keyLit P kt e.1 = some l) ∧
  match r with
  | none=>∀ (j:Nat) (e:D × D),es[j]? = some e→keyLit P kt e.1 ≠ some k
  | some (j,xd)=>∃ xk,i≤j∧es[j - i]? = some (xk,xd)∧keyLit P kt xk = some k∧∀ (j':Nat) (e:D × D),es[j']? = some e→keyLit P kt e.1 = some k→j' = j - i
 | [],i,r,h=>by simp [mapFindW] at h;subst h;simp
 | x :: es,i,r,h=>by
  simp only [mapFindW] at h
  split at h
  ·rename_i l r0 hl hr0
   obtain ⟨h1,h2⟩:=mapFindW_spec es (i + 1) r0 hr0
   have hall:∀ e ∈ x :: es,∃ l,keyLit P kt e.1 = some l:=by
    intro e he
    rcases List.mem_cons.1 he with rfl | he
    ·exact ⟨l,hl⟩
    ·exact h1 e he
   refine ⟨hall,?_⟩
   split at h
   ·rename_i hlk
    subst hlk
    cases r0 with
    | some _=>cases h
    | none =>
     simp at h
     subst h
     refine ⟨x.1,Nat.le_refl _,by simp,hl,fun j' e he hk=>?_⟩
     cases j' with
     | zero=>simp
     | succ j' => exact absurd hk (h2 j' e (by simpa using he))
   ·rename_i hlk
    simp at h
    subst h
    have hx:∀ e:D × D,(x :: es)[0]? = some e→keyLit P kt e.1 ≠ some k:=by
     intro e he
     simp at he
     subst he
     rw [hl]
     exact fun hh=>hlk (by injection hh)
    cases r0 with
    | none =>
     intro j e he
     cases j with
     | zero=>exact hx e he
     | succ j=>exact h2 j e (by simpa using he)
    | some jx =>
     obtain ⟨j,xd⟩:=jx
     obtain ⟨xk,i1,i2,i3,i4⟩:=h2
     refine ⟨xk,by omega,?_,i3,fun j' e he hk=>?_⟩
     ·rw [show j - i = (j - (i + 1)) + 1 by omega];simpa using i2
     ·cases j' with
      | zero=>exact absurd hk (hx e he)
      | succ j' => have:=i4 j' e (by simpa using he) hk;omega
  ·cases h
theorem findW_rep {P:Program} {kt:TypeId} {kd:D} {es:List (D × D)} {r:Option (Nat × D)} (h:findW P kt kd es = some r) {w:World} {e:Nat→Nat} {kv:Value} (rk:RepD w e kv kd) {ens:List MapEntry}
  (hl:ens.length = es.length) (hr:∀ (j:Nat) (en:MapEntry) (x:D × D),ens[j]? = some en→es[j]? = some x→RepD w e en.key x.1∧RepD w e en.val x.2) :
  (∀ em,(Instr.checkKey em 10000 kt kv).run P w = .ok () w)∧(Instr.keyThatStays kv kv).run P w = .ok kv w ∧
  match r with
  | none=>(Instr.findKey kt kv ens).run P w = .ok none w
  | some (j,xd)=>∃ en xk,(Instr.findKey kt kv ens).run P w = .ok (some (j,en.val)) w∧RepD w e en.val xd∧ens[j]? = some en∧es[j]? = some (xk,xd)∧en.key = kv:=by
 unfold findW at h
 split at h
 ·rename_i hw
  unfold keyWide at hw
  simp only [Bool.and_eq_true] at hw
  obtain ⟨⟨w1,w2⟩,w3⟩:=hw
  have K:WideMaps.KeyLaw P kt:=deep_law (m:=4) (by omega) w2 w3 w1
  split at h
  ·rename_i l hkl
   have hkv:=keyLit_rep hkl rk
   obtain ⟨s1,s2⟩:=mapFindW_spec es 0 r h
   have both:∀ (j:Nat) (en:MapEntry),ens[j]? = some en→∃ x,es[j]? = some x∧∃ l,keyLit P kt x.1 = some l∧keyOf P kt en.key = some (.string l):=by
    intro j en hen
    have hlt:j < es.length:=by rw [← hl];exact (List.getElem?_eq_some_iff.1 hen).1
    obtain ⟨l',hl'⟩:=s1 es[j] (List.getElem_mem hlt)
    exact ⟨es[j],List.getElem?_eq_getElem hlt,l',hl',keyLit_rep hl' (hr j en _ hen (List.getElem?_eq_getElem hlt)).1⟩
   have hall:∀ en ∈ ens,∃ l,keyOf P kt en.key = some l:=by
    intro en hen
    obtain ⟨j,hj,rfl⟩:=List.mem_iff_getElem.1 hen
    obtain ⟨x,_,l',_,h4⟩:=both j _ (List.getElem?_eq_getElem hj)
    exact ⟨_,h4⟩
   refine ⟨fun em=>K.check w em hkv,K.stays w hkv,?_⟩
   rcases K.find w hkv ens hall with ⟨f1,f2⟩ | ⟨j',en,f1,f2,f3⟩
   ·cases r with
    | none=>exact f1
    | some jx =>
     obtain ⟨j,xd⟩:=jx
     obtain ⟨xk,_,i2,i3,_⟩:=s2
     have hlt:j < ens.length:=by rw [hl];exact (List.getElem?_eq_some_iff.1 (by simpa using i2)).1
     have he:ens[j]? = some ens[j]:=List.getElem?_eq_getElem hlt
     have hk2:=keyLit_rep i3 (hr j _ _ he (by simpa using i2)).1
     exact absurd (K.inj hk2 hkv) (f2 _ (List.getElem_mem hlt))
   ·obtain ⟨x,e1,l',e2,e3⟩:=both j' en f2
    rw [f3,hkv] at e3
    simp only [Option.some.injEq,Lit.string.injEq] at e3
    subst e3
    cases r with
    | none=>exact absurd e2 (s2 j' x e1)
    | some jx =>
     obtain ⟨j,xd⟩:=jx
     obtain ⟨xk,_,i2,i3,i4⟩:=s2
     have hj:j' = j:=by simpa using i4 j' x e1 e2
     subst hj
     have i2':es[j']? = some (xk,xd):=by simpa using i2
     exact ⟨en,xk,f1,(hr j' en _ f2 i2').2,f2,i2',f3⟩
  ·cases h
 ·cases h
theorem tup2 {w:World} {e:Nat→Nat} {v:Value} {d:D} (h:RepD w e v d) (b:Bool):RepD w e (.tuple #[v,.bool b]) (.tup [d,.bool b]) :=
 .tup _ _ rfl fun j x y h1 h2=>by
  match j with
  | 0=>simp at h1 h2;subst h1;subst h2;exact h
  | 1=>simp at h1 h2;subst h1;subst h2;exact .bool _
  | j + 2=>simp at h1
theorem zeroT_run {X:Ctx} {t:TypeId} {z:D} (hz:zeroT X.P t = some z) (w:World) (e:Nat→Nat):∃ zv,(zeroValue t).run X.P w = .ok zv w∧RepD w e zv z:=by
 unfold zeroT at hz
 cases hi:X.P.info? t with
 | none=>simp [hi] at hz
 | some i =>
  simp only [hi] at hz
  cases hzz:i.zero with
  | none=>simp [hzz] at hz
  | some zv =>
   simp [hzz] at hz
   subst hz
   exact ⟨zv,by simp [zeroValue,typeInfo,hi,hzz],RepD.ofVal 6 zv⟩
section
variable {X:Ctx} {base N:Nat} {st:St} {a:Act} {w:World} {g:Gh} {call:CallF} {o:Oper}
theorem step_makeMap {t kt et:TypeId} {x:Option Operand} (hop:o.op = .makeMap t x) (ht:X.P.underlying t = some (.map kt et)) (hx:x = none∨∃ y k n,x = some y∧st.get X y = .d (.int k n)) (hN:dstOk N o = true) (r:Rel X base N st a w g) {K:Act→World→Prop} {Q:Exit→Act→World→Prop}
  (hK:Goes X base N ({ st with h:=st.h ++ [Ob.map [] 0] }.put o.dst (.mp st.h.length)) g w K):o.wp X.P a w K Q:=by
 have hrun:(execOp a.eval o).run X.P w = .ok (.value (.map (some w.heap.size))) (w.alloc (.map #[] 0)):=by
  unfold execOp
  rcases hx with rfl | ⟨y,k,n,rfl,hy⟩
  ·simp [hop,Instr.makeMap]
  ·obtain ⟨q,hq⟩:=r.get y
   rw [hy] at hq
   generalize hve:a.eval y = v at hq
   cases hq with
   | d _ _ _ hd=>cases hd;simp [hop,hve,Instr.makeMap,run_underlying ht,asInt,asIntOf]
 exact wp_value hrun (hK _ _ _ ((grow_box r.sit.fresh _).later r.sit.fresh) (r.newOb ⟨#[],heap_alloc_new w _,rfl,(r.sit.fresh _ (Nat.le_refl _)).2,by simp⟩ (fun p=>.mp p _ _ r.boxAt) hN))
theorem mapOf_rep {x:V} {es:List (D × D)} (h:mapOf st.h x = some es) (r:RepH X w g st.h) {q:Own} {v:Value} (hv:RepV X w g q v x) :
  (v = .map none∧es = [])∨∃ b ens ck,v = .map (some b)∧w.heap[b]? = some (.map ens ck)∧ens.size = es.length∧∀ (j:Nat) (en:MapEntry) (kd:D × D),ens[j]? = some en→es[j]? = some kd→RepD w g.e en.key kd.1∧RepD w g.e en.val kd.2:=by
 unfold mapOf at h
 split at h
 ·rename_i id
  split at h
  ·rename_i es' ck hh
   simp at h
   subst h
   cases hv with
   | mp _ _ b hb =>
    obtain ⟨ens,k1,k2,k3,k4⟩:=r.ob id b _ hb hh
    exact .inr ⟨b,ens,ck,rfl,k1,k2,k4⟩
  ·cases h
 ·simp at h
  subst h
  cases hv with
  | d _ _ _ hd=>cases hd;exact .inl ⟨rfl,rfl⟩
 ·cases h
theorem step_lookup {t:TypeId} {x k:Operand} {ok:Bool} {y:V} (hop:o.op = .lookup t x k ok) (hy:mapGet X st t x k ok = some y) (hN:dstOk N o = true) (r:Rel X base N st a w g) {K:Act→World→Prop} {Q:Exit→Act→World→Prop}
  (hK:Goes X base N (st.put o.dst y) g w K):o.wp X.P a w K Q:=by
 unfold mapGet lookV at hy
 split at hy
 ·rename_i kt et ht
  split at hy
  ·rename_i es kd hes hkd
   have key:∀ (res:Option (Nat × D)),(∀ (kv:Value),RepD w g.e kv kd→∀ ens:List MapEntry,ens.length = es.length→(∀ (j:Nat) (en:MapEntry) (x:D × D),ens[j]? = some en→es[j]? = some x→RepD w g.e en.key x.1∧RepD w g.e en.val x.2) →
     (∀ em,(Instr.checkKey em 10000 kt kv).run X.P w = .ok () w) ∧
     match res with
     | none=>(Instr.findKey kt kv ens).run X.P w = .ok none w
     | some (j,xd)=>∃ en:MapEntry,(Instr.findKey kt kv ens).run X.P w = .ok (some (j,en.val)) w∧RepD w g.e en.val xd) →
     (match res with | some (_,v)=>some (if ok then V.d (.tup [v,.bool true]) else .d v) | none=>(zeroT X.P et).map fun z=>if ok then V.d (.tup [z,.bool false]) else .d z) = some y→o.wp X.P a w K Q:=by
    intro res hfind hy
    obtain ⟨q,hq⟩:=r.get k
    rw [hkd] at hq
    obtain ⟨qx,hqx⟩:=r.get x
    generalize hke:a.eval k = kv at hq
    generalize hxe:a.eval x = xv at hqx
    cases hq with
    | d _ _ _ rk =>
     have main:∃ ens:Array MapEntry,((xv = .map none∧ens = #[])∨∃ b ck,xv = .map (some b)∧w.heap[b]? = some (.map ens ck))∧ens.toList.length = es.length ∧
       ∀ (j:Nat) (en:MapEntry) (x:D × D),ens.toList[j]? = some en→es[j]? = some x→RepD w g.e en.key x.1∧RepD w g.e en.val x.2:=by
      rcases mapOf_rep hes r.sit.heap hqx with ⟨rfl,rfl⟩ | ⟨b,ens,ck,rfl,h1,h2,h3⟩
      ·exact ⟨#[],.inl ⟨rfl,rfl⟩,rfl,by simp⟩
      ·exact ⟨ens,.inr ⟨b,ck,rfl,h1⟩,by simpa using h2,fun j en x a b=>h3 j en x (by simpa using a) b⟩
     obtain ⟨ens,hens,hlen,hrep⟩:=main
     have fin:∀ v:Value,(execOp a.eval o).run X.P w = .ok (.value v) w→(∀ p,RepV X w g p v y)→o.wp X.P a w K Q:=fun v h1 h2=>step_plain h1 h2 hN r hK
     obtain ⟨hchk,hres⟩:=hfind kv rk ens.toList hlen hrep
     cases res with
     | some ix =>
      obtain ⟨i,xd⟩:=ix
      obtain ⟨en,f1,f2⟩:=hres
      have hrun:(execOp a.eval o).run X.P w = .ok (.value (if ok then .tuple #[en.val,.bool true] else en.val)) w:=by
       unfold execOp
       rcases hens with ⟨rfl,rfl⟩ | ⟨b,ck,rfl,hb⟩
       ·cases ok <;> simp [hop,hke,hxe,Instr.lookup,run_underlying ht,hchk,f1]
       ·cases ok <;> simp [hop,hke,hxe,Instr.lookup,run_underlying ht,MapKept.run_getObj_map hb,hchk,f1]
      refine fin _ hrun fun p=>?_
      simp at hy
      subst hy
      cases ok
      ·exact .d _ _ _ f2
      ·exact .d _ _ _ (tup2 f2 true)
     | none =>
      have f1:=hres
      simp only at f1
      cases hz:zeroT X.P et with
      | none=>simp [hz] at hy
      | some z =>
       simp [hz] at hy
       obtain ⟨zv,z1,z2⟩:=zeroT_run hz w g.e
       have hrun:(execOp a.eval o).run X.P w = .ok (.value (if ok then .tuple #[zv,.bool false] else zv)) w:=by
        unfold execOp
        rcases hens with ⟨rfl,rfl⟩ | ⟨b,ck,rfl,hb⟩
        ·cases ok <;> simp [hop,hke,hxe,Instr.lookup,run_underlying ht,hchk,f1,z1]
        ·cases ok <;> simp [hop,hke,hxe,Instr.lookup,run_underlying ht,MapKept.run_getObj_map hb,hchk,f1,z1]
       refine fin _ hrun fun p=>?_
       subst hy
       cases ok
       ·exact .d _ _ _ z2
       ·exact .d _ _ _ (tup2 z2 false)
   split at hy
   ·rename_i hko
    have old:∀ res,mapFind kd es 0 = some res→_:=fun res hf=>key res fun kv rk ens hl hr=>by
     obtain ⟨d,hud,hik⟩:=keyOk_rep hko rk
     have f:=mapFind_rep rk hik es ens 0 res hl hr hf
     refine ⟨fun em=>MapKept.run_checkKey hud hik em 9999,?_⟩
     cases res with
     | none=>exact MapKept.run_findKey hud f
     | some ix =>
      obtain ⟨en,xk,f1,f2,_⟩:=f
      exact ⟨en,MapKept.run_findKey hud f1,f2⟩
    split at hy
    ·rename_i i xd hf;exact old _ hf hy
    ·rename_i hf;exact old _ hf hy
    ·cases hy
   ·have new:∀ res,findW X.P kt kd es = some res→_:=fun res hf=>key res fun kv rk ens hl hr=>by
     obtain ⟨c1,_,c3⟩:=findW_rep hf rk hl hr
     refine ⟨c1,?_⟩
     cases res with
     | none=>exact c3
     | some ix =>
      obtain ⟨en,xk,f1,f2,_⟩:=c3
      exact ⟨en,f1,f2⟩
    split at hy
    ·rename_i i xd hf;exact new _ hf hy
    ·rename_i hf;exact new _ hf hy
    ·cases hy
  ·cases hy
 ·cases hy
theorem step_mapSet {t:TypeId} {m k x:Operand} {st':St} (hop:o.op = .mapUpdate t m k x∨o.op = .insert t m k x) (hy:mapSet X st t m k x = some st') (hN:dstOk N o = true) (r:Rel X base N st a w g) {K:Act→World→Prop} {Q:Exit→Act→World→Prop}
  (hK:Goes X base N (st'.put o.dst undefV) g w K):o.wp X.P a w K Q:=by
 unfold mapSet at hy
 split at hy
 ·rename_i kt et ht
  split at hy
  ·rename_i id kd xd hm hkd hxd
   split at hy
   ·rename_i es ck hh
    have key:∀ (res:Option (Nat × D)),(∀ (kv:Value),RepD w g.e kv kd→∀ ens:List MapEntry,ens.length = es.length→(∀ (j:Nat) (en:MapEntry) (x:D × D),ens[j]? = some en→es[j]? = some x→RepD w g.e en.key x.1∧RepD w g.e en.val x.2) →
      (∀ em,(Instr.checkKey em 10000 kt kv).run X.P w = .ok () w)∧(Instr.keyThatStays kv kv).run X.P w = .ok kv w ∧
      match res with
      | none=>(Instr.findKey kt kv ens).run X.P w = .ok none w
      | some (j,xd)=>∃ en:MapEntry,(Instr.findKey kt kv ens).run X.P w = .ok (some (j,en.val)) w∧ens[j]? = some en∧en.key = kv) →
      (match res with
       | some (i,_)=>some ({ s:=st.s,h:=st.h.set id (.map (es.set i (kd,xd)) ck),og:=ogBut id st.og }:St)
       | none=>some { s:=st.s,h:=st.h.set id (.map (es ++ [(kd,xd)]) (ck + 1)),og:=ogBut id st.og }) = some st' → o.wp X.P a w K Q:=by
     intro res hfind hy
     obtain ⟨q,hq⟩:=r.get k
     rw [hkd] at hq
     obtain ⟨qm,hqm⟩:=r.get m
     rw [hm] at hqm
     obtain ⟨qx,hqx⟩:=r.get x
     have rx:=hqx.toD hxd
     generalize hke:a.eval k = kv at hq
     generalize hme:a.eval m = mv at hqm
     generalize hxe:a.eval x = xv at rx
     cases hq with
     | d _ _ _ rk =>
      cases hqm with
      | mp _ _ b hb =>
       obtain ⟨ens,k1,k2,k3,k4⟩:=r.sit.heap.ob id b _ hb hh
       have hlen:ens.toList.length = es.length:=by simpa using k2
       have hrep:∀ (j:Nat) (en:MapEntry) (x:D × D),ens.toList[j]? = some en→es[j]? = some x→RepD w g.e en.key x.1∧RepD w g.e en.val x.2:=fun j en x a b=>k4 j en x (by simpa using a) b
       have hbl:b < w.heap.size:=(Array.getElem?_eq_some_iff.1 k1).1
       have fin:∀ (ens':Array MapEntry) (es':List (D × D)) (ck':Nat),(Instr.mapUpdate t (.map (some b)) kv xv).run X.P w = .ok () { w with heap:=w.heap.setIfInBounds b (.map ens' ck') } → ens'.size = es'.length →
         (∀ (j:Nat) (en:MapEntry) (x:D × D),ens'[j]? = some en→es'[j]? = some x→RepD w g.e en.key x.1∧RepD w g.e en.val x.2)→st' = { s:=st.s,h:=st.h.set id (.map es' ck'),og:=ogBut id st.og } → o.wp X.P a w K Q:=by
        intro ens' es' ck' h1 h2 h3 h4
        have hrun:(execOp a.eval o).run X.P w = .ok .skip { w with heap:=w.heap.setIfInBounds b (.map ens' ck') }:=by
         unfold execOp
         rcases hop with hop | hop <;> simp [hop,hke,hme,hxe,h1]
        have hmod:Mod b w { w with heap:=w.heap.setIfInBounds b (.map ens' ck') }:=mod_set
        obtain ⟨r2,hl⟩:=r.setOb (ob':=.map es' ck') hb hh hmod k3 (fun g2 hg2=>⟨ens',by simp [hbl],h2,by rw [hg2];exact k3,fun j en x a1 a2=>by rw [hg2];exact ⟨hmod.repD k3 (h3 j en x a1 a2).1,hmod.repD k3 (h3 j en x a1 a2).2⟩⟩)
        unfold Oper.wp
        rw [hrun]
        subst h4
        exact hK _ _ g hl (r2.put hN fun d _=>.d _ _ _ (.tup [] [] rfl (by simp)))
       obtain ⟨hchk,hstay,hres⟩:=hfind kv rk ens.toList hlen hrep
       cases res with
       | some ix =>
        obtain ⟨i,xd0⟩:=ix
        obtain ⟨en,f1,f4,f6⟩:=hres
        simp at hy
        have f4':ens[i]? = some en:=by simpa using f4
        refine fin (ens.modify i fun e=>{ e with key:=kv,val:=xv }) (es.set i (kd,xd)) ck ?_ (by simpa using k2) ?_ hy.symm
        ·simp [Instr.mapUpdate,run_underlying ht,MapKept.run_getObj_map k1,hchk,f1,f4',f6,hstay,MapKept.run_setObj_map _ k1]
        ·intro j en' x' a1 a2
         rw [List.getElem?_set] at a2
         rw [Array.getElem?_modify] at a1
         by_cases hj:i = j
         ·subst hj
          rw [if_pos rfl] at a1 a2
          rw [f4'] at a1
          simp at a1
          subst a1
          split at a2
          ·cases a2;exact ⟨rk,rx⟩
          ·cases a2
         ·rw [if_neg hj] at a1 a2
          exact k4 j en' x' a1 a2
       | none =>
        have f1:=hres
        simp only at f1
        simp at hy
        refine fin (ens.push { key:=kv,val:=xv,born:=ck }) (es ++ [(kd,xd)]) (ck + 1) ?_ (by simp [k2]) ?_ hy.symm
        ·simp [Instr.mapUpdate,run_underlying ht,MapKept.run_getObj_map k1,hchk,f1,MapKept.run_setObj_map _ k1]
        ·intro j en' x' a1 a2
         rw [Array.getElem?_push] at a1
         rw [List.getElem?_append] at a2
         by_cases hj:j = ens.size
         ·subst hj
          rw [if_pos rfl] at a1
          rw [if_neg (by omega)] at a2
          simp at a1
          subst a1
          simp [k2] at a2
          subst a2
          exact ⟨rk,rx⟩
         ·rw [if_neg hj] at a1
          have hlt:j < ens.size:=(Array.getElem?_eq_some_iff.1 a1).1
          rw [if_pos (by omega)] at a2
          exact k4 j en' x' a1 a2
    split at hy
    ·rename_i hko
     have old:∀ res,mapFind kd es 0 = some res→_:=fun res hf=>key res fun kv rk ens hl hr=>by
      obtain ⟨d,hud,hik⟩:=keyOk_rep hko rk
      have f:=mapFind_rep rk hik es ens 0 res hl hr hf
      refine ⟨fun em=>MapKept.run_checkKey hud hik em 9999,MapKept.run_keyThatStays hik,?_⟩
      cases res with
      | none=>exact MapKept.run_findKey hud f
      | some ix =>
       obtain ⟨en,xk,f1,f2,_,f4,_,f6⟩:=f
       exact ⟨en,MapKept.run_findKey hud f1,by simpa using f4,f6⟩
     split at hy
     ·rename_i i xd0 hf;exact old _ hf hy
     ·rename_i hf;exact old _ hf hy
     ·cases hy
    ·have new:∀ res,findW X.P kt kd es = some res→_:=fun res hf=>key res fun kv rk ens hl hr=>by
      obtain ⟨c1,c2,c3⟩:=findW_rep hf rk hl hr
      refine ⟨c1,c2,?_⟩
      cases res with
      | none=>exact c3
      | some ix =>
       obtain ⟨en,xk,f1,f2,f4,_,f6⟩:=c3
       exact ⟨en,f1,f4,f6⟩
     split at hy
     ·rename_i i xd0 hf;exact new _ hf hy
     ·rename_i hf;exact new _ hf hy
     ·cases hy
   ·cases hy
  ·cases hy
 ·cases hy
end
section
variable {X:Ctx} {base N:Nat} {st:St} {a:Act} {w:World} {g:Gh} {call:CallF} {o:Oper}
theorem step_makeInterface {t:TypeId} {x:Operand} {td:TypeDesc} {d:D} (hop:o.op = .makeInterface t x) (ht:X.P.underlying t = some td) (hni:∀ m,td ≠ .interface m) (hd:(st.get X x).toD = some d) (hN:dstOk N o = true) (r:Rel X base N st a w g) {K:Act→World→Prop} {Q:Exit→Act→World→Prop}
  (hK:Goes X base N (st.put o.dst (.d (.ifc t d))) g w K):o.wp X.P a w K Q:=by
 obtain ⟨q,hq⟩:=r.get x
 have hr:=hq.toD hd
 have hrun:(execOp a.eval o).run X.P w = .ok (.value (.iface t (a.eval x))) w:=by
  unfold execOp
  cases td <;> first | (exact absurd rfl (hni _)) | simp [hop,Instr.makeInterface,run_underlying ht]
 exact step_plain hrun (fun p=>.d _ _ _ (.ifc _ _ _ hr)) hN r hK
theorem step_assert {x:Operand} {u t:TypeId} {ok:Bool} {y:V} (hop:o.op = .typeAssert x u t ok) (hy:assertOp X st x t ok = some y) (hN:dstOk N o = true) (r:Rel X base N st a w g) {K:Act→World→Prop} {Q:Exit→Act→World→Prop}
  (hK:Goes X base N (st.put o.dst y) g w K):o.wp X.P a w K Q:=by
 obtain ⟨q,hq⟩:=r.get x
 generalize hve:a.eval x = v at hq
 have fin:∀ v:Value,(execOp a.eval o).run X.P w = .ok (.value v) w→(∀ p,RepV X w g p v y)→o.wp X.P a w K Q:=fun v h1 h2=>step_plain h1 h2 hN r hK
 unfold assertOp at hy
 split at hy
 ·cases hy
 ·cases hy
 ·rename_i td hni ht
  have hni':∀ m,td ≠ .interface m:=fun m h=>hni m (by rw [h])
  split at hy
  ·rename_i u' d hx
   rw [hx] at hq
   cases hq with
   | d _ _ _ hd =>
    cases hd with
    | ifc _ v' _ hd =>
     split at hy
     ·rename_i hut
      subst hut
      simp at hy
      subst hy
      refine fin (if ok then .tuple #[v',.bool true] else v') ?_ fun p=>?_
      ·unfold execOp
       cases td <;> first | (exact absurd rfl (hni' _)) | (cases ok <;> simp [hop,hve,Instr.typeAssert,run_underlying ht])
      ·cases ok
       ·exact .d _ _ _ hd
       ·exact .d _ _ _ (tup2 hd true)
     ·rename_i hut
      split at hy
      ·rename_i hok
       cases hz:zeroT X.P t with
       | none=>simp [hz] at hy
       | some z =>
        simp [hz] at hy
        subst hy
        obtain ⟨zv,z1,z2⟩:=zeroT_run hz w g.e
        refine fin (.tuple #[zv,.bool false]) ?_ fun p=>.d _ _ _ (tup2 z2 false)
        unfold execOp
        cases td <;> first | (exact absurd rfl (hni' _)) | simp [hop,hve,hok,Instr.typeAssert,run_underlying ht,hut,z1]
      ·cases hy
  ·rename_i hx
   rw [hx] at hq
   cases hq with
   | d _ _ _ hd =>
    cases hd
    split at hy
    ·rename_i hok
     cases hz:zeroT X.P t with
     | none=>simp [hz] at hy
     | some z =>
      simp [hz] at hy
      subst hy
      obtain ⟨zv,z1,z2⟩:=zeroT_run hz w g.e
      refine fin (.tuple #[zv,.bool false]) ?_ fun p=>.d _ _ _ (tup2 z2 false)
      unfold execOp
      cases td <;> first | (exact absurd rfl (hni' _)) | simp [hop,hve,hok,Instr.typeAssert,run_underlying ht,z1]
    ·cases hy
  ·cases hy
theorem bytesOf_spec {w:World} {e:Nat→Nat}:∀ {c:List D} {l:List UInt8} {vals:List Value},bytesOf c = some l→PtD w e vals c→∃ ns:List Int,vals = ns.map (Value.int .u8)∧∀ s:ByteArray,ns.foldl (fun r n=>r.push (UInt8.ofNat n.toNat)) s = ⟨s.data ++ l.toArray⟩
 | [],l,vals,h,hp=>by
  simp [bytesOf] at h
  subst h
  have:vals = []:=List.eq_nil_of_length_eq_zero (by rw [hp.1];rfl)
  subst this
  exact ⟨[],rfl,fun s=>by simp⟩
 | x :: c,l,[],h,hp=>by have:=hp.1;simp at this
 | x :: c,l,v :: vals,h,hp=>by
  unfold bytesOf at h
  split at h
  ·rename_i heq;cases heq
  ·rename_i n r heq
   cases heq
   split at h
   ·rename_i l' hl'
    simp at h
    subst h
    have h0:=hp.2 0 v _ rfl rfl
    cases h0
    obtain ⟨ns,h1,h2⟩:=bytesOf_spec (vals:=vals) hl' ⟨by simpa using hp.1,fun j v d a b=>hp.2 (j + 1) v d (by simpa using a) (by simpa using b)⟩
    refine ⟨n :: ns,by simp [h1],fun s=>?_⟩
    rw [List.foldl_cons,h2]
    congr 1
    simp [ByteArray.push,← Array.toList_inj]
   ·cases h
  ·cases h
theorem step_bytesToString {s t e:TypeId} {x:Operand} {c:List D} {n:Nat} {l:List UInt8} (hop:o.op = .convert s t x) (hs:X.P.underlying s = some (.slice e)) (ht:X.P.underlying t = some .string) (he:X.P.underlying e = some (.int .u8))
  (hx:(st.get X x).slice? = some (c,n)) (hn:c.length = n) (hl:bytesOf c = some l) (hN:dstOk N o = true) (r:Rel X base N st a w g) {K:Act→World→Prop} {Q:Exit→Act→World→Prop}
  (hK:Goes X base N (st.put o.dst (.d (.str l))) g w K):o.wp X.P a w K Q:=by
 obtain ⟨q,hq⟩:=r.get x
 generalize hve:a.eval x = v at hq
 have fin:(convert s t v).run X.P w = .ok (.string ⟨l.toArray⟩) w→o.wp X.P a w K Q:=fun h=>by
  refine step_plain (v:=.string ⟨l.toArray⟩) ?_ (fun p=>.d _ _ _ (.str _)) hN r hK
  unfold execOp
  simp [hop,hve,h]
 rcases V.slice?_rep hx hq with ⟨_,rfl,rfl,rfl⟩ | hr
 ·simp [bytesOf] at hl
  subst hl
  refine fin ?_
  simp [convert,run_underlying hs,run_underlying ht,run_underlying he,Conv.bytesToString]
  rfl
 ·cases hr with
  | sl0 ad cp _ =>
   simp [bytesOf] at hl
   subst hl
   refine fin ?_
   cases ad with
   | none=>simp [convert,run_underlying hs,run_underlying ht,run_underlying he,Conv.bytesToString];rfl
   | some ad =>
    have:=run_bytesToString (P:=X.P) w ad 0 cp [] (by simp [loadCells,loadCellsFrom])
    simp [convert,run_underlying hs,run_underlying ht,run_underlying he,this]
    rfl
  | sl b o' _ cp _ vals hnc hlv hee hc hrr =>
   obtain ⟨ns,h1,h2⟩:=bytesOf_spec hl ⟨hlv,hrr⟩
   refine fin ?_
   have hload:(loadCells ⟨b,o',none⟩ n).run X.P w = .ok (ns.map (Value.int .u8)).toArray w:=by
    have:=run_loadCells_list (P:=X.P) (w:=w) ⟨b,o',none⟩ vals (fun j v hj=>by rw [Addr.add_lit];exact hc j v hj)
    rw [← h1]
    rw [show n = vals.length by rw [hlv,hn]]
    exact this
   have:=run_bytesToString (P:=X.P) w ⟨b,o',none⟩ n cp ns hload
   simp [convert,run_underlying hs,run_underlying ht,run_underlying he,this,h2]
end
end Go.Proofs.YtdbmhmembmgndaaGreatDoor.Pv
