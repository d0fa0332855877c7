/- Lemmas for the law SessionNilLaw: texts of mine, merged. -/
import Derived.Test.YtdbmhmembmgndaaGreatDoorChecked
import Derived.Test.YtdbmhmembmgndaaGreatDoorShelf
import Derived.Lib.CountLaws
import Derived.Below
import Derived.ProofKit
import Derived.WalkKit
import Derived.Carry
import Derived.OpenShut
import Derived.Shelf.Strings.Builder1
import Derived.BigCall
import Derived.Deep.LoopGhost
import Derived.RangeFuncNested
import Derived.RangeFuncBound
import Derived.RangeFuncCalls
import Derived.RangeFuncLeaves
import Derived.Shelf.Abstract
import Derived.Shelf.RegionOpen
import Derived.OwnWalkIn
import Derived.TacticsInMore
import Derived.LoopNIn
import Derived.LoopIn
import Derived.Sort.LoopGhostIn
import Derived.Test.YtdbmhmembmgndaaGreatDoorMSessionNilLaw2
set_option linter.unusedSimpArgs false
set_option linter.unusedVariables false
set_option maxRecDepth 1000000
set_option maxHeartbeats 4000000
namespace Go.Proofs.YtdbmhmembmgndaaGreatDoor.Pv
open Go
def callNone:CallF:=⟨fun _ _=>none,fun _ _ _=>none⟩
theorem valOp_nocall {X:Ctx} {call:CallF} {ρ:Operand→V} {h:List Ob} {o:Oper} {v:V} (hv:valOp X callNone ρ h o = some v):valOp X call ρ h o = some v:=by
  unfold valOp at hv ⊢
  cases hop:o.op <;> simp only [hop] at hv ⊢ <;> try exact hv
  rename_i c
  cases hc:c.callee with
  | value f =>
    simp only [hc] at hv
    split at hv
    · split at hv
      · simp [callNone] at hv
      · cases hv
    · cases hv
  | invoke r m=>simp [hc] at hv
  | builtin b=>cases b <;> simp only [hc] at hv ⊢ <;> exact hv
theorem stepOp_nocall {X:Ctx} {call:CallF} {base:Nat} {o:Oper} {st st':St} (ho:(∀ c f,o.op = .call c→c.callee ≠ .value f)) (h:stepOp X callNone base o st = some st'):stepOp X call base o st = some st':=by
  unfold stepOp at h ⊢
  have hv:valOp X call (st.get X) st.h o = valOp X callNone (st.get X) st.h o:=by
    unfold valOp
    cases hop:o.op <;> try rfl
    rename_i c
    cases hc:c.callee with
    | value f=>exact (ho c _ hop hc).elim
    | invoke r m=>simp only [hc]
    | builtin b=>cases b <;> simp only [hc]
  rw [hv]
  split
  · rename_i v hvv
    rw [hvv] at h
    exact h
  · rename_i hvv
    rw [hvv] at h
    simp only at h ⊢
    cases hop:o.op <;> simp only [hop] at h ⊢ <;> try exact h
    rename_i c
    cases hc:c.callee with
    | value f=>exact (ho c _ hop hc).elim
    | invoke r m=>simp [hc] at h
    | builtin b=>cases b <;> simp only [hc] at h ⊢ <;> first | exact h | cases h
end Go.Proofs.YtdbmhmembmgndaaGreatDoor.Pv
namespace Go.Proofs.YtdbmhmembmgndaaGreatDoor.Pv.G
open Go Pv
abbrev Fact:=CallF→Prop
inductive What where
  | b (x:Bool)
  | v (x:V)
  | c (x:V) (h:List Ob)
  | l (e:Ex) (st:St)
structure T where
  n:Nat
  ask:Bool
  os:List (Nat × What)
  cs:List Fact
inductive Info where
  | b (v:V)
  | v (x:Option V)
  | load (t:TypeId) (p:V) (h:List Ob)
  | iaddr (t:TypeId) (x i:V)
  | index (t:TypeId) (x i:V)
  | slice (t:TypeId) (x:V) (lo hi mx:Option V)
  | field (t:TypeId) (x:V) (f:Nat)
  | bin (op:BinOp) (t:TypeId) (x y:V)
  | append (t u:TypeId) (s x:V)
  | conv (s t:TypeId) (x:V)
  | look (t:TypeId) (es:Option (List (D × D))) (k:V) (ok:Bool)
  | call (f:FuncId) (args:List V)
  | calli (f:FuncId) (args:List V) (h:List Ob)
  | l (base N:Nat) (keep:List Nat) (b:AC) (st:St)
inductive Out (α:Type) where
  | ok (a:α) (t:T)
  | stop (i:Info) (n:Nat) (k:Option What→Out α)
  | bad (why n:Nat)
def Out.bind {α β:Type} (o:Out α) (f:α→T→Out β):Out β :=
  match o with
  | .ok a t=>f a t
  | .stop i n k=>.stop i n fun w=>(k w).bind f
  | .bad w n=>.bad w n
theorem Out.bind_ok {α β:Type} {o:Out α} {f:α→T→Out β} {b:β} {t':T} (h:o.bind f = .ok b t'):∃ a t,o = .ok a t∧f a t = .ok b t':=by
  cases o with
  | ok a t=>exact ⟨a,t,rfl,h⟩
  | _=>simp [Out.bind] at h
def T.next (t:T):T:={ n:=t.n + 1,ask:=t.ask,os:=t.os,cs:=t.cs }
def T.add (t:T) (c:Fact):T:={ n:=t.n,ask:=t.ask,os:=t.os,cs:=c :: t.cs }
def T.told (t:T):Option (What × T) :=
  match t.os with
  | (m,w) :: os=>if m == t.n then some (w,{ n:=t.n + 1,ask:=t.ask,os:=os,cs:=t.cs }) else none
  | []=>none
def All (Q:Fact→Prop):List Fact→Prop
  | []=>True
  | c :: cs=>Q c∧All Q cs
def ev {α:Type} (t:T) (i:Info) (dflt:T→Out α) (use:What→T→Out α):Out α :=
  match t.told with
  | some (w,t')=>use w t'
  | none=>if t.ask then .stop i t.n fun
      | none=>dflt t.next
      | some w=>use w t.next
    else dflt t.next
theorem ev_ok {α:Type} {t t'':T} {i:Info} {dflt:T→Out α} {use:What→T→Out α} {a:α} (h:ev t i dflt use = .ok a t''):(∃ w t',t'.cs = t.cs∧use w t' = .ok a t'')∨(∃ t',t'.cs = t.cs∧dflt t' = .ok a t''):=by
  unfold ev at h
  split at h
  · rename_i w t' ht
    refine .inl ⟨w,t',?_,h⟩
    unfold T.told at ht
    split at ht
    · split at ht
      · simp only [Option.some.injEq,Prod.mk.injEq] at ht;rw [← ht.2]
      · cases ht
    · cases ht
  · split at h
    · cases h
    · exact .inr ⟨t.next,rfl,h⟩
section
variable {call:CallF} {Q:Fact→Prop} (hQ:∀ c,Q c→c call)
def boolG (v:V) (t:T):Out Bool :=
  ev t (.b v)
    (fun t=>match v with
      | .d (.bool b)=>match b with
        | true=>.ok true t
        | false=>.ok false t
      | _=>.bad 3 t.n)
    (fun w t=>match w with
      | .b x=>match v with
        | .d (.bool b)=>.ok x (t.add fun _=>b = x)
        | _=>.bad 1 t.n
      | _=>.bad 2 t.n)
include hQ in
theorem boolG_sound {v:V} {t t':T} {x:Bool} (h:boolG v t = .ok x t') (hc:All Q t'.cs):v = .d (.bool x)∧All Q t.cs:=by
  unfold boolG at h
  rcases ev_ok h with ⟨w,t1,ht,h⟩ | ⟨t1,ht,h⟩
  · split at h
    · split at h
      · simp only [Out.ok.injEq] at h
        obtain ⟨rfl,rfl⟩:=h
        simp only [T.add] at hc
        exact ⟨by rw [hQ _ hc.1],by rw [← ht];exact hc.2⟩
      · cases h
    · cases h
  · split at h
    · split at h <;>
      · simp only [Out.ok.injEq] at h
        obtain ⟨rfl,rfl⟩:=h
        exact ⟨rfl,by rw [← ht];exact hc⟩
    · cases h
abbrev CallG:=FuncId→List V→List Ob→T→Out (V × List Ob)
structure CallOf (call:CallF) (B:FuncId→List V→List Ob→Option (V × List Ob)):Prop where
  p:∀ g args v h',args.all V.pure = true→B g args [] = some (v,h')→v.pure = true→call.p g args = some v
  q:∀ g args v h',args.all V.pure = true→B g args [] = some (v,h')→v.pure = false→call.p g args = none∧∀ h,call.i g args h = some (v.shift h.length,h ++ h'.map (Ob.shift h.length))
  i:∀ g args v h h',args.all V.pure = false→B g args h = some (v,h')→call.i g args h = some (if v.pure then (v,h'.take h.length) else (v,h'))
def calleeG (ρ:Operand→V) (o:Oper):Option (FuncId × List V) :=
  match o.op with
  | .call c=>match c.callee with
    | .value f=>match calleeOf (ρ f) with
      | some (g,a,b)=>some (g,a ++ copies ρ c.args ++ b)
      | none=>none
    | _=>none
  | _=>none
theorem calleeG_val {X:Ctx} {ρ:Operand→V} {h:List Ob} {o:Oper} {g:FuncId} {args:List V} (hc:calleeG ρ o = some (g,args)):valOp X call ρ h o = if args.all V.pure then call.p g args else none:=by
  unfold calleeG at hc
  split at hc
  · rename_i c hop
    split at hc
    · rename_i f hf
      split at hc
      · rename_i g' a b hce
        simp only [Option.some.injEq,Prod.mk.injEq] at hc
        obtain ⟨rfl,rfl⟩:=hc
        unfold valOp
        rw [hop]
        simp only [hf,hce]
      · cases hc
    · cases hc
  · cases hc
theorem calleeG_step {X:Ctx} {base:Nat} {o:Oper} {st:St} {g:FuncId} {args:List V} (hc:calleeG (st.get X) o = some (g,args)) (hn:valOp X call (st.get X) st.h o = none) :
    stepOp X call base o st = (call.i g args st.h).map fun r=>{ s:=st.s,h:=r.2,og:=[]:St }.put o.dst r.1:=by
  unfold calleeG at hc
  split at hc
  · rename_i c hop
    split at hc
    · rename_i f hf
      split at hc
      · rename_i g' a b hce
        simp only [Option.some.injEq,Prod.mk.injEq] at hc
        obtain ⟨rfl,rfl⟩:=hc
        unfold stepOp
        rw [hn]
        simp only [hop,hf,hce]
      · cases hc
    · cases hc
  · cases hc
def one1 (a:V):Operand→V:=fun _=>a
def two2 (a b:V):Operand→V
  | .tmp 0=>a
  | _=>b
def four4 (a b c d:V):Operand→V
  | .tmp 0=>a
  | .tmp 1=>b
  | .tmp 2=>c
  | _=>d
def loadV (X:Ctx) (h:List Ob) (t:TypeId) (p:V):Option V:=loadOp X (one1 p) h t (.tmp 0)
def iaddrV (X:Ctx) (t:TypeId) (x i:V):Option V:=indexAddrOp X (two2 x i) t (.tmp 0) (.tmp 1)
def indexV (X:Ctx) (t:TypeId) (x i:V):Option V :=
  match X.P.underlying t,x,i with
  | some (.array n e),.d (.agg cs),.d (.int _ k) =>
    match sizeT X.P e with
    | some z=>if 0≤k∧k < n then (partD X.P e cs (k.toNat * z)).map .d else none
    | none=>none
  | some .string,.d (.str s),.d (.int _ k) =>
    if 0≤k then (s[k.toNat]?).map fun b=>.d (.int .u8 b.toNat) else none
  | _,_,_=>none
def sliceV (X:Ctx) (t:TypeId) (x:V) (lo hi mx:Option V):Option V :=
  sliceOp X (four4 x (lo.getD und) (hi.getD und) (mx.getD und)) t (.tmp 0) (lo.map fun _=>.tmp 1) (hi.map fun _=>.tmp 2) (mx.map fun _=>.tmp 3)
def fieldV (X:Ctx) (t:TypeId) (x:V) (f:Nat):Option V :=
  match fieldT X.P t f,x with
  | some (off,ft),.d (.agg cs)=>(partD X.P ft cs off).map .d
  | some (off,ft),.agg vs=>partV X.P ft vs off
  | _,_=>none
theorem sliceV_eq {X:Ctx} {ρ:Operand→V} {t:TypeId} {x:Operand} {lo hi mx:Option Operand}:sliceV X t (ρ x) (lo.map ρ) (hi.map ρ) (mx.map ρ) = sliceOp X ρ t x lo hi mx:=by
  unfold sliceV sliceOp
  have b0:four4 (ρ x) ((lo.map ρ).getD und) ((hi.map ρ).getD und) ((mx.map ρ).getD und) (.tmp 0) = ρ x:=rfl
  have b1:∀ n,boundOf (four4 (ρ x) ((lo.map ρ).getD und) ((hi.map ρ).getD und) ((mx.map ρ).getD und)) n ((lo.map ρ).map fun _=>Operand.tmp 1) = boundOf ρ n lo:=fun n=>by cases lo <;> rfl
  have b2:∀ n,boundOf (four4 (ρ x) ((lo.map ρ).getD und) ((hi.map ρ).getD und) ((mx.map ρ).getD und)) n ((hi.map ρ).map fun _=>Operand.tmp 2) = boundOf ρ n hi:=fun n=>by cases hi <;> rfl
  have b3:∀ n,boundOf (four4 (ρ x) ((lo.map ρ).getD und) ((hi.map ρ).getD und) ((mx.map ρ).getD und)) n ((mx.map ρ).map fun _=>Operand.tmp 3) = boundOf ρ n mx:=fun n=>by cases mx <;> rfl
  have c2:((hi.map ρ).map fun _=>Operand.tmp 2).isSome = hi.isSome:=by cases hi <;> rfl
  have c3:((mx.map ρ).map fun _=>Operand.tmp 3).isSome = mx.isSome:=by cases mx <;> rfl
  have c4:((mx.map ρ).map fun _=>Operand.tmp 3).isNone = mx.isNone:=by cases mx <;> rfl
  simp only [b0,b1,b2,b3,c2,c3,c4]
  cases mx with
  | none=>rfl
  | some m=>simp only [Option.map_some];rfl
def binV (X:Ctx) (op:BinOp) (t:TypeId) (x y:V):Option V:=valOp X callNone (two2 x y) [] ⟨none,.binOp op t (.tmp 0) (.tmp 1) t,t, "", #[],none⟩
theorem binV_eq {X:Ctx} {ρ:Operand→V} {h:List Ob} {o:Oper} {op:BinOp} {t u:TypeId} {x y:Operand} (ho:o.op = .binOp op t x y u) (hop:(match op with | .eql | .neq=>false | _=>true) = true):binV X op t (ρ x) (ρ y) = valOp X callNone ρ h o:=by
  have e1:two2 (ρ x) (ρ y) (.tmp 0) = ρ x:=rfl
  have e2:two2 (ρ x) (ρ y) (.tmp 1) = ρ y:=rfl
  have e0:∀ (f g:Operand→Value),g (.tmp 0) = f x→g (.tmp 1) = f y→execOp g ⟨none,.binOp op t (.tmp 0) (.tmp 1) t,t, "", #[],none⟩ = execOp f o:=by
    intro f g h1 h2
    unfold execOp
    rw [ho]
    simp only [h1,h2]
    cases op <;> first | rfl | cases hop
  unfold binV valOp
  rw [ho]
  simp only [e1,e2]
  have e3:pureOp X (two2 (ρ x) (ρ y)) ⟨none,.binOp op t (.tmp 0) (.tmp 1) t,t, "", #[],none⟩ = pureOp X ρ o:=by
    unfold pureOp
    rw [e0 (fun z=>(((ρ z).toD).bind D.toVal).getD undef) _ (by rw [e1]) (by rw [e2]),ho]
    simp only [Op.operands]
    congr 1
  rw [e3]
  cases op <;> first | rfl | cases hop
def askV (X:Ctx) (ρ:Operand→V) (h:List Ob) (o:Oper):Option V :=
  match o.op with
  | .load t p=>loadV X h t (ρ p)
  | .indexAddr t x i=>iaddrV X t (ρ x) (ρ i)
  | .index t x i=>indexV X t (ρ x) (ρ i)
  | .slice t x lo hi mx=>sliceV X t (ρ x) (lo.map ρ) (hi.map ρ) (mx.map ρ)
  | .field t x f=>fieldV X t (ρ x) f
  | .binOp op t x y _=>match op with
    | .eql | .neq=>valOp X callNone ρ h o
    | _=>binV X op t (ρ x) (ρ y)
  | _=>valOp X callNone ρ h o
theorem askV_eq {X:Ctx} {ρ:Operand→V} {h:List Ob} {o:Oper}:askV X ρ h o = valOp X callNone ρ h o:=by
  by_cases hb:∃ op t x y u,o.op = .binOp op t x y u
  · obtain ⟨op,t,x,y,u,ho⟩:=hb
    unfold askV
    rw [ho]
    simp only
    split
    · rfl
    · rfl
    · rename_i h1 h2
      refine binV_eq ho ?_
      cases op <;> first | rfl | exact (h1 rfl).elim | exact (h2 rfl).elim
  · unfold askV valOp
    cases ho:o.op <;> try rfl
    · exact (hb ⟨_,_,_,_,_,ho⟩).elim
    · exact sliceV_eq
def worth (o:Oper):Bool :=
  match o.op with
  | .load .. | .indexAddr .. | .index .. | .slice .. | .field .. | .convert .. | .binOp .. => true
  | .call c=>match c.callee with
    | .builtin .len=>true
    | _=>false
  | _=>false
def infoOf (X:Ctx) (ρ:Operand→V) (h:List Ob) (o:Oper):Info :=
  match o.op with
  | .load t p=>.load t (ρ p) h
  | .indexAddr t x i=>.iaddr t (ρ x) (ρ i)
  | .index t x i=>.index t (ρ x) (ρ i)
  | .slice t x lo hi mx=>.slice t (ρ x) (lo.map ρ) (hi.map ρ) (mx.map ρ)
  | .field t x f=>.field t (ρ x) f
  | .binOp op t x y _=>.bin op t (ρ x) (ρ y)
  | _=>.v (valOp X callNone ρ h o)
def valG (X:Ctx) (cg:CallG) (ρ:Operand→V) (h:List Ob) (o:Oper) (t:T):Out V :=
  match o.op with
  | .pick c a b=>(boolG (ρ c) t).bind fun x t=>.ok (ρ (if x then a else b)).copy t
  | _ =>
    match calleeG ρ o with
    | some (g,args) =>
      if args.all V.pure then
        ev t (.call g args)
          (fun t=>(cg g args [] t).bind fun r t=>if r.1.pure then .ok r.1 t else .bad 5 t.n)
          (fun w t=>match w with
            | .v x=>.ok x (t.add fun call=>call.p g args = some x)
            | _=>.bad 4 t.n)
      else .bad 6 t.n
    | none =>
      if worth o then
        ev t (infoOf X ρ h o)
          (fun t=>match valOp X callNone ρ h o with
            | some v=>.ok v t
            | none=>.bad 8 t.n)
          (fun w t=>match w with
            | .v x=>.ok x (t.add fun _=>askV X ρ h o = some x)
            | _=>.bad 7 t.n)
      else match valOp X callNone ρ h o with
        | some v=>.ok v t
        | none=>.bad 9 t.n
variable {B:FuncId→List V→List Ob→Option (V × List Ob)} (hB:CallOf call B) {cg:CallG} (hcg:∀ g args h t r t',cg g args h t = .ok r t' → All Q t'.cs→B g args h = some r∧All Q t.cs)
include hQ hB hcg in
theorem valG_sound {X:Ctx} {ρ:Operand→V} {h:List Ob} {o:Oper} {t t':T} {v:V} (hv:valG X cg ρ h o t = .ok v t') (hc:All Q t'.cs):valOp X call ρ h o = some v∧All Q t.cs:=by
  unfold valG at hv
  split at hv
  · rename_i c a b hop
    obtain ⟨x,t1,h1,h2⟩:=Out.bind_ok hv
    simp only [Out.ok.injEq] at h2
    obtain ⟨rfl,rfl⟩:=h2
    obtain ⟨k1,k2⟩:=boolG_sound hQ h1 hc
    refine ⟨?_,k2⟩
    unfold valOp
    rw [hop]
    simp only [k1]
  · split at hv
    · rename_i g args hcal
      split at hv
      · rename_i hp
        have key:∀ u,call.p g args = some u→valOp X call ρ h o = some u:=fun u hu=>by rw [calleeG_val hcal,if_pos hp,hu]
        rcases ev_ok hv with ⟨w,t1,ht,hv⟩ | ⟨t1,ht,hv⟩
        · split at hv
          · simp only [Out.ok.injEq] at hv
            obtain ⟨rfl,rfl⟩:=hv
            simp only [T.add] at hc
            exact ⟨key _ (hQ _ hc.1),by rw [← ht];exact hc.2⟩
          · cases hv
        · obtain ⟨r,t2,h1,h2⟩:=Out.bind_ok hv
          split at h2
          · rename_i hpu
            simp only [Out.ok.injEq] at h2
            obtain ⟨rfl,rfl⟩:=h2
            obtain ⟨k1,k2⟩:=hcg _ _ _ _ _ _ h1 hc
            exact ⟨key _ (hB.p _ _ _ r.2 hp k1 hpu),by rw [← ht];exact k2⟩
          · cases h2
      · cases hv
    · split at hv
      · rcases ev_ok hv with ⟨w,t1,ht,hv⟩ | ⟨t1,ht,hv⟩
        · split at hv
          · simp only [Out.ok.injEq] at hv
            obtain ⟨rfl,rfl⟩:=hv
            simp only [T.add] at hc
            exact ⟨valOp_nocall (askV_eq.symm.trans (hQ _ hc.1)),by rw [← ht];exact hc.2⟩
          · cases hv
        · split at hv
          · rename_i u hu
            simp only [Out.ok.injEq] at hv
            obtain ⟨rfl,rfl⟩:=hv
            exact ⟨valOp_nocall hu,by rw [← ht];exact hc⟩
          · cases hv
      · split at hv
        · rename_i u hu
          simp only [Out.ok.injEq] at hv
          obtain ⟨rfl,rfl⟩:=hv
          exact ⟨valOp_nocall hu,hc⟩
        · cases hv
def isEff (o:Oper):Bool :=
  match o.op with
  | .assign _ | .alloc _ | .box .. | .store .. => true
  | .call c=>match c.callee with
    | .builtin .append=>true
    | _=>false
  | _=>false
def appArgs (o:Oper):Option (TypeId × TypeId × Operand × Operand) :=
  match o.op with
  | .call c=>match c.callee with
    | .builtin .append=>match c.args.toList,c.argTypes.toList with
      | [s,x],[t,u]=>some (t,u,s,x)
      | _,_=>none
    | _=>none
  | _=>none
def appTarget (X:Ctx) (st:St) (s:Operand):Option (V × St) :=
  match st.get X s with
  | .d .nilsl=>some (.d .nilsl,st)
  | .full c n=>some (.full c n,st)
  | .tail E c n=>match s with
    | .tmp ts=>some (.tail E c n,locCopy st (.slot ts))
    | _=>none
  | _=>match ogOf st s with
    | some l=>match locGet st l with
      | some (.tail E c n)=>some (.tail E c n,locCopy st l)
      | _=>none
    | none=>none
def appendV (X:Ctx) (t u:TypeId) (s x:V):Option V :=
  match elemT X.P t,(elemT X.P t).bind (X.P.info? ·),srcOf X.P u x with
  | some E,some i,some (cs,m) =>
    if i.size != 0 && cs.length == m * i.size && cs.all D.one && (zeroT X.P E).any (fun z=>z.cells.length == i.size) then
      let go:=fun (c:List D) (n:Nat)=>if (n + m) * i.bytes≤bigLen∧n + m≤bigLen then some (V.tail E (c ++ cs) (n + m)) else none
      match s with
      | .d .nilsl=>if m = 0 then some (.d .nilsl) else go [] 0
      | .full c n=>if m = 0 then some (.full c n) else if c.length = n * i.size∧c.all D.one then go c n else none
      | .tail E' c n=>if E' = E∧c.length = n * i.size then go c n else none
      | _=>none
    else none
  | _,_,_=>none
theorem appendV_op {X:Ctx} {st st':St} {t u:TypeId} {s x:Operand} {sv v:V} (h1:appTarget X st s = some (sv,st')) (h2:appendV X t u sv (st.get X x) = some v):appendOp X st t u s x = some (st',v):=by
  unfold appendV at h2
  unfold appendOp
  split at h2
  · rename_i E i cs m e1 e2 e3
    rw [e2,e3,e1]
    simp only
    split at h2
    · rename_i hg
      rw [if_pos hg]
      simp only at h2 ⊢
      unfold appTarget at h1
      split at h1
      · rename_i hs
        simp only [Option.some.injEq,Prod.mk.injEq] at h1
        obtain ⟨rfl,rfl⟩:=h1
        simp only [hs]
        simp only at h2
        split at h2
        · rename_i hm
          rw [if_pos hm]
          rw [Option.some.injEq] at h2
          rw [h2]
        · rename_i hm
          rw [if_neg hm,h2]
          rfl
      · rename_i c n hs
        simp only [Option.some.injEq,Prod.mk.injEq] at h1
        obtain ⟨rfl,rfl⟩:=h1
        simp only [hs]
        simp only at h2
        split at h2
        · rename_i hm
          rw [if_pos hm]
          rw [Option.some.injEq] at h2
          rw [h2]
        · rename_i hm
          rw [if_neg hm]
          split at h2
          · rename_i hk
            rw [if_pos hk,h2]
            rfl
          · cases h2
      · rename_i E' c n hs
        split at h1
        · rename_i ts
          simp only [Option.some.injEq,Prod.mk.injEq] at h1
          obtain ⟨rfl,rfl⟩:=h1
          simp only [hs]
          simp only at h2
          split at h2
          · rename_i hk
            rw [if_pos hk,h2]
            rfl
          · cases h2
        · cases h1
      · rename_i n1 n2 n3
        split at h1
        · rename_i l hl
          split at h1
          · rename_i E' c n hg2
            simp only [Option.some.injEq,Prod.mk.injEq] at h1
            obtain ⟨rfl,rfl⟩:=h1
            simp only at h2
            split
            · rename_i hs;exact (n1 hs).elim
            · rename_i c n hs;exact (n2 _ _ hs).elim
            · rename_i hs;exact (n3 _ _ _ hs).elim
            · simp only [hl,hg2]
              split at h2
              · rename_i hk
                rw [if_pos hk,h2]
                rfl
              · cases h2
          · cases h1
        · cases h1
    · cases h2
  · cases h2
theorem appArgs_step {X:Ctx} {call:CallF} {base:Nat} {o:Oper} {st st':St} {t u:TypeId} {s x:Operand} {v:V} (ha:appArgs o = some (t,u,s,x)) (h:appendOp X st t u s x = some (st',v)):stepOp X call base o st = some (st'.put o.dst v):=by
  unfold appArgs at ha
  split at ha
  · rename_i c hop
    split at ha
    · rename_i hcal
      split at ha
      · rename_i s' x' t' u' h1 h2
        simp only [Option.some.injEq,Prod.mk.injEq] at ha
        obtain ⟨rfl,rfl,rfl,rfl⟩:=ha
        have hv:valOp X call (st.get X) st.h o = none:=by
          unfold valOp
          rw [hop]
          simp only [hcal]
        unfold stepOp
        rw [hv]
        simp only [hop,hcal,h1,h2,h]
        rfl
      · cases ha
    · cases ha
  · cases ha
def stepG (X:Ctx) (cg:CallG) (base:Nat) (o:Oper) (st:St) (t:T):Out St :=
  match appArgs o with
  | some (ty,u,s,x)=>match appTarget X st s with
    | some (sv,st')=>ev t (.append ty u sv (st.get X x))
        (fun t=>match appendV X ty u sv (st.get X x) with
          | some v=>.ok (st'.put o.dst v) t
          | none=>.bad 32 t.n)
        (fun w t=>match w with
          | .v y=>.ok (st'.put o.dst y) (t.add fun _=>appendV X ty u sv (st.get X x) = some y)
          | _=>.bad 31 t.n)
    | none=>.bad 33 t.n
  | none =>
  if isEff o then
    match stepOp X callNone base o st with
    | some st' => .ok st' t
    | none=>.bad 10 t.n
  else
    match calleeG (st.get X) o with
    | some (g,args) =>
      if args.all V.pure then
        ev t (.call g args)
          (fun t=>(cg g args [] t).bind fun r t =>
            if r.1.pure then .ok (st.put o.dst r.1) t
            else .ok ({ s:=st.s,h:=st.h ++ r.2.map (Ob.shift st.h.length),og:=[]:St }.put o.dst (r.1.shift st.h.length)) t)
          (fun w t=>match w with
            | .v x=>.ok (st.put o.dst x) (t.add fun call=>call.p g args = some x)
            | .c x h' => .ok ({ s:=st.s,h:=h',og:=[]:St }.put o.dst x) (t.add fun call=>(args.all V.pure = true→call.p g args = none)∧call.i g args st.h = some (x,h'))
            | _=>.bad 13 t.n)
      else
        ev t (.calli g args st.h)
          (fun t=>(cg g args st.h t).bind fun r t =>
            if r.1.pure then .ok ({ s:=st.s,h:=r.2.take st.h.length,og:=[]:St }.put o.dst r.1) t
            else .ok ({ s:=st.s,h:=r.2,og:=[]:St }.put o.dst r.1) t)
          (fun w t=>match w with
            | .c x h' => .ok ({ s:=st.s,h:=h',og:=[]:St }.put o.dst x) (t.add fun call=>(args.all V.pure = true→call.p g args = none)∧call.i g args st.h = some (x,h'))
            | _=>.bad 14 t.n)
    | none=>(valG X cg (st.get X) st.h o t).bind fun v t =>
      match o.op with
      | .move (.tmp u)=>.ok (setOg (st.put o.dst v) o.dst (.slot u)) t
      | .load ty p=>match isAggT X.P ty,st.get X p with
        | false,.obj id off=>.ok (setOg (st.put o.dst v) o.dst (.cell id off)) t
        | _,_=>.ok (st.put o.dst v) t
      | _=>.ok (st.put o.dst v) t
theorem isEff_nocall {o:Oper} (h:isEff o = true):∀ c f,o.op = .call c→c.callee ≠ .value f:=by
  intro c f hop hf
  unfold isEff at h
  rw [hop] at h
  simp [hf] at h
theorem calleeG_nomove {ρ:Operand→V} {o:Oper} {g:FuncId} {args:List V} (hc:calleeG ρ o = some (g,args)):(∀ u,o.op ≠ .move u)∧(∀ t p,o.op ≠ .load t p):=by
  unfold calleeG at hc
  split at hc
  · rename_i c hop;constructor <;> · intros;rw [hop];simp
  · cases hc
include hQ hB hcg in
theorem stepG_sound {X:Ctx} {base:Nat} {o:Oper} {st st':St} {t t':T} (h:stepG X cg base o st t = .ok st' t') (hc:All Q t'.cs):stepOp X call base o st = some st' ∧ All Q t.cs:=by
  unfold stepG at h
  split at h
  · rename_i ty u s x ha
    split at h
    · rename_i sv s1 hs1
      rcases ev_ok h with ⟨w,t1,ht,h⟩ | ⟨t1,ht,h⟩
      · split at h
        · simp only [Out.ok.injEq] at h
          obtain ⟨rfl,rfl⟩:=h
          simp only [T.add] at hc
          exact ⟨appArgs_step ha (appendV_op hs1 (hQ _ hc.1)),by rw [← ht];exact hc.2⟩
        · cases h
      · split at h
        · rename_i v hv
          simp only [Out.ok.injEq] at h
          obtain ⟨rfl,rfl⟩:=h
          exact ⟨appArgs_step ha (appendV_op hs1 hv),by rw [← ht];exact hc⟩
        · cases h
    · cases h
  rename_i hna
  split at h
  · rename_i he
    have ho:=isEff_nocall he
    split at h
    · rename_i u hu
      simp only [Out.ok.injEq] at h
      obtain ⟨rfl,rfl⟩:=h
      exact ⟨stepOp_nocall ho hu,hc⟩
    · cases h
  · rename_i he
    split at h
    · rename_i g args hcal
      have hput:∀ x,valOp X call (st.get X) st.h o = some x→stepOp X call base o st = some (st.put o.dst x):=by
        intro x hx
        obtain ⟨n1,n2⟩:=calleeG_nomove hcal
        unfold stepOp
        rw [hx]
        simp only
        split
        · rename_i u hop;exact (n1 _ hop).elim
        · rename_i u p hop;exact (n2 _ _ hop).elim
        · rfl
      have hcalli:∀ x h',(args.all V.pure = true→call.p g args = none)→call.i g args st.h = some (x,h')→stepOp X call base o st = some ({ s:=st.s,h:=h',og:=[]:St }.put o.dst x):=by
        intro x h' h1 h2
        have hn:valOp X call (st.get X) st.h o = none:=by
          rw [calleeG_val hcal]
          split
          · rename_i hp;exact h1 hp
          · rfl
        rw [calleeG_step hcal hn,h2]
        rfl
      split at h
      · rename_i hp
        rcases ev_ok h with ⟨w,t1,ht,h⟩ | ⟨t1,ht,h⟩
        · split at h
          · simp only [Out.ok.injEq] at h
            obtain ⟨rfl,rfl⟩:=h
            simp only [T.add] at hc
            refine ⟨hput _ ?_,by rw [← ht];exact hc.2⟩
            rw [calleeG_val hcal,if_pos hp]
            exact hQ _ hc.1
          · simp only [Out.ok.injEq] at h
            obtain ⟨rfl,rfl⟩:=h
            simp only [T.add] at hc
            obtain ⟨k1,k2⟩:=hQ _ hc.1
            exact ⟨hcalli _ _ k1 k2,by rw [← ht];exact hc.2⟩
          · cases h
        · obtain ⟨r,t2,h1,h2⟩:=Out.bind_ok h
          split at h2
          · rename_i hpu
            simp only [Out.ok.injEq] at h2
            obtain ⟨rfl,rfl⟩:=h2
            obtain ⟨k1,k2⟩:=hcg _ _ _ _ _ _ h1 hc
            refine ⟨hput _ ?_,by rw [← ht];exact k2⟩
            rw [calleeG_val hcal,if_pos hp]
            exact hB.p _ _ _ r.2 hp k1 hpu
          · rename_i hpu
            simp only [Out.ok.injEq] at h2
            obtain ⟨rfl,rfl⟩:=h2
            obtain ⟨k1,k2⟩:=hcg _ _ _ _ _ _ h1 hc
            obtain ⟨k3,k4⟩:=hB.q _ _ _ r.2 hp k1 (by simpa using hpu)
            exact ⟨hcalli _ _ (fun _=>k3) (k4 _),by rw [← ht];exact k2⟩
      · rename_i hp
        have hp':args.all V.pure = false:=by simpa using hp
        rcases ev_ok h with ⟨w,t1,ht,h⟩ | ⟨t1,ht,h⟩
        · split at h
          · simp only [Out.ok.injEq] at h
            obtain ⟨rfl,rfl⟩:=h
            simp only [T.add] at hc
            obtain ⟨k1,k2⟩:=hQ _ hc.1
            exact ⟨hcalli _ _ k1 k2,by rw [← ht];exact hc.2⟩
          · cases h
        · obtain ⟨r,t2,h1,h2⟩:=Out.bind_ok h
          split at h2
          · rename_i hpu
            simp only [Out.ok.injEq] at h2
            obtain ⟨rfl,rfl⟩:=h2
            obtain ⟨k1,k2⟩:=hcg _ _ _ _ _ _ h1 hc
            have k3:=hB.i _ _ _ _ r.2 hp' k1
            rw [if_pos hpu] at k3
            exact ⟨hcalli _ _ (fun h=>absurd h hp) k3,by rw [← ht];exact k2⟩
          · rename_i hpu
            simp only [Out.ok.injEq] at h2
            obtain ⟨rfl,rfl⟩:=h2
            obtain ⟨k1,k2⟩:=hcg _ _ _ _ _ _ h1 hc
            have k3:=hB.i _ _ _ _ r.2 hp' k1
            rw [if_neg hpu] at k3
            exact ⟨hcalli _ _ (fun h=>absurd h hp) k3,by rw [← ht];exact k2⟩
    · obtain ⟨v,t1,hv,h⟩:=Out.bind_ok h
      unfold stepOp
      split at h
      · rename_i u hop
        simp only [Out.ok.injEq] at h
        obtain ⟨rfl,rfl⟩:=h
        obtain ⟨h1,h2⟩:=valG_sound hQ hB hcg hv hc
        rw [h1]
        simp only [hop]
        exact ⟨trivial,h2⟩
      · rename_i u p hop
        split at h
        · rename_i id off hag hp
          simp only [Out.ok.injEq] at h
          obtain ⟨rfl,rfl⟩:=h
          obtain ⟨h1,h2⟩:=valG_sound hQ hB hcg hv hc
          rw [h1]
          simp only [hop,hag,hp]
          exact ⟨trivial,h2⟩
        · rename_i hne
          simp only [Out.ok.injEq] at h
          obtain ⟨rfl,rfl⟩:=h
          obtain ⟨h1,h2⟩:=valG_sound hQ hB hcg hv hc
          rw [h1]
          simp only [hop]
          exact ⟨by first | trivial | (split <;> first | rfl | (rename_i hag hp;exact (hne _ _ hag hp).elim)),h2⟩
      · rename_i hn1 hn2
        simp only [Out.ok.injEq] at h
        obtain ⟨rfl,rfl⟩:=h
        obtain ⟨h1,h2⟩:=valG_sound hQ hB hcg hv hc
        rw [h1]
        refine ⟨?_,h2⟩
        cases hop:o.op <;> simp only
        · rename_i x
          cases x <;> simp only
          exact (hn1 _ hop).elim
        · exact (hn2 _ _ hop).elim
def guardG (X:Ctx) (ops:Array Oper) (st:St) (o:Oper) (t:T):Out Bool :=
  match o.guard with
  | none=>.ok true t
  | some (j,want)=>match (ops[j]?).bind (·.dst) with
    | none=>.bad 15 t.n
    | some u=>match st.get X (.tmp u) with
      | .d (.tup [])=>.ok false t
      | v=>(boolG v t).bind fun b t=>.ok (b == want) t
include hQ in
theorem guardG_sound {X:Ctx} {ops:Array Oper} {st:St} {o:Oper} {t t':T} {b:Bool} (h:guardG X ops st o t = .ok b t') (hc:All Q t'.cs):guardOf X ops st o = some b∧All Q t.cs:=by
  unfold guardG at h
  unfold guardOf
  cases hg:o.guard with
  | none =>
    rw [hg] at h
    simp only [Out.ok.injEq] at h
    obtain ⟨rfl,rfl⟩:=h
    exact ⟨rfl,hc⟩
  | some jw =>
    obtain ⟨j,want⟩:=jw
    rw [hg] at h
    simp only at h ⊢
    cases ht:(ops[j]?).bind (·.dst) with
    | none=>rw [ht] at h;cases h
    | some u =>
      rw [ht] at h
      simp only at h ⊢
      split at h
      · rename_i hv
        simp only [Out.ok.injEq] at h
        obtain ⟨rfl,rfl⟩:=h
        rw [hv]
        exact ⟨rfl,hc⟩
      · obtain ⟨x,t1,h1,h2⟩:=Out.bind_ok h
        simp only [Out.ok.injEq] at h2
        obtain ⟨rfl,rfl⟩:=h2
        obtain ⟨k1,k2⟩:=boolG_sound hQ h1 hc
        rw [k1]
        exact ⟨rfl,k2⟩
def stepNewG (X:Ctx) (base:Nat) (o:Oper) (st:St) (t:T):Out St :=
  match o.op with
  | .next it true=>match st.get X it with
    | .it id=>match st.h[id]? with
      | some (.iter s pos)=>(boolG (.d (.bool (decide (pos < s.length)))) t).bind fun b t =>
        match b with
        | true=>.ok ({ s:=st.s,h:=st.h.set id (.iter s (pos + (Utf8.decode ⟨s.toArray⟩ pos).2)),og:=ogBut id st.og:St }.put o.dst (.d (.tup [.bool true,.int .i64 pos,.int .i32 (Utf8.decode ⟨s.toArray⟩ pos).1]))) t
        | false=>.ok (st.put o.dst (.d (.tup [.bool false]))) t
      | _=>.bad 31 t.n
    | _=>.bad 32 t.n
  | .convert ty u x=>ev t (.conv ty u (st.get X x))
      (fun t=>match convV X ty u (st.get X x) with
        | some v=>.ok (st.put o.dst v) t
        | none=>.bad 35 t.n)
      (fun w t=>match w with
        | .v y=>.ok (st.put o.dst y) (t.add fun _=>convV X ty u (st.get X x) = some y)
        | _=>.bad 36 t.n)
  | .lookup ty x k ok=>ev t (.look ty (mapOf st.h (st.get X x)) (st.get X k) ok)
      (fun t=>match lookV X ty (mapOf st.h (st.get X x)) (st.get X k) ok with
        | some v=>.ok (st.put o.dst v) t
        | none=>.bad 37 t.n)
      (fun w t=>match w with
        | .v y=>.ok (st.put o.dst y) (t.add fun _=>lookV X ty (mapOf st.h (st.get X x)) (st.get X k) ok = some y)
        | _=>.bad 38 t.n)
  | _=>match stepNew X base st o with
    | some s=>.ok s t
    | none=>.bad 30 t.n
include hQ in
theorem stepNewG_sound {X:Ctx} {base:Nat} {o:Oper} {st st':St} {t t':T} (h:stepNewG X base o st t = .ok st' t') (hc:All Q t'.cs):stepNew X base st o = some st' ∧ All Q t.cs:=by
  unfold stepNewG at h
  split at h
  · rename_i it hop
    split at h
    · rename_i id hx
      split at h
      · rename_i s pos hh
        obtain ⟨b,t1,h1,h2⟩:=Out.bind_ok h
        have fin:∀ x:Bool,x = b→All Q t1.cs→decide (pos < s.length) = x∧All Q t.cs:=by
          intro x hx hc1
          subst hx
          obtain ⟨k1,k2⟩:=boolG_sound hQ h1 hc1
          exact ⟨by simpa using k1,k2⟩
        unfold stepNew
        simp only [hop,hx,hh]
        cases b with
        | true =>
          simp only [Out.ok.injEq] at h2
          obtain ⟨rfl,rfl⟩:=h2
          obtain ⟨k1,k2⟩:=fin true rfl hc
          rw [if_pos (of_decide_eq_true k1)]
          exact ⟨rfl,k2⟩
        | false =>
          simp only [Out.ok.injEq] at h2
          obtain ⟨rfl,rfl⟩:=h2
          obtain ⟨k1,k2⟩:=fin false rfl hc
          rw [if_neg (of_decide_eq_false k1)]
          exact ⟨rfl,k2⟩
      · cases h
    · cases h
  · rename_i ty u x hop
    have fin:∀ y,convV X ty u (st.get X x) = some y→stepNew X base st o = some (st.put o.dst y):=fun y hy=>by unfold stepNew;simp only [hop,hy,Option.map_some]
    rcases ev_ok h with ⟨w,t1,ht,h⟩ | ⟨t1,ht,h⟩
    · split at h
      · rename_i y
        simp only [Out.ok.injEq] at h
        obtain ⟨rfl,rfl⟩:=h
        simp only [T.add] at hc
        exact ⟨fin y (hQ _ hc.1),by rw [← ht];exact hc.2⟩
      · cases h
    · split at h
      · rename_i y hy
        simp only [Out.ok.injEq] at h
        obtain ⟨rfl,rfl⟩:=h
        exact ⟨fin y hy,by rw [← ht];exact hc⟩
      · cases h
  · rename_i ty x k ok hop
    have fin:∀ y,lookV X ty (mapOf st.h (st.get X x)) (st.get X k) ok = some y→stepNew X base st o = some (st.put o.dst y):=fun y hy=>by unfold stepNew;simp only [hop,mapGet,hy,Option.map_some]
    rcases ev_ok h with ⟨w,t1,ht,h⟩ | ⟨t1,ht,h⟩
    · split at h
      · rename_i y
        simp only [Out.ok.injEq] at h
        obtain ⟨rfl,rfl⟩:=h
        simp only [T.add] at hc
        exact ⟨fin y (hQ _ hc.1),by rw [← ht];exact hc.2⟩
      · cases h
    · split at h
      · rename_i y hy
        simp only [Out.ok.injEq] at h
        obtain ⟨rfl,rfl⟩:=h
        exact ⟨fin y hy,by rw [← ht];exact hc⟩
      · cases h
  · split at h
    · rename_i s hs
      simp only [Out.ok.injEq] at h
      obtain ⟨rfl,rfl⟩:=h
      exact ⟨hs,hc⟩
    · cases h
def stepAllG (X:Ctx) (cg:CallG) (base:Nat) (o:Oper) (st:St) (t:T):Out St :=
  if thawable X o st then .bad 91 t.n else
  match isNew X.P o with
  | true=>stepNewG X base o st t
  | false=>stepG X cg base o st t
include hQ hB hcg in
theorem stepAllG_sound {X:Ctx} {base:Nat} {o:Oper} {st st':St} {t t':T} (h:stepAllG X cg base o st t = .ok st' t') (hc:All Q t'.cs):stepAll X call base o st = some st' ∧ All Q t.cs:=by
  unfold stepAllG at h
  unfold stepAll
  split at h
  · cases h
  rename_i hth
  have hno:thawOp X call o st = none:=by unfold thawOp;rw [if_neg hth]
  rw [hno]
  simp only
  split at h
  · rename_i hn
    rw [if_pos hn]
    exact stepNewG_sound hQ h hc
  · rename_i hn
    rw [if_neg (by simp [hn])]
    exact stepG_sound hQ hB hcg h hc
def runG (X:Ctx) (cg:CallG) (base N:Nat) (ops:Array Oper):List Oper→St→T→Out St
  | [],st,t=>.ok st t
  | o :: r,st,t =>
    if dstOk N o then
      (guardG X ops st o t).bind fun b t =>
        match b with
        | true=>(stepAllG X cg base o st t).bind fun st t=>runG X cg base N ops r st t
        | false=>runG X cg base N ops r (st.put o.dst undefV) t
    else .bad 16 t.n
include hQ hB hcg in
theorem runG_sound {X:Ctx} {base N:Nat} {ops:Array Oper}:∀ (l:List Oper) (st st':St) (t t':T),runG X cg base N ops l st t = .ok st' t' → All Q t'.cs→runOps X call base N ops l st = some st' ∧ All Q t.cs:=by
  intro l
  induction l with
  | nil =>
    intro st st' t t' h hc
    simp only [runG,Out.ok.injEq] at h
    obtain ⟨rfl,rfl⟩:=h
    exact ⟨rfl,hc⟩
  | cons o r ih =>
    intro st st' t t' h hc
    simp only [runG] at h
    simp only [runOps]
    split at h
    · rename_i hN
      rw [if_pos hN]
      obtain ⟨b,t1,h1,h2⟩:=Out.bind_ok h
      cases b with
      | true =>
        simp only at h2
        obtain ⟨s1,t2,h3,h4⟩:=Out.bind_ok h2
        obtain ⟨k1,k2⟩:=ih _ _ _ _ h4 hc
        obtain ⟨k3,k4⟩:=stepAllG_sound hQ hB hcg h3 k2
        obtain ⟨k5,k6⟩:=guardG_sound hQ h1 k4
        rw [k5]
        simp only [k3,k1]
        exact ⟨trivial,k6⟩
      | false =>
        simp only at h2
        obtain ⟨k1,k2⟩:=ih _ _ _ _ h2 hc
        obtain ⟨k5,k6⟩:=guardG_sound hQ h1 k2
        rw [k5]
        simp only [k1]
        exact ⟨trivial,k6⟩
    · cases h
def calleeI (ρ:Operand→V) (o:Oper):Option (FuncId × List V) :=
  match calleeG ρ o with
  | some (g,args)=>if args.all V.pure then none else some (g,args)
  | none=>none
theorem calleeI_A {ρ:Operand→V} {h0:List Ob} {o:Oper} {g:FuncId} {args:List V} {m:Nat} {v:V} {h1:List Ob} (hc:calleeI ρ o = some (g,args)) (hr:reach h0 args = some m) (hcall:call.i g args (h0.take m) = some (v,h1)) (hk:(v.pure && h1.length == m && m != 0) = true) :
    (∃ c,o.op = .call c)∧args.all V.pure = false∧callA call h0 ρ o = some (v,h1):=by
  unfold calleeI at hc
  split at hc
  · rename_i g' args' hcg
    split at hc
    · cases hc
    · rename_i hp
      simp only [Option.some.injEq,Prod.mk.injEq] at hc
      obtain ⟨rfl,rfl⟩:=hc
      have hp':args'.all V.pure = false:=by simpa using hp
      unfold calleeG at hcg
      split at hcg
      · rename_i c hop
        split at hcg
        · rename_i f hf
          split at hcg
          · rename_i g2 a b hce
            simp only [Option.some.injEq,Prod.mk.injEq] at hcg
            obtain ⟨rfl,rfl⟩:=hcg
            refine ⟨⟨c,hop⟩,hp',?_⟩
            unfold callA
            simp only [hop,hf,hce,hr,hcall]
            rw [if_neg (by rw [hp'];simp),if_pos hk]
          · cases hcg
        · cases hcg
      · cases hcg
  · cases hc
theorem calleeI_val {X:Ctx} {ρ:Operand→V} {h:List Ob} {o:Oper} {g:FuncId} {args:List V} (hc:calleeI ρ o = some (g,args)):valOp X call ρ h o = none:=by
  unfold calleeI at hc
  split at hc
  · rename_i g' args' hcg
    split at hc
    · cases hc
    · rename_i hp
      rw [calleeG_val hcg,if_neg hp]
  · cases hc
def recG (X:Ctx) (cg:CallG) (ops:Array Oper) (h0:List Ob) (o:Oper) (st:St) (t:T):Out Rec :=
  (guardG X ops st o t).bind fun b t =>
    match b with
    | false=>.ok ⟨undefV,none,[],[]⟩ t
    | true =>
      match o.op with
      | .alloc ty=>match zeroT X.P ty with
        | some z=>if z.cells.all D.one then .ok ⟨.obj st.h.length 0,none,[Ob.cells (openZero X.P ty z.cells)],[]⟩ t else .bad 17 t.n
        | none=>.bad 18 t.n
      | .assign x=>.ok ⟨(st.get X x).copy,none,[],[]⟩ t
      | .move (.tmp u)=>(valG X cg (st.get X) h0 o t).bind fun v t=>.ok ⟨v,some (.slot u),[],[]⟩ t
      | .load ty p=>(valG X cg (st.get X) h0 o t).bind fun v t =>
        match isAggT X.P ty,st.get X p with
        | false,.obj id off=>.ok ⟨v,some (.cell id off),[],[]⟩ t
        | _,_=>.ok ⟨v,none,[],[]⟩ t
      | _ =>
        match calleeI (st.get X) o with
        | some (g,args) =>
          if st.h.length == h0.length then
            match reach h0 args with
            | some m=>(ev t (.calli g args (h0.take m))
                (fun t=>(cg g args (h0.take m) t).bind fun r t=>if r.1.pure then .ok (r.1,r.2.take (h0.take m).length) t else .bad 40 t.n)
                (fun w t=>match w with
                  | .c x h' => .ok (x,h') (t.add fun call=>(args.all V.pure = true→call.p g args = none)∧call.i g args (h0.take m) = some (x,h'))
                  | _=>.bad 41 t.n)).bind fun r t=>if r.1.pure && r.2.length == m && m != 0 then .ok ⟨r.1,none,[],r.2⟩ t else .bad 42 t.n
            | none=>.bad 43 t.n
          else .bad 44 t.n
        | none=>(valG X cg (st.get X) h0 o t).bind fun v t=>.ok ⟨v,none,[],[]⟩ t
include hQ hB hcg in
theorem recG_sound {X:Ctx} {ops:Array Oper} {h0:List Ob} {o:Oper} {st:St} {r:Rec} {t t':T} (h:recG X cg ops h0 o st t = .ok r t') (hc:All Q t'.cs):recA X call ops h0 o st = some r∧All Q t.cs:=by
  unfold recG at h
  unfold recA
  obtain ⟨b,t1,hg,h⟩:=Out.bind_ok h
  cases b with
  | false =>
    simp only [Out.ok.injEq] at h
    obtain ⟨rfl,rfl⟩:=h
    obtain ⟨h1,h2⟩:=guardG_sound hQ hg hc
    rw [h1]
    exact ⟨rfl,h2⟩
  | true =>
    simp only at h
    have val:∀ (F:V→Rec),(valG X cg (st.get X) h0 o t1).bind (fun v t=>.ok (F v) t) = .ok r t' → ∃ v,valOp X call (st.get X) h0 o = some v∧r = F v∧All Q t1.cs:=by
      intro F hh
      obtain ⟨v,t2,hv,hh⟩:=Out.bind_ok hh
      simp only [Out.ok.injEq] at hh
      obtain ⟨rfl,rfl⟩:=hh
      obtain ⟨k1,k2⟩:=valG_sound hQ hB hcg hv hc
      exact ⟨v,k1,rfl,k2⟩
    split at h
    · rename_i ty hop
      split at h
      · rename_i z hz
        split at h
        · rename_i hcnd
          simp only [Out.ok.injEq] at h
          obtain ⟨rfl,rfl⟩:=h
          obtain ⟨h1,h2⟩:=guardG_sound hQ hg hc
          rw [h1]
          have hv:valOp X call (st.get X) h0 o = none:=by unfold valOp;rw [hop]
          simp only [hv,hop,hz]
          rw [if_pos hcnd]
          exact ⟨rfl,h2⟩
        · cases h
      · cases h
    · rename_i x hop
      simp only [Out.ok.injEq] at h
      obtain ⟨rfl,rfl⟩:=h
      obtain ⟨h1,h2⟩:=guardG_sound hQ hg hc
      rw [h1]
      have hv:valOp X call (st.get X) h0 o = none:=by unfold valOp;rw [hop]
      simp only [hv,hop]
      exact ⟨trivial,h2⟩
    · rename_i u hop
      obtain ⟨v,k1,k2,k3⟩:=val _ h
      obtain ⟨h1,h2⟩:=guardG_sound hQ hg k3
      rw [h1]
      simp only [k1,hop,k2]
      exact ⟨trivial,h2⟩
    · rename_i ty p hop
      obtain ⟨v,t2,hv,h⟩:=Out.bind_ok h
      have key:(match isAggT X.P ty,st.get X p with | false,.obj id off=>some (⟨v,some (.cell id off),[],[]⟩:Rec) | _,_=>some ⟨v,none,[],[]⟩) = some r∧t' = t2:=by
        split at h
        · rename_i id off hag hp
          simp only [Out.ok.injEq] at h
          obtain ⟨rfl,rfl⟩:=h
          exact ⟨by simp only [hag,hp],rfl⟩
        · rename_i hne
          simp only [Out.ok.injEq] at h
          obtain ⟨rfl,rfl⟩:=h
          refine ⟨?_,rfl⟩
          first
            | rfl
            | (split
               · rename_i hag hp;exact (hne _ _ hag hp).elim
               · rfl)
      obtain ⟨k1,rfl⟩:=key
      obtain ⟨k2,k3⟩:=valG_sound hQ hB hcg hv hc
      obtain ⟨h1,h2⟩:=guardG_sound hQ hg k3
      rw [h1]
      simp only [k2,hop]
      exact ⟨k1,h2⟩
    · rename_i hn0 hn1 hn2 hn3
      split at h
      · rename_i g args hci
        split at h
        · rename_i hlen
          split at h
          · rename_i m hm
            obtain ⟨vr,t2,h5,h6⟩:=Out.bind_ok h
            split at h6
            · rename_i hk
              simp only [Out.ok.injEq] at h6
              obtain ⟨rfl,rfl⟩:=h6
              have fin:call.i g args (h0.take m) = some (vr.1,vr.2)→All Q t1.cs→recA X call ops h0 o st = some ⟨vr.1,none,[],vr.2⟩ ∧ All Q t.cs:=by
                intro k1 k2
                obtain ⟨⟨c,hop⟩,_,k3⟩:=calleeI_A hci hm k1 hk
                obtain ⟨h1,h2⟩:=guardG_sound hQ hg k2
                refine ⟨?_,h2⟩
                unfold recA
                rw [h1]
                simp only [calleeI_val (X:=X) (call:=call) (h:=h0) hci,hop,hlen,if_true,k3,Option.map_some]
              have hpf:args.all V.pure = false:=by
                unfold calleeI at hci
                split at hci
                · split at hci
                  · cases hci
                  · rename_i hp
                    simp only [Option.some.injEq,Prod.mk.injEq] at hci
                    obtain ⟨rfl,rfl⟩:=hci
                    simpa using hp
                · cases hci
              have:=fin
              unfold recA at this
              rcases ev_ok h5 with ⟨w,t3,ht,h5⟩ | ⟨t3,ht,h5⟩
              · split at h5
                · simp only [Out.ok.injEq] at h5
                  obtain ⟨rfl,rfl⟩:=h5
                  simp only [T.add] at hc
                  exact this (hQ _ hc.1).2 (by rw [← ht];exact hc.2)
                · cases h5
              · obtain ⟨r2,t4,h7,h8⟩:=Out.bind_ok h5
                split at h8
                · rename_i hpu
                  simp only [Out.ok.injEq] at h8
                  obtain ⟨rfl,rfl⟩:=h8
                  obtain ⟨k1,k2⟩:=hcg _ _ _ _ _ _ h7 hc
                  have k3:=hB.i _ _ _ _ r2.2 hpf k1
                  rw [if_pos hpu] at k3
                  exact this k3 (by rw [← ht];exact k2)
                · cases h8
            · cases h6
          · cases h
        · cases h
      · obtain ⟨v,k1,k2,k3⟩:=val _ h
        obtain ⟨h1,h2⟩:=guardG_sound hQ hg k3
        rw [h1]
        simp only [k1]
        refine ⟨?_,h2⟩
        subst k2
        cases hop:o.op <;> simp only
def runAG (X:Ctx) (cg:CallG) (N:Nat) (ops:Array Oper) (h0:List Ob):List Oper→Bk→St→T→Out St
  | [],_,st,t=>.ok st t
  | o :: r,q,st,t =>
    if dstOk N o then (recG X cg ops h0 o st t).bind fun rc t=>match beside ops (st.get X) o rc q with
      | some q=>runAG X cg N ops h0 r q (rc.on o.dst st) t
      | none=>.bad 45 t.n
    else .bad 19 t.n
include hQ hB hcg in
theorem runAG_sound {X:Ctx} {N:Nat} {ops:Array Oper} {h0:List Ob}:∀ (l:List Oper) (q:Bk) (st st':St) (t t':T),runAG X cg N ops h0 l q st t = .ok st' t' → All Q t'.cs→runA X call N ops h0 l q st = some st' ∧ All Q t.cs:=by
  intro l
  induction l with
  | nil =>
    intro q st st' t t' h hc
    simp only [runAG,Out.ok.injEq] at h
    obtain ⟨rfl,rfl⟩:=h
    exact ⟨rfl,hc⟩
  | cons o r ih =>
    intro q st st' t t' h hc
    simp only [runAG] at h
    simp only [runA]
    split at h
    · rename_i hN
      rw [if_pos hN]
      obtain ⟨rc,t1,h1,h2⟩:=Out.bind_ok h
      split at h2
      · rename_i q1 hq1
        obtain ⟨k1,k2⟩:=ih _ _ _ _ _ h2 hc
        obtain ⟨k3,k4⟩:=recG_sound hQ hB hcg h1 k2
        rw [k3]
        simp only [hq1]
        exact ⟨k1,k4⟩
      · cases h2
    · cases h
def loopG (body:St→T→Out (Ex × St)) (keep:List Nat) (n:Nat):Nat→St→T→Out (Ex × St)
  | 0,_,t=>.bad 20 t.n
  | k + 1,st,t=>(body (clean keep n st) t).bind fun r t=>match r with
    | (.nrm,st)=>loopG body keep n k st t
    | r=>.ok r t
theorem loopG_sound {bodyG:St→T→Out (Ex × St)} {body:St→Option (Ex × St)} (hb:∀ (st:St) (r:Ex × St) (t t':T),bodyG st t = .ok r t' → All Q t'.cs→body st = some r∧All Q t.cs) {keep:List Nat} {n:Nat} :
    ∀ (k:Nat) (st:St) (r:Ex × St) (t t':T),loopG bodyG keep n k st t = .ok r t' → All Q t'.cs→loopN body keep n k st = some r∧All Q t.cs:=by
  intro k
  induction k with
  | zero=>intro st r t t' h;simp [loopG] at h
  | succ k ih =>
    intro st r t t' h hc
    simp only [loopG] at h
    simp only [loopN]
    obtain ⟨r1,t1,h1,h2⟩:=Out.bind_ok h
    split at h2
    · rename_i st1
      obtain ⟨k1,k2⟩:=ih _ _ _ _ h2 hc
      obtain ⟨k3,k4⟩:=hb _ _ _ _ h1 k2
      rw [k3]
      exact ⟨k1,k4⟩
    · rename_i hne
      simp only [Out.ok.injEq] at h2
      obtain ⟨rfl,rfl⟩:=h2
      obtain ⟨k3,k4⟩:=hb _ _ _ _ h1 hc
      rw [k3]
      refine ⟨?_,k4⟩
      obtain ⟨e,st1⟩:=r1
      cases e with
      | nrm=>exact (hne _ rfl).elim
      | exit i=>rfl
      | ret=>rfl
def execG (X:Ctx) (cg:CallG) (base N fuel:Nat):AC→St→T→Out (Ex × St)
  | .skip,st,t=>.ok (.nrm,st) t
  | .region ops keep,st,t =>
    (runG X cg base N ops ops.toList { st with og:=[] } t).bind fun st t=>.ok (.nrm,{ st with s:=keepS keep st.s,og:=[] }) t
  | .draw ops k keep,st,t =>
    if drawGoK X ops k then
      ((runAG X cg N ops st.h (ops.toList.take k) bk0 { st with og:=[] } t).bind fun st t=>runG X cg base N ops (ops.toList.drop k) st t).bind fun st t=>.ok (.nrm,{ st with s:=keepS keep st.s,og:=[] }) t
    else .bad 21 t.n
  | .seq a b,st,t=>(execG X cg base N fuel a st t).bind fun r t=>match r with
    | (.nrm,st)=>execG X cg base N fuel b st t
    | r=>.ok r t
  | .cond c a b,st,t=>(boolG (st.get X c) t).bind fun x t =>
    match x with
    | true=>execG X cg base N fuel a st t
    | false=>execG X cg base N fuel b st t
  | .block id b,st,t=>(execG X cg base N fuel b st t).bind fun r t=>match r with
    | (.exit i,st)=>.ok (if i = id then .nrm else .exit i,st) t
    | r=>.ok r t
  | .loop keep b,st,t=>ev t (.l base N keep b st)
      (fun t=>loopG (fun st t=>execG X cg base N fuel b st t) keep st.h.length fuel st t)
      (fun w t=>match w with
        | .l e st' => .ok (e,st') (t.add fun call=>loopN (fun st=>exec X call base N fuel b st) keep st.h.length fuel st = some (e,st'))
        | _=>.bad 22 t.n)
  | .exit id,st,t=>.ok (.exit id,st) t
  | .ret,st,t=>.ok (.ret,st) t
  | .bad,_,t=>.bad 23 t.n
include hQ hB hcg in
theorem execG_sound {X:Ctx} {base N fuel:Nat}:∀ (c:AC) (st:St) (r:Ex × St) (t t':T),execG X cg base N fuel c st t = .ok r t' → All Q t'.cs→exec X call base N fuel c st = some r∧All Q t.cs:=by
  intro c
  induction c with
  | skip=>intro st r t t' h hc;simp only [execG,Out.ok.injEq] at h;obtain ⟨rfl,rfl⟩:=h;exact ⟨rfl,hc⟩
  | region ops keep =>
    intro st r t t' h hc
    simp only [execG] at h
    obtain ⟨st1,t1,h1,h2⟩:=Out.bind_ok h
    simp only [Out.ok.injEq] at h2
    obtain ⟨rfl,rfl⟩:=h2
    obtain ⟨h3,h4⟩:=runG_sound hQ hB hcg _ _ _ _ _ h1 hc
    simp only [exec,h3]
    exact ⟨trivial,h4⟩
  | draw ops k keep =>
    intro st r t t' h hc
    simp only [execG] at h
    split at h
    · rename_i hm
      obtain ⟨st1,t1,h1,h2⟩:=Out.bind_ok h
      obtain ⟨st2,t2,h3,h4⟩:=Out.bind_ok h1
      simp only [Out.ok.injEq] at h2
      obtain ⟨rfl,rfl⟩:=h2
      obtain ⟨h5,h6⟩:=runG_sound hQ hB hcg _ _ _ _ _ h4 hc
      obtain ⟨h7,h8⟩:=runAG_sound hQ hB hcg _ _ _ _ _ _ h3 h6
      simp only [exec,runDraw,runDraw0]
      rw [if_pos hm,h7]
      simp only [h5]
      exact ⟨trivial,h8⟩
    · cases h
  | seq x y ihx ihy =>
    intro st r t t' h hc
    simp only [execG] at h
    simp only [exec]
    obtain ⟨r1,t1,h1,h2⟩:=Out.bind_ok h
    split at h2
    · obtain ⟨k1,k2⟩:=ihy _ _ _ _ h2 hc
      obtain ⟨h3,h4⟩:=ihx _ _ _ _ h1 k2
      rw [h3]
      exact ⟨k1,h4⟩
    · rename_i hne
      simp only [Out.ok.injEq] at h2
      obtain ⟨rfl,rfl⟩:=h2
      obtain ⟨h3,h4⟩:=ihx _ _ _ _ h1 hc
      rw [h3]
      refine ⟨?_,h4⟩
      obtain ⟨e,st1⟩:=r1
      cases e with
      | nrm=>exact (hne _ rfl).elim
      | exit i=>rfl
      | ret=>rfl
  | cond c x y ihx ihy =>
    intro st r t t' h hc
    simp only [execG] at h
    simp only [exec]
    obtain ⟨b,t1,h1,h2⟩:=Out.bind_ok h
    cases b with
    | true =>
      obtain ⟨k1,k2⟩:=ihx _ _ _ _ h2 hc
      obtain ⟨h3,h4⟩:=boolG_sound hQ h1 k2
      rw [h3]
      exact ⟨k1,h4⟩
    | false =>
      obtain ⟨k1,k2⟩:=ihy _ _ _ _ h2 hc
      obtain ⟨h3,h4⟩:=boolG_sound hQ h1 k2
      rw [h3]
      exact ⟨k1,h4⟩
  | block id b ih =>
    intro st r t t' h hc
    simp only [execG] at h
    simp only [exec]
    obtain ⟨r1,t1,h1,h2⟩:=Out.bind_ok h
    split at h2
    · simp only [Out.ok.injEq] at h2
      obtain ⟨rfl,rfl⟩:=h2
      obtain ⟨h3,h4⟩:=ih _ _ _ _ h1 hc
      rw [h3]
      exact ⟨rfl,h4⟩
    · rename_i hne
      simp only [Out.ok.injEq] at h2
      obtain ⟨rfl,rfl⟩:=h2
      obtain ⟨h3,h4⟩:=ih _ _ _ _ h1 hc
      rw [h3]
      refine ⟨?_,h4⟩
      obtain ⟨e,st1⟩:=r1
      cases e with
      | nrm=>rfl
      | exit i=>exact (hne _ _ rfl).elim
      | ret=>rfl
  | loop keep b ih =>
    intro st r t t' h hc
    simp only [execG] at h
    simp only [exec]
    rcases ev_ok h with ⟨w,t1,ht,h⟩ | ⟨t1,ht,h⟩
    · split at h
      · simp only [Out.ok.injEq] at h
        obtain ⟨rfl,rfl⟩:=h
        simp only [T.add] at hc
        exact ⟨hQ _ hc.1,by rw [← ht];exact hc.2⟩
      · cases h
    · obtain ⟨h3,h4⟩:=loopG_sound (fun st r t t' h hc=>ih st r t t' h hc) _ _ _ t1 _ h hc
      exact ⟨h3,by rw [← ht];exact h4⟩
  | exit id=>intro st r t t' h hc;simp only [execG,Out.ok.injEq] at h;obtain ⟨rfl,rfl⟩:=h;exact ⟨rfl,hc⟩
  | ret=>intro st r t t' h hc;simp only [execG,Out.ok.injEq] at h;obtain ⟨rfl,rfl⟩:=h;exact ⟨rfl,hc⟩
  | bad=>intro st r t t' h hc;simp [execG] at h
def funG (X:Ctx) (cg:CallG) (fuel:Nat) (f:FuncId) (args:List V) (h:List Ob) (t:T):Out (V × List Ob) :=
  match xiOf X f args h with
  | some (some r)=>.ok r t
  | some none=>.bad 35 t.n
  | none =>
  match X.ext f,X.P.funcs[f]? with
  | none,some fn=>match fn.body with
    | some c=>if fn.name == "runtime.NumGoroutine" then .bad 24 t.n else
      (execG X cg h.length fn.ntmps fuel (annotFn fn c) { s:=argEnv 0 (args.map V.copy),h:=h,og:=[] } t).bind fun r t =>
        match r with
        | (.exit _,_)=>.bad 25 t.n
        | (_,st)=>match results X fn st with
          | some r=>.ok r t
          | none=>.bad 26 t.n
    | none=>.bad 27 t.n
  | some F,_=>match toDs args with
    | some ds=>match F ds with
      | some v=>.ok (v,[]) t
      | none=>.bad 33 t.n
    | none=>.bad 34 t.n
  | _,_=>.bad 28 t.n
def bodyC (X:Ctx) (call:CallF) (fuel:Nat) (f:FuncId) (args:List V) (h:List Ob):Option (V × List Ob) :=
  match xiOf X f args h with
  | some r=>r
  | none =>
  match X.ext f,X.P.funcs[f]? with
  | none,some fn=>match fn.body with
    | some c=>if fn.name == "runtime.NumGoroutine" then none else bodyOn X call fuel fn c (args.map V.copy) h
    | none=>none
  | some F,_=>match toDs args with
    | some ds=>(F ds).map fun v=>(v,[])
    | none=>none
  | _,_=>none
theorem toDs_pure:∀ {vs:List V} {ds:List D},toDs vs = some ds→vs.all V.pure = true
  | [],_,_=>rfl
  | v :: vs,ds,h=>by
    simp only [toDs] at h
    split at h
    · rename_i d ds' hd hds
      simp only [List.all_cons,Bool.and_eq_true]
      exact ⟨by cases v <;> simp [V.toD] at hd <;> rfl,toDs_pure hds⟩
    · cases h
include hQ hB hcg in
theorem funG_sound {X:Ctx} {fuel:Nat} {f:FuncId} {args:List V} {h:List Ob} {r:V × List Ob} {t t':T} (hh:funG X cg fuel f args h t = .ok r t') (hc:All Q t'.cs):bodyC X call fuel f args h = some r∧All Q t.cs:=by
  unfold funG at hh
  cases hxi:xiOf X f args h with
  | some o =>
    rw [hxi] at hh
    cases o with
    | none=>cases hh
    | some r0 =>
      simp only [Out.ok.injEq] at hh
      obtain ⟨rfl,rfl⟩:=hh
      refine ⟨?_,hc⟩
      unfold bodyC
      rw [hxi]
  | none =>
  rw [hxi] at hh
  simp only at hh
  split at hh
  · rename_i fn hx hfn
    split at hh
    · rename_i c hb
      split at hh
      · cases hh
      · rename_i hn
        unfold bodyC
        simp only [hxi,hx,hfn,hb]
        rw [if_neg hn]
        obtain ⟨r1,t1,h1,h2⟩:=Out.bind_ok hh
        obtain ⟨e,st⟩:=r1
        have fin:(match results X fn st with | some r=>Out.ok r t1 | none=>.bad 26 t1.n) = .ok r t' → results X fn st = some r∧t1 = t':=by
          intro h3
          split at h3
          · rename_i u hu
            simp only [Out.ok.injEq] at h3
            obtain ⟨rfl,rfl⟩:=h3
            exact ⟨hu,rfl⟩
          · cases h3
        unfold bodyOn
        cases e with
        | exit i=>simp at h2
        | nrm =>
          obtain ⟨h3,rfl⟩:=fin h2
          obtain ⟨k1,k2⟩:=execG_sound hQ hB hcg _ _ _ _ _ h1 hc
          rw [k1]
          exact ⟨h3,k2⟩
        | ret =>
          obtain ⟨h3,rfl⟩:=fin h2
          obtain ⟨k1,k2⟩:=execG_sound hQ hB hcg _ _ _ _ _ h1 hc
          rw [k1]
          exact ⟨h3,k2⟩
    · cases hh
  · rename_i F hx
    split at hh
    · rename_i ds hds
      split at hh
      · rename_i v hv
        simp only [Out.ok.injEq] at hh
        obtain ⟨rfl,rfl⟩:=hh
        refine ⟨?_,hc⟩
        unfold bodyC
        simp only [hxi]
        split
        · rename_i h1 h2;rw [hx] at h1;cases h1
        · rename_i F' h1;rw [hx] at h1;cases h1;simp only [hds,hv,Option.map_some]
        · simp_all
      · cases hh
    · cases hh
  · cases hh
end
def callG (X:Ctx) (fuel:Nat):Nat→CallG
  | 0=>fun _ _ _ t=>.bad 29 t.n
  | k + 1=>fun f args h t=>funG X (callG X fuel k) fuel f args h t
theorem callOf_succ (X:Ctx) (fuel k:Nat):CallOf (callN X fuel (k + 1)) (bodyC X (callN X fuel k) fuel):=by
  have rp:∀ g args v h',args.all V.pure = true→bodyC X (callN X fuel k) fuel g args [] = some (v,h')→runP X (callN X fuel k) fuel g args = some (v,h'):=by
    intro g args v h' hap hh
    unfold bodyC at hh
    rw [show xiOf X g args [] = none by unfold xiOf;rw [if_pos hap]] at hh
    simp only at hh
    unfold runP
    split at hh
    · rename_i fn hx hfn
      simp only [extV_none hx,hfn]
      split at hh
      · rename_i c hb
        simp only [hb]
        split at hh
        · cases hh
        · rename_i hn
          rw [if_neg hn]
          exact hh
      · cases hh
    · rename_i F hx
      split at hh
      · rename_i ds hds
        rw [extV_some hx hds]
        cases hF:F ds with
        | none=>rw [hF] at hh;cases hh
        | some z =>
          rw [hF] at hh
          exact hh
      · cases hh
    · cases hh
  refine ⟨fun g args v h' hp hh hv=>?_,fun g args v h' hp hh hv=>⟨?_,fun h=>?_⟩,fun g args v h h' hp hh=>?_⟩
  · simp only [callN,rp _ _ _ _ hp hh,hv,if_true]
  · simp [callN,rp _ _ _ _ hp hh,hv]
  · simp only [callN,rp _ _ _ _ hp hh,hp,if_true]
  · simp only [callN,hp]
    unfold runI
    unfold bodyC at hh
    cases hxi:xiOf X g args h with
    | some o =>
      rw [hxi] at hh
      simp only at hh
      subst hh
      unfold xiOf at hxi
      rw [if_neg (by rw [hp];simp)] at hxi
      split at hxi
      · cases hxi
      · simp only [Option.some.injEq] at hxi
        split at hxi
        · split at hxi
          · rename_i hvl
            simp only [Option.some.injEq,Prod.mk.injEq] at hxi
            obtain ⟨rfl,rfl⟩:=hxi
            simp only [Bool.and_eq_true,beq_iff_eq] at hvl
            rw [if_pos hvl.1,List.take_of_length_le (by omega)]
            simp
          · cases hxi
        · cases hxi
    | none =>
    rw [hxi] at hh
    simp only at hh
    simp only [Bool.false_eq_true,if_false]
    split at hh
    · rename_i fn hx hfn
      simp only [hfn,hx]
      split at hh
      · rename_i c hb
        simp only [hb]
        split at hh
        · cases hh
        · rename_i hn
          simp only [hn,hh]
          simp
          split <;> rfl
      · cases hh
    · rename_i F hx
      split at hh
      · rename_i ds hds
        rw [toDs_pure hds] at hp
        cases hp
      · cases hh
    · cases hh
def FUEL:Nat:=2 ^ 60
def Ev (X:Ctx) (c:Fact):Prop:=∃ K,∀ k,K≤k→c (callN X FUEL k)
def Evs (X:Ctx) (cs:List Fact):Prop:=All (Ev X) cs
def Ans (X:Ctx) (f:FuncId) (args:List V) (v:V):Prop:=Ev X fun call=>call.p f args = some v
def AnsB (X:Ctx) (f:FuncId) (args:List V) (h:List Ob) (v:V) (h':List Ob):Prop:=Ev X fun call=>bodyC X call FUEL f args h = some (v,h')
theorem Ev.pure {X:Ctx} {q:Prop} (h:q):Ev X fun _=>q:=⟨0,fun _ _=>h⟩
theorem Evs.all {X:Ctx}:∀ {cs:List Fact},Evs X cs→∃ K,All (fun c=>∀ k,K≤k→c (callN X FUEL k)) cs
  | [],_=>⟨0,trivial⟩
  | c :: cs,h=>by
    obtain ⟨⟨K1,h1⟩,h2⟩:=h
    obtain ⟨K2,h3⟩:=Evs.all h2
    have mono:∀ {cs:List Fact},All (fun c=>∀ k,K2≤k→c (callN X FUEL k)) cs→All (fun c=>∀ k,K1 + K2≤k→c (callN X FUEL k)) cs:=by
      intro cs
      induction cs with
      | nil=>intro _;trivial
      | cons d ds ih=>intro h;exact ⟨fun k hk=>h.1 k (by omega),ih h.2⟩
    exact ⟨K1 + K2,fun k hk=>h1 k (by omega),mono h3⟩
theorem callG_sound {X:Ctx} {K:Nat}:∀ d j,K≤j→∀ g args h t r t',callG X FUEL d g args h t = .ok r t' → All (fun c=>∀ k,K≤k→c (callN X FUEL k)) t'.cs→bodyC X (callN X FUEL (j + d)) FUEL g args h = some r∧All (fun c=>∀ k,K≤k→c (callN X FUEL k)) t.cs:=by
  intro d
  induction d with
  | zero=>intro j _ g args h t r t' hh;simp [callG] at hh
  | succ d ih =>
    intro j hj g args h t r t' hh hc
    simp only [callG] at hh
    have e:j + (d + 1) = (j + d) + 1:=by omega
    rw [e]
    exact funG_sound (fun c hq=>hq _ (by omega)) (callOf_succ X FUEL (j + d)) (fun g args h t r t' h1 h2=>ih j hj g args h t r t' h1 h2) hh hc
theorem pathB {X:Ctx} (d:Nat) {f:FuncId} {args:List V} {h h':List Ob} {os:List (Nat × What)} {n:Nat} {ask:Bool} {v:V} {cs:List Fact} (hc:Evs X cs) (hr:callG X FUEL d f args h ⟨0,false,os,[]⟩ = .ok (v,h') ⟨n,ask,[],cs⟩):AnsB X f args h v h':=by
  obtain ⟨K,hK⟩:=hc.all
  refine ⟨K + d,fun k hk=>?_⟩
  have:=callG_sound d (k - d) (K:=K) (by omega) f args h _ _ _ hr hK
  rw [show k - d + d = k by omega] at this
  exact this.1
theorem AnsB.ans {X:Ctx} {f:FuncId} {args:List V} {v:V} {h':List Ob} (h:AnsB X f args [] v h') (hp:args.all V.pure = true) (hv:v.pure = true):Ans X f args v:=by
  obtain ⟨K,h⟩:=h
  refine ⟨K + 1,fun k hk=>?_⟩
  obtain ⟨k,rfl⟩:∃ j,k = j + 1:=⟨k - 1,by omega⟩
  exact (callOf_succ X FUEL k).p _ _ _ _ hp (h k (by omega)) hv
theorem path {X:Ctx} (d:Nat) {f:FuncId} {args:List V} {h':List Ob} (os:List (Nat × What)) {n:Nat} {ask:Bool} {v:V} {cs:List Fact} (hc:Evs X cs) (hr:callG X FUEL d f args [] ⟨0,false,os,[]⟩ = .ok (v,h') ⟨n,ask,[],cs⟩) (hp:args.all V.pure = true) (hv:v.pure = true):Ans X f args v :=
  (pathB d hc hr).ans hp hv
theorem Ans.to {X:Ctx} {f:FuncId} {args:List V} {v v':V} (h:Ans X f args v) (e:v = v'):Ans X f args v':=e ▸ h
theorem AnsB.calli {X:Ctx} {f:FuncId} {args:List V} {h:List Ob} {v:V} {h':List Ob} (hb:AnsB X f args h v h') (hp:args.all V.pure = false):Ev X fun call=>(args.all V.pure = true→call.p f args = none)∧call.i f args h = some (if v.pure then (v,h'.take h.length) else (v,h')):=by
  obtain ⟨K,hb⟩:=hb
  refine ⟨K + 1,fun k hk=>?_⟩
  obtain ⟨k,rfl⟩:∃ j,k = j + 1:=⟨k - 1,by omega⟩
  exact ⟨fun h=>(by rw [hp] at h;cases h),(callOf_succ X FUEL k).i _ _ _ _ _ hp (hb k (by omega))⟩
theorem AnsB.new {X:Ctx} {f:FuncId} {args:List V} {v:V} {h':List Ob} (hb:AnsB X f args [] v h') (hp:args.all V.pure = true) (hv:v.pure = false) (h:List Ob):Ev X fun call=>(args.all V.pure = true→call.p f args = none)∧call.i f args h = some (v.shift h.length,h ++ h'.map (Ob.shift h.length)):=by
  obtain ⟨K,hb⟩:=hb
  refine ⟨K + 1,fun k hk=>?_⟩
  obtain ⟨k,rfl⟩:∃ j,k = j + 1:=⟨k - 1,by omega⟩
  obtain ⟨h1,h2⟩:=(callOf_succ X FUEL k).q _ _ _ _ hp (hb k (by omega)) hv
  exact ⟨fun _=>h1,h2 h⟩
def Lp (X:Ctx) (base N:Nat) (keep:List Nat) (b:AC) (n m:Nat) (st:St) (r:Ex × St):Prop:=Ev X fun call=>loopN (fun st=>exec X call base N FUEL b st) keep n m st = some r
def Rd (X:Ctx) (base N:Nat) (b:AC) (st:St) (r:Ex × St):Prop:=Ev X fun call=>exec X call base N FUEL b st = some r
def RdC (X:Ctx) (base N:Nat) (keep:List Nat) (b:AC) (n:Nat) (st st':St):Prop:=Ev X fun call=>∃ st1,exec X call base N FUEL b st = some (.nrm,st1)∧clean keep n st1 = st'
def LpC (X:Ctx) (base N:Nat) (keep:List Nat) (b:AC) (n m:Nat) (st:St) (r:Ex × St):Prop:=Ev X fun call=>(match exec X call base N FUEL b st with | some (.nrm,st1)=>loopN (fun st=>exec X call base N FUEL b st) keep n m st1 | r=>r) = some r
theorem RdC.to {X:Ctx} {base N:Nat} {keep:List Nat} {b:AC} {n:Nat} {st st' st'':St} (h:RdC X base N keep b n st st') (e:st' = st''):RdC X base N keep b n st st'':=e ▸ h
theorem Rd.to {X:Ctx} {base N:Nat} {b:AC} {st:St} {r r':Ex × St} (h:Rd X base N b st r) (e:r = r'):Rd X base N b st r':=e ▸ h
theorem LpC.next {X:Ctx} {base N:Nat} {keep:List Nat} {b:AC} {n m:Nat} {st st':St} {r:Ex × St} (h1:RdC X base N keep b n st st') (h2:LpC X base N keep b n m st' r):LpC X base N keep b n (m + 1) st r:=by
  obtain ⟨K1,h1⟩:=h1
  obtain ⟨K2,h2⟩:=h2
  refine ⟨K1 + K2,fun k hk=>?_⟩
  obtain ⟨st1,e1,e2⟩:=h1 k (by omega)
  have:=h2 k (by omega)
  simp only at this
  rw [← e2] at this
  simp only [e1]
  unfold loopN
  exact this
theorem LpC.last {X:Ctx} {base N:Nat} {keep:List Nat} {b:AC} {n m:Nat} {st st1:St} {e:Ex} (h1:Rd X base N b st (e,st1)) (he:e ≠ .nrm):LpC X base N keep b n m st (e,st1):=by
  obtain ⟨K1,h1⟩:=h1
  refine ⟨K1,fun k hk=>?_⟩
  have:=h1 k hk
  simp only at this
  simp only [this]
  cases e with
  | nrm=>exact (he rfl).elim
  | _=>rfl
theorem LpC.start {X:Ctx} {base N:Nat} {keep:List Nat} {b:AC} {n m:Nat} {st st':St} {r:Ex × St} (h:LpC X base N keep b n m st' r) (hc:clean keep n st = st'):Lp X base N keep b n (m + 1) st r:=by
  obtain ⟨K,h⟩:=h
  refine ⟨K,fun k hk=>?_⟩
  have:=h k hk
  simp only at this
  rw [← hc] at this
  unfold loopN
  exact this
theorem Lp.next {X:Ctx} {base N:Nat} {keep:List Nat} {b:AC} {n m:Nat} {st st1:St} {r:Ex × St} (h1:Rd X base N b (clean keep n st) (.nrm,st1)) (h2:Lp X base N keep b n m st1 r):Lp X base N keep b n (m + 1) st r:=by
  obtain ⟨K1,h1⟩:=h1
  obtain ⟨K2,h2⟩:=h2
  exact ⟨K1 + K2,fun k hk=>by simp only [loopN,h1 k (by omega)];exact h2 k (by omega)⟩
theorem Lp.last {X:Ctx} {base N:Nat} {keep:List Nat} {b:AC} {n m:Nat} {st st1:St} {e:Ex} (h1:Rd X base N b (clean keep n st) (e,st1)) (he:e ≠ .nrm):Lp X base N keep b n (m + 1) st (e,st1):=by
  obtain ⟨K1,h1⟩:=h1
  refine ⟨K1,fun k hk=>?_⟩
  have:=h1 k (by omega)
  simp only at this
  simp only [loopN,this]
  cases e with
  | nrm=>exact (he rfl).elim
  | _=>rfl
theorem AnsB.to {X:Ctx} {f:FuncId} {args:List V} {h:List Ob} {v:V} {h':List Ob} {v2:V} {h2:List Ob} (hb:AnsB X f args h v h') (e:(v,h') = (v2,h2)):AnsB X f args h v2 h2:=by
  cases e
  exact hb
end Go.Proofs.YtdbmhmembmgndaaGreatDoor.Pv.G
namespace Go.Proofs.YtdbmhmembmgndaaGreatDoor.Pv
open Go Go.RowKit
def i32D (l:List Int):List D:=l.map fun z=>.int .i32 z
def globMost:List Int:=[127,2047,65535,1114111]
def globZero:List Int:=[768,879,8203,8207,65024,65039]
def globWide:List Int:=[4352,4447,11904,12350,12353,19903,19968,40959,44032,55203,63744,64255,65280,65376,127744,128591]
def extCount:List D→Option V
 | [.str s,.str [c]]=>some (.d (.int .i64 (Lib.countByte s c)))
 | _=>none
def extClone0 (E:TypeId):List D→Option V
 | [.sl [] 0]=>some (.tail E [] 0)
 | _=>none
def ext0 (f:FuncId):Option (List D→Option V) :=
 if f = 255 then some extCount
 else if f = 126 then some (extClone0 125)
 else if f = 282 then some (extClone0 269)
 else none
def frz0 (t:TypeId):Bool:=[42, 64, 65, 66, 55, 56, 57, 118, 241, 238, 150, 43].contains t
def glob0 (k:Nat):Option (List D) :=
 if k = 3 then some (i32D globMost) else if k = 0 then some (i32D globZero) else if k = 1 then some (i32D globWide) else none
def own0 (s:String) (t:TypeId):Bool:=!(s == "keep" && t == 49)
noncomputable def X0:Ctx:=⟨Tryz.prog,glob0,ext0,frz0,[2],fun _=>none,own0⟩
theorem ext0_iok:ExtIOk X0:=fun f F h=>by cases h
theorem ext0_pure:ExtPure X0:=by
 intro f F hF ds y hy
 simp only [X0,ext0] at hF
 split at hF
 ·cases hF;unfold extCount at hy;split at hy <;> cases hy;rfl
 ·split at hF
  ·cases hF;unfold extClone0 at hy;split at hy <;> cases hy;rfl
  ·split at hF
   ·cases hF;unfold extClone0 at hy;split at hy <;> cases hy;rfl
   ·cases hF
theorem keep_below {g:Gh} {w w':World} (hf:Fresh g w) (h:Below w.heap.size w w'):Keep g w g w' where
 os:=h.os
 tape:=h.tape
 output:=h.output
 size:=h.size
 block:=h.block
 own:=fun _ _=>rfl
 e:=fun _ _=>rfl
 μ:=fun _ _ k=>k
 pin:=rfl
 μeq:=rfl
 fresh:=fun b hb=>hf b (Nat.le_trans h.size hb)
theorem ptd1 {w:World} {e:Nat→Nat} {vs:List Value} {a:D} (h:PtD w e vs [a]):∃ u,vs = [u] ∧ RepD w e u a:=by
 obtain ⟨hl,hr⟩:=h
 match vs,hl with
 | [u],_=>exact ⟨u,rfl,hr 0 u a rfl rfl⟩
theorem ptd2 {w:World} {e:Nat→Nat} {vs:List Value} {a b:D} (h:PtD w e vs [a,b]):∃ u v,vs = [u,v] ∧ RepD w e u a∧RepD w e v b:=by
 obtain ⟨hl,hr⟩:=h
 match vs,hl with
 | [u,v],_=>exact ⟨u,v,rfl,hr 0 u a rfl rfl,hr 1 v b rfl rfl⟩
theorem ptd3 {w:World} {e:Nat→Nat} {vs:List Value} {a b c:D} (h:PtD w e vs [a,b,c]):∃ u v x,vs = [u,v,x] ∧ RepD w e u a∧RepD w e v b∧RepD w e x c:=by
 obtain ⟨hl,hr⟩:=h
 match vs,hl with
 | [u,v,x],_=>exact ⟨u,v,x,rfl,hr 0 u a rfl rfl,hr 1 v b rfl rfl,hr 2 x c rfl rfl⟩
theorem run_of {f:FuncId} {fn:Func} (h1:Tryz.prog.funcs[f]? = some fn) (h2:(fn.name == "runtime.NumGoroutine") = false) {c:Code} (h3:fn.body = some c) {Q:Prop} (q:Q):∃ fn,X0.P.funcs[f]? = some fn∧(fn.name == "runtime.NumGoroutine") = false∧((∃ c,fn.body = some c)∧Q) :=
 ⟨fn,h1,h2,⟨c,h3⟩,q⟩
theorem ext_count {w:World} {g:Gh} {vargs:List Value} {ds:List D} {y:V} (hy:extCount ds = some y) (hf:Fresh g w) (hp:PtD w g.e vargs ds) (p:Own) :
  Calls Tryz.prog 255 ⟨vargs⟩ w fun E w' => ∃ v g',E = .returned v∧Keep g w g' w' ∧ RepV X0 w' g' p v y:=by
 unfold extCount at hy
 split at hy
 ·rename_i s c
  cases hy
  obtain ⟨u,v,rfl,hu,hv⟩:=ptd2 hp
  cases hu;cases hv
  exact (Tryz.strings_Count_one ⟨s.toArray⟩ c w).mono fun E w' ⟨he,hw⟩=>⟨_,g,he,by rw [hw];exact Keep.refl hf,.d _ _ _ (.int _ _)⟩
 ·cases hy
@[local go_sem] theorem eqlSpan (a:Option Addr) (n c:Nat) (w:World):(binOp .eql 147 (.slice a n c) (.slice none 0 0)).run Tryz.prog w = .ok (.bool a.isNone) w:=Lib.run_eql_slice_nil w _ _ a n c 0 0 (by kernel_rfl:Tryz.prog.underlying 147 = some (.slice 125))
set_option maxHeartbeats 1000000 in
set_option maxRecDepth 100000 in
theorem cloneSpan_none (c:Nat) (w:World):Calls Tryz.prog 126 #[.slice none 0 c] w fun e w' => (∃ a',e = .returned (.slice a' 0 0))∧Below w.heap.size w w':=by
 go_enter Tryz.func126, Tryz.ntmps126
 go_wp2
 go_ret
 exact ⟨⟨_,rfl⟩,Below.refl _ _⟩
set_option maxHeartbeats 1000000 in
set_option maxRecDepth 100000 in
theorem cloneSpan_some (a:Addr) (c:Nat) (w:World):Calls Tryz.prog 126 #[.slice (some a) 0 c] w fun e w' => (∃ a',e = .returned (.slice a' 0 0))∧Below w.heap.size w w':=by
 go_enter Tryz.func126, Tryz.ntmps126
 go_wp2
 go_ret
 exact ⟨⟨_,rfl⟩,(Below.refl _ w).alloc (Nat.le_refl _) _⟩
@[local go_sem] theorem eqlInlay (a:Option Addr) (n c:Nat) (w:World):(binOp .eql 84 (.slice a n c) (.slice none 0 0)).run Tryz.prog w = .ok (.bool a.isNone) w:=Lib.run_eql_slice_nil w _ _ a n c 0 0 (by kernel_rfl:Tryz.prog.underlying 84 = some (.slice 269))
set_option maxHeartbeats 1000000 in
set_option maxRecDepth 100000 in
theorem cloneInlay_none (c:Nat) (w:World):Calls Tryz.prog 282 #[.slice none 0 c] w fun e w' => (∃ a',e = .returned (.slice a' 0 0))∧Below w.heap.size w w':=by
 go_enter Tryz.func282, Tryz.ntmps282
 go_wp2
 go_ret
 exact ⟨⟨_,rfl⟩,Below.refl _ _⟩
set_option maxHeartbeats 1000000 in
set_option maxRecDepth 100000 in
theorem cloneInlay_some (a:Addr) (c:Nat) (w:World):Calls Tryz.prog 282 #[.slice (some a) 0 c] w fun e w' => (∃ a',e = .returned (.slice a' 0 0))∧Below w.heap.size w w':=by
 go_enter Tryz.func282, Tryz.ntmps282
 go_wp2
 go_ret
 exact ⟨⟨_,rfl⟩,(Below.refl _ w).alloc (Nat.le_refl _) _⟩
theorem ext_cloneSpan {w:World} {g:Gh} {vargs:List Value} {ds:List D} {y:V} (hy:extClone0 125 ds = some y) (hf:Fresh g w) (hp:PtD w g.e vargs ds) (p:Own) :
  Calls Tryz.prog 126 ⟨vargs⟩ w fun E w' => ∃ v g',E = .returned v∧Keep g w g' w' ∧ RepV X0 w' g' p v y:=by
 unfold extClone0 at hy
 split at hy
 ·cases hy
  obtain ⟨u,rfl,hu⟩:=ptd1 hp
  have fin:∀ a c,Calls Tryz.prog 126 ⟨[.slice a 0 c]⟩ w fun E w' => ∃ v g',E = .returned v∧Keep g w g' w' ∧ RepV X0 w' g' p v (.tail 125 [] 0):=fun a c=>by
   cases a with
   | none=>exact (cloneSpan_none c w).mono fun E w' ⟨⟨a',he⟩,hw⟩=>⟨_,g,he,keep_below hf hw,.tail0 _ _ _⟩
   | some a=>exact (cloneSpan_some a c w).mono fun E w' ⟨⟨a',he⟩,hw⟩=>⟨_,g,he,keep_below hf hw,.tail0 _ _ _⟩
  cases hu with
  | sl b o n c cells vals _ _ _ _ _=>exact fin _ _
  | sl0 a c h=>exact fin _ _
 ·cases hy
theorem ext_cloneInlay {w:World} {g:Gh} {vargs:List Value} {ds:List D} {y:V} (hy:extClone0 269 ds = some y) (hf:Fresh g w) (hp:PtD w g.e vargs ds) (p:Own) :
  Calls Tryz.prog 282 ⟨vargs⟩ w fun E w' => ∃ v g',E = .returned v∧Keep g w g' w' ∧ RepV X0 w' g' p v y:=by
 unfold extClone0 at hy
 split at hy
 ·cases hy
  obtain ⟨u,rfl,hu⟩:=ptd1 hp
  have fin:∀ a c,Calls Tryz.prog 282 ⟨[.slice a 0 c]⟩ w fun E w' => ∃ v g',E = .returned v∧Keep g w g' w' ∧ RepV X0 w' g' p v (.tail 269 [] 0):=fun a c=>by
   cases a with
   | none=>exact (cloneInlay_none c w).mono fun E w' ⟨⟨a',he⟩,hw⟩=>⟨_,g,he,keep_below hf hw,.tail0 _ _ _⟩
   | some a=>exact (cloneInlay_some a c w).mono fun E w' ⟨⟨a',he⟩,hw⟩=>⟨_,g,he,keep_below hf hw,.tail0 _ _ _⟩
  cases hu with
  | sl b o n c cells vals _ _ _ _ _=>exact fin _ _
  | sl0 a c h=>exact fin _ _
 ·cases hy
theorem ext0_ok:ExtOk X0:=by
 intro f F hF ds y hy w g vargs hf hg hp p hpos
 simp only [X0,ext0] at hF
 split at hF
 ·rename_i hfe;subst hfe;cases hF;exact run_of Tryz.func255 (by kernel_rfl) rfl (ext_count hy hf hp p)
 ·split at hF
  ·rename_i hfe;subst hfe;cases hF;exact run_of Tryz.func126 (by kernel_rfl) rfl (ext_cloneSpan hy hf hp p)
  ·split at hF
   ·rename_i hfe;subst hfe;cases hF;exact run_of Tryz.func282 (by kernel_rfl) rfl (ext_cloneInlay hy hf hp p)
   ·cases hF
open Go Go.ChangeShapes Go.WideShapes Go.RowKit
theorem Keep.below {g g':Gh} {w w':World} (k:Keep g w g' w'):Below w.heap.size w w':=⟨k.os,k.tape,k.output,k.size,k.block⟩
def fullE (W:World):Nat→Nat:=fun b=>match W.heap[b]? with
 | some (.cells c _ _)=>c.size
 | _=>0
def topG (W:World):Gh:={ μ:=[],e:=fullE W,own:=fun b=>if b < W.heap.size then .fgn else .free,pin:=⟨[],fun _=>False⟩ }
theorem law_calls {fuel k:Nat} {f:FuncId} {vs:List V} {vargs:List Value} {b:Bool} (run:(callN X0 fuel k).p f vs = some (.d (.bool b))) (hp:vs.all V.pure = true) {W:World} (hg:GlobOk X0 W (topG W)) (hr:PtV X0 W (topG W) vargs vs) :
  Calls Tryz.prog f ⟨vargs⟩ W fun E W' => E = .returned (.bool b)∧Below W.heap.size W W':=by
 have hf:Fresh (topG W) W:=fun b hb=>⟨by simp only [topG];rw [if_neg (by omega)],by simp only [topG,fullE];rw [Array.getElem?_eq_none hb]⟩
 obtain ⟨fn,_,_,_,hc⟩:=(callN_ok (X:=X0) (fun _=>rfl) ext0_ok ext0_pure ext0_iok fuel k).1 f vs _ run hp W (topG W) vargs hf hg hr (.slot 0) ⟨0,0,0,.inl rfl⟩
 refine hc.mono ?_
 rintro E w' ⟨v,g',rfl,hk,hv⟩
 refine ⟨?_,hk.below⟩
 cases hv with | d _ _ _ hv=>cases hv;rfl
theorem post_of_below {H:Type} {enc:TypeId × Value→H} {P:Program} {f:Func} {s:ChangeSpec} {apart fresh handsOn again:Bool} {W W':World} {args:Array Value} {v:Value} {ds gs:List (DataW H)} {before pa pv:List MemPlace}
  (hW:DataW.Whole enc P f.params.toList s.vars apart W args.toList ds gs before)
  (hres:∀ (b:Nat) (sp:Nat→Bool) (hd:Bool),DataW.TrodAll enc P W' b sp hd f.resultTypes.toList (v.resultList f.resultTypes.size) (s.fn H (ds ++ gs)).results [])
  (hargs:∀ sp:Nat→Bool,(∀ p ∈ before,sp p.block = true)→DataW.TrodAll enc P W' 0 sp true f.params.toList args.toList (s.fn H (ds ++ gs)).args pa)
  (hvars:∀ sp:Nat→Bool,(∀ p ∈ before,sp p.block = true)→DataW.TrodVars enc P W' sp s.vars (s.fn H (ds ++ gs)).vars pv)
  (hps:before = pa ++ pv) (hb:Below W.heap.size W W')
  (hok:∀ (j:Nat) (t:TypeId) (r:Value),f.resultTypes[j]? = some t→(v.resultList f.resultTypes.size)[j]? = some r→Value.okWide P W' .any 0 t r) :
  s.post enc P f apart fresh handsOn again W args v W':=by
 have hold:∀ p ∈ before,(fun b=>decide (b < W.heap.size)) p.block = true:=fun p hp=>by simpa using hW.lt p hp
 have hlt:=hW.lt
 refine ⟨ds,gs,before,[],pa,pv,hW,hres _ _ _,hargs _ hold,hvars _ hold,World.keptBut_mono (fun p hp=>⟨hp,?_⟩) (hb.frame (· ∈ before)),fun _=>?_⟩
 ·rw [hps,List.mem_append] at hp
  exact Or.inr hp
 ·obtain ⟨_,_,_,_,_,hz,hn⟩:=hW
  refine ⟨hok,_,_,([] ++ pa) ++ pv,⟨[] ++ pa,pv,trodAll_append (hargs _ (fun _ _=>rfl)) (hres _ _ _),hvars _ (fun _ _=>rfl),rfl,?_,?_⟩,?_⟩
  ·intro b off hp
   have hp':MemPlace.cell b off ∈ before:=by rw [hps];simpa using hp
   rw [hb.frozen (p:=⟨b,off,none⟩) (hlt _ hp')]
   exact hz b off hp'
  ·intro ha
   have:=hn ha
   rw [hps] at this
   simpa using this
  ·intro p hp _
   rw [hps]
   simpa using hp
section
variable {H:Type} {enc:TypeId × Value→H} {P:Program} {w:World} {base b0:Nat} {spare:Nat→Bool} {held:Bool}
end
open Go G
section
variable {X:Ctx}
structure Wk (X:Ctx) (w0:World) (g0:Gh) (W:World) (g:Gh) (h:List Ob):Prop where
 sit:Sit X W g h
 later:Later (g0.alone w0.heap.size) w0 g W
 glob:GlobOk X w0 (g0.alone w0.heap.size)
theorem Wk.start {w:World} {g:Gh} (hf:Fresh g w) (hg:GlobOk X w g):Wk X w g w (g.alone w.heap.size) [] :=
 ⟨alone_sit hf hg,Later.refl _ _,(alone_sit hf hg).glob⟩
variable {w0 W W':World} {g0 g g':Gh} {h h':List Ob}
theorem Wk.old (k:Wk X w0 g0 W g h) {b:Nat} (hb:b < w0.heap.size):W.heap[b]? = w0.heap[b]? ∧ g.own b = .fgn∧g.e b = g0.e b:=alone_own k.later hb
theorem Wk.size (k:Wk X w0 g0 W g h):w0.heap.size≤W.heap.size:=k.later.size
theorem Wk.below (k:Wk X w0 g0 W g h):Below w0.heap.size w0 W:=⟨k.later.os,k.later.tape,k.later.output,k.later.size,fun b hb=>(k.old hb).1⟩
def Gh.mine (g:Gh) (a b:Nat):Gh:={ g with own:=fun x=>if a≤x∧x < b then .fgn else g.own x }
theorem mine_own {x a b:Nat} (hx:a≤x) (hy:x < b):(g.mine a b).own x = .fgn:=if_pos ⟨hx,hy⟩
structure Own1 (w0:World) (g:Gh) (W W':World):Prop where
 os:W'.os = W.os
 tape:W'.tape = W.tape
 output:W'.output = W.output
 size:W.heap.size≤W'.heap.size
 block:∀ k,k < W.heap.size→W'.heap[k]? = W.heap[k]? ∨ (g.own k = .fgn∧g.e k = 0∧w0.heap.size≤k)
theorem own1_cell (s:Own1 w0 g W W') (hf:Fresh g W) {b o:Nat} (ho:o < g.e b):W'.cell? ⟨b,o,none⟩ = W.cell? ⟨b,o,none⟩:=by
 by_cases hb:b < W.heap.size
 ·rcases s.block b hb with h | ⟨_,h,_⟩
  ·exact World.cell?_of_block (w:=W) (a:=⟨b,o,none⟩) h
  ·omega
 ·rw [(hf b (by omega)).2] at ho;omega
theorem Own1.repD (s:Own1 w0 g W W') (hf:Fresh g W) {v:Value} {d:D} (r:RepD W g.e v d):RepD W' (g.mine W.heap.size W'.heap.size).e v d :=
 r.mono (fun _ _ ho=>own1_cell s hf ho) fun _=>Nat.le_refl _
theorem Own1.get (s:Own1 w0 g W W') {b:Nat} {o:Obj} (hb:W.heap[b]? = some o) (hn:g.own b ≠ .fgn):W'.heap[b]? = some o:=by
 have hlt:=(Array.getElem?_eq_some_iff.1 hb).1
 rcases s.block b hlt with h | ⟨h,_⟩
 ·exact h.trans hb
 ·exact (hn h).elim
theorem mine_keep {b:Nat} (hb:b < W.heap.size):(g.mine W.heap.size W'.heap.size).own b = g.own b:=by
 simp only [Gh.mine]
 rw [if_neg (by omega)]
theorem Own1.repV (s:Own1 w0 g W W') (hf:Fresh g W) {p:Own} {v:Value} {x:V} (r:RepV X W g p v x):RepV X W' (g.mine W.heap.size W'.heap.size) p v x:=by
 induction r with
 | d p v x r=>exact .d p v x (s.repD hf r)
 | tail p E cells n b c cur z vals hz hz0 hb hn hm hcur hcl he ho hp hv hr =>
  have hlt:b < W.heap.size:=(Array.getElem?_eq_some_iff.1 hb).1
  have hne:g.own b ≠ .fgn:=by
   rw [ho]
   obtain ⟨t,i,j,hp | hp⟩:=hp <;> rw [hp] <;> simp
  exact .tail p E cells n b c cur z vals hz hz0 (s.get hb hne) hn hm hcur hcl he ((mine_keep hlt).trans ho) hp hv fun j v d h1 h2=>s.repD hf (hr j v d h1 h2)
 | tail0 p E a0=>exact .tail0 p E _
 | full p b o cells n r=>exact .full p b o cells n (s.repD hf r)
 | obj p id off b r=>exact .obj p id off b r
 | osl p id off n c b r hn=>exact .osl p id off n c b r hn
 | clo p fn va vb a b hla hlb _ _ iha ihb=>exact .clo p fn va vb a b hla hlb iha ihb
 | agg p vals vs hl _ ih=>exact .agg p vals vs hl ih
 | tup p vals vs hl _ ih=>exact .tup p vals vs hl ih
 | mp p id b r=>exact .mp p id b r
 | it p id b r=>exact .it p id b r
theorem Own1.repOb (s:Own1 w0 g W W') (hf:Fresh g W) {id b:Nat} {o:Ob} (ho:g.own b = .obj id) (r:RepOb X W g id b o):RepOb X W' (g.mine W.heap.size W'.heap.size) id b o:=by
 have hne:g.own b ≠ .fgn:=by rw [ho];simp
 cases o with
 | cells vs =>
  obtain ⟨vals,T,hb,hl,he,hr⟩:=r
  exact ⟨vals,T,s.get hb hne,hl,he,fun j v x h1 h2=>s.repV hf (hr j v x h1 h2)⟩
 | frozen ds =>
  obtain ⟨vals,T,hb,hl,he,hr⟩:=r
  exact ⟨vals,T,s.get hb hne,hl,he,fun j v x h1 h2=>s.repD hf (hr j v x h1 h2)⟩
 | map es ck =>
  obtain ⟨entries,hb,hl,he,hr⟩:=r
  exact ⟨entries,s.get hb hne,hl,he,fun j en kd h1 h2=>⟨s.repD hf (hr j en kd h1 h2).1,s.repD hf (hr j en kd h1 h2).2⟩⟩
 | iter t pos=>exact ⟨s.get r.1 hne,r.2⟩
theorem Wk.own1 (k:Wk X w0 g0 W g h) (s:Own1 w0 g W W'):Wk X w0 g0 W' (g.mine W.heap.size W'.heap.size) h:=by
 have hl:Later (g0.alone w0.heap.size) w0 (g.mine W.heap.size W'.heap.size) W':=by
  refine ⟨s.os.trans k.later.os,s.tape.trans k.later.tape,s.output.trans k.later.output,Nat.le_trans k.later.size s.size,fun b o ho=>?_,k.later.e,fun b hb=>?_,k.later.pin⟩
  ·have h1:=k.later.cells b o ho
   have h2:=k.later.e b
   rw [own1_cell s k.sit.fresh (Nat.lt_of_lt_of_le ho h2),h1]
  ·have h1:=k.later.fgn b hb
   have hlt:b < w0.heap.size:=by
    apply Classical.byContradiction
    intro hn
    simp only [Gh.alone] at hb
    rw [if_neg hn] at hb
    cases hb
   have hW:=k.size
   refine ⟨?_,by rw [mine_keep (by omega)];exact h1.2.1,h1.2.2⟩
   rcases s.block b (by omega) with h | ⟨_,_,h⟩
   ·exact h.trans h1.1
   ·omega
 refine ⟨⟨fun b hb=>?_,⟨k.sit.heap.len,fun id b hb=>?_,fun id b o hb ho=>s.repOb k.sit.fresh (k.sit.heap.own id b hb) (k.sit.heap.ob id b o hb ho)⟩,k.glob.later hl⟩,hl,k.glob⟩
 ·have hs:=s.size
  have:=k.sit.fresh b (by omega)
  refine ⟨?_,this.2⟩
  simp only [Gh.mine]
  rw [if_neg (by omega)]
  exact this.1
 ·rw [mine_keep (k.sit.heap.lt hb)]
  exact k.sit.heap.own id b hb
theorem own1_alloc (o:Obj):Own1 w0 g W (W.alloc o) :=
 ⟨rfl,rfl,rfl,by simp,fun k hk=>.inl (by simp only [World.alloc];rw [Array.getElem?_push_lt hk,Array.getElem?_eq_getElem hk])⟩
theorem own1_below (s:Below W.heap.size W W'):Own1 w0 g W W':=⟨s.os,s.tape,s.output,s.size,fun k hk=>.inl (s.block k hk)⟩
theorem Wk.alloc (k:Wk X w0 g0 W g h) (o:Obj):Wk X w0 g0 (W.alloc o) (g.mine W.heap.size (W.heap.size + 1)) h:=by
 have:=k.own1 (own1_alloc o)
 rwa [World.size_alloc] at this
structure Mine (w0:World) (g:Gh) (b:Nat):Prop where
 own:g.own b = .fgn
 e:g.e b = 0
 ge:w0.heap.size≤b
theorem Mine.later {b:Nat} (m:Mine w0 g b) (hl:Later g W g' W'):Mine w0 g' b∧W'.heap[b]? = W.heap[b]?:=by
 obtain ⟨h1,h2,h3⟩:=hl.fgn b m.own
 exact ⟨⟨h2,h3.trans m.e,m.ge⟩,h1⟩
theorem Mine.new (k:Wk X w0 g0 W g h) {b:Nat} (h1:W.heap.size≤b) (h2:b < W'.heap.size):Mine w0 (g.mine W.heap.size W'.heap.size) b :=
 ⟨mine_own h1 h2,(k.sit.fresh b h1).2,Nat.le_trans k.size h1⟩
theorem Mine.mine {b:Nat} (m:Mine w0 g b) (x y:Nat):Mine w0 (g.mine x y) b:=by
 refine ⟨?_,m.e,m.ge⟩
 simp only [Gh.mine]
 split
 ·rfl
 ·exact m.own
theorem Wk.callP {call:CallF} (hc:CallPOk X call) (k:Wk X w0 g0 W g h) {f:FuncId} {args:List V} {x:V} {vargs:List Value} (hx:call.p f args = some x) (hp:args.all V.pure = true) (ha:PtV X W g vargs args) {p:Own} (hpos:IsPos p) :
  Calls X.P f ⟨vargs⟩ W fun E W' => ∃ v g',E = .returned v∧Keep g W g' W' ∧ Wk X w0 g0 W' g' h∧RepV X W' g' p v x:=by
 obtain ⟨_,_,_,_,hcalls⟩:=hc f args x hx hp W g vargs k.sit.fresh k.sit.glob ha p hpos
 refine hcalls.mono ?_
 rintro E W' ⟨v,g',rfl,hk,hr⟩
 exact ⟨v,g',rfl,hk,⟨k.sit.keep hk,k.later.trans (hk.later k.sit.fresh),k.glob⟩,hr⟩
theorem Wk.callI {call:CallF} (hc:CallIOk X call) (k:Wk X w0 g0 W g h) {f:FuncId} {args:List V} {x:V} {vargs:List Value} (hx:call.i f args h = some (x,h')) (ha:PtV X W g vargs args) {p:Own} (hpos:IsPos p) :
  Calls X.P f ⟨vargs⟩ W fun E W' => ∃ v g',E = .returned v∧Later g W g' W' ∧ Wk X w0 g0 W' g' h' ∧ RepV X W' g' p v x∧(∀ (id b:Nat),g.μ[id]? = some b→g'.μ[id]? = some b):=by
 obtain ⟨_,_,_,_,hcalls⟩:=hc f args h x h' hx W g vargs k.sit ha p hpos
 refine hcalls.mono ?_
 rintro E W' ⟨v,g',rfl,hl,hsit,hr,hμ,_⟩
 exact ⟨v,g',rfl,hl,⟨hsit,k.later.trans hl,k.glob⟩,hr,hμ⟩
theorem Wk.keep (k:Wk X w0 g0 W g h) (hf:Fresh g0 w0) (q p:Own):Keep g0 w0 { g0.back g w0.heap.size 0 q p with μ:=g0.μ } W:=by
 have gr:=back_grow (k:=0) (q:=q) (p:=p) k.later k.sit.fresh
 exact ⟨⟨gr.os,gr.tape,gr.output,gr.size,gr.block,gr.own,gr.e,fun _ _ h=>h,rfl,gr.fresh⟩,rfl⟩
theorem Wk.endD (k:Wk X w0 g0 W g h) {v:Value} {d:D} (r:RepD W g.e v d) (q p p':Own):RepV X W { g0.back g w0.heap.size 0 q p with μ:=g0.μ } p' v (.d d):=.d _ _ _ r
end
open Go Go.RowKit Go.Proofs
structure Turned (S:Nat→Prop) (w w':World):Prop where
 os:w'.os = w.os
 tape:w'.tape = w.tape
 output:w'.output = w.output
 size:w.heap.size≤w'.heap.size
 block:∀ k,k < w.heap.size→S k∨w'.heap[k]? = w.heap[k]?
theorem Turned.refl (S:Nat→Prop) (w:World):Turned S w w:=⟨rfl,rfl,rfl,Nat.le_refl _,fun _ _=>.inr rfl⟩
theorem Turned.trans {S:Nat→Prop} {a b c:World} (h:Turned S a b) (k:Turned S b c):Turned S a c :=
 ⟨k.os.trans h.os,k.tape.trans h.tape,k.output.trans h.output,Nat.le_trans h.size k.size,fun i hi=>by
  rcases h.block i hi with h1 | h1
  ·exact .inl h1
  ·rcases k.block i (Nat.lt_of_lt_of_le hi h.size) with h2 | h2
   ·exact .inl h2
   ·exact .inr (h2.trans h1)⟩
theorem Turned.weak {S S':Nat→Prop} {a b:World} (h:Turned S a b) (hS:∀ k,k < a.heap.size→S k→S' k):Turned S' a b :=
 ⟨h.os,h.tape,h.output,h.size,fun k hk=>(h.block k hk).elim (fun x=>.inl (hS k hk x)) .inr⟩
theorem Turned.set {S:Nat→Prop} {w:World} (p:Addr) (v:Value) (hS:S p.block):Turned S w (w.setCell p v) :=
 ⟨rfl,rfl,rfl,by show _≤(w.heap.modify _ _).size;rw [Array.size_modify];exact Nat.le_refl _,fun k _=>by
  by_cases e:k = p.block
  ·exact .inl (e ▸ hS)
  ·exact .inr (Below.heap_setCell w p v k e)⟩
theorem Turned.alloc {S:Nat→Prop} {w:World} (o:Obj):Turned S w (w.alloc o) :=
 ⟨rfl,rfl,rfl,by simp,fun k hk=>.inr (Below.heap_alloc w o k hk)⟩
theorem Turned.grown {S:Nat→Prop} {w w':World} {row:Option Nat} (h:w.grownBy w' row) (hS:∀ k,row = some k→S k):Turned S w w' :=
 ⟨h.os,h.tape,h.output,h.size,fun k hk=>by
  by_cases e:some k = row
  ·exact .inl (hS k e.symm)
  ·exact .inr (h.block k hk e)⟩
theorem Turned.own1 {S:Nat→Prop} {w0 W W':World} {g:Gh} (h:Turned S W W') (hS:∀ k,k < W.heap.size→S k→g.own k = .fgn∧g.e k = 0∧w0.heap.size≤k):Own1 w0 g W W' :=
 ⟨h.os,h.tape,h.output,h.size,fun k hk=>(h.block k hk).elim (fun x=>.inr (hS k hk x)) .inl⟩
theorem append_str_block {P:Program} {w:World} {t u ty e:TypeId} {i:TypeInfo} (ht:P.underlying t = some (.slice e)) (hu:P.underlying u = some .string) (hi:P.info? e = some i) (hz:i.zero = some (.int .u8 0))
  (hsize:i.size = 1) (hby:i.bytes = 1) {v:Value} {n:Nat} {xs:List Value} (hown:w.ownsRow 0 e 1 v n xs) {s:ByteArray} (hbytes:n + s.size≤140737488355328) {v':Value} {w':World}
  (hr:(Builtin.append_ #[t,u] ty #[v,.string s]).run P w = .ok v' w'):∀ g,v'.ownBlock = some g→v.ownBlock = some g∨w.heap.size≤g:=by
 intro g hg
 rcases hown.2 with ⟨rfl,rfl⟩ | ⟨g0,cap,cur,rfl,hbg,hgg,hnc,hcm,hcs,htake⟩
 ·by_cases hm:s.size = 0
  ·have hf:=Lib.run_firstCells_string (P:=P) w 1 s
   rw [hm] at hf
   rw [show (Builtin.append_ #[t,u] ty #[.slice none 0 0,.string s]).run P w = .ok (.slice none 0 0) w by
    simp [Builtin.append_,run_underlying ht,run_underlying hu,sizeOf,typeInfo,hi,hsize,Builtin.lenOf,hm,hf]] at hr
   cases hr
   cases hg
  ·rw [run_append_nil_string (P:=P) w t u ty e i (.int .u8 0) ht hu hi hz s (by omega) (by omega) (by rw [hby];omega)] at hr
   cases hr
   simp [Value.ownBlock] at hg
   exact .inr (by omega)
 ·have hxl:xs.length = n:=by simpa using hown.1
  by_cases hroom:n + s.size≤cap
  ·rw [Lib.run_append_room_string (P:=P) w t u ty e i ht hu hi hsize g0 n cap cur hgg s hroom (by simp at hcs;omega)] at hr
   cases hr
   exact .inl hg
  ·rw [Lib.run_append_grow_string (P:=P) w t u ty e i (.int .u8 0) ht hu hi hz ⟨g0,0,none⟩ n cap xs (by rw [hsize];simpa using hxl) (hown.cells (g:=g0) rfl) s (by omega) (by omega) (by rw [hby];exact growslice_fits (by omega) (by omega))] at hr
   cases hr
   simp [Value.ownBlock] at hg
   exact .inr (by omega)
theorem wpList_append_str {P:Program} {w:World} {ops:Array Oper} {rest:List Oper} {o:Oper} {a:Act} {Q:Exit→Act→World→Prop} (hgd:o.guard = none) (sl x:Operand) (t u:TypeId)
  (ho:o.op = .call { callee:=.builtin .append,args:=#[sl,x],argTypes:=#[t,u] })
  (e:TypeId) (i:TypeInfo) (ht:P.underlying t = some (.slice e)) (hu:P.underlying u = some .string) (hi:P.info? e = some i) (hz:i.zero = some (.int .u8 0)) (hsize:i.size = 1) (hby:i.bytes = 1)
  (v:Value) (n:Nat) (xs:List Value) (hs:a.eval sl = v) (hown:w.ownsRow 0 e 1 v n xs) (s:ByteArray) (hx:a.eval x = .string s) (hbytes:n + s.size≤140737488355328)
  (h:∀ v' w',w'.ownsRow 0 e 1 v' (n + s.size) (xs ++ Lib.strCells s)→w.grownBy w' v.ownBlock→(∀ g,v'.ownBlock = some g→v.ownBlock = some g∨w.heap.size≤g)→wpList P ops Q rest (a.put o.dst v') w'):wpList P ops Q (o :: rest) a w:=by
 refine wpList_plain hgd fun K hK=>?_
 obtain ⟨v',w',hr,h2,h3,h4⟩:=Lib.run_append_own_string (P:=P) w 0 t u o.type e i ht hu hi hz hsize hby v n xs hown s (by unfold maxLen;omega) hbytes (Nat.zero_le _)
 have h5:=append_str_block ht hu hi hz hsize hby hown hbytes hr
 unfold Oper.wp execOp
 simp only [ho,resolve,invoke,builtin,Sem.run_bind,Sem.run_pure,Result.andThen_ok,List.map_toArray,List.map_cons,List.map_nil,hs,hx,hr]
 exact hK _ _ (h v' w' h2 h3 h5)
def wsRen:Go.Shelf.Ren:=⟨fun | 166 => 73 | 240 => 116 | 276 => 190 | n=>n,fun | 0 => 0 | 3 => 3 | 4 => 4 | 5 => 5 | 9 => 9 | 20=>20 | 37 => 185 | 70 => 184 | 72 => 187 | 75 => 191 | 80 => 72 | 164 => 360 | n=>n,fun n=>n⟩
theorem wsLays:Go.Proofs.Lays.n166 Tryz.prog wsRen:={
 mixed:=by kernel_rfl
 f166:=Tryz.func73.trans (congrArg some (by kernel_rfl))
 f240:=Tryz.func116.trans (congrArg some (by kernel_rfl))
 f276:=Tryz.func190.trans (congrArg some (by kernel_rfl))
 t0:=Tryz.underlying0
 a0:=Tryz.isAgg0
 z0:=Tryz.sizeOf0
 v0:=Tryz.zeroValue0
 t3:=Tryz.underlying3
 a3:=Tryz.isAgg3
 z3:=Tryz.sizeOf3
 v3:=Tryz.zeroValue3
 t4:=Tryz.underlying4
 a4:=Tryz.isAgg4
 z4:=Tryz.sizeOf4
 v4:=Tryz.zeroValue4
 t9:=Tryz.underlying9
 a9:=Tryz.isAgg9
 z9:=Tryz.sizeOf9
 v9:=Tryz.zeroValue9
 t20:=Tryz.underlying20
 a20:=Tryz.isAgg20
 z20:=Tryz.sizeOf20
 v20:=Tryz.zeroValue20
 t37:=Tryz.underlying185
 a37:=Tryz.isAgg185
 z37:=Tryz.sizeOf185
 v37:=Tryz.zeroValue185
 t70:=Tryz.underlying184
 a70:=Tryz.isAgg184
 z70:=Tryz.sizeOf184
 v70:=Tryz.zeroValue184
 t72:=Tryz.underlying187
 a72:=Tryz.isAgg187
 z72:=Tryz.sizeOf187
 v72:=Tryz.zeroValue187
 t75:=Tryz.underlying191
 a75:=Tryz.isAgg191
 z75:=Tryz.sizeOf191
 v75:=Tryz.zeroValue191
 t164:=Tryz.underlying360
 a164:=Tryz.isAgg360
 z164:=Tryz.sizeOf360
 v164:=Tryz.zeroValue360 }
theorem wsExtra:Builder.Extra Tryz.prog wsRen:={
 sizeBuilder:=by kernel_rfl
 liesBuilder:=by kernel_rfl
 t5:=Tryz.underlying5
 a5:=Tryz.isAgg5
 z5:=Tryz.sizeOf5
 v5:=Tryz.zeroValue5
 infoByte:=by kernel_rfl
 cellsByte:=by kernel_rfl
 sizeByte:=by kernel_rfl
 neB5:=by decide }
abbrev TB:TypeId := 187
abbrev TU:TypeId := 5
structure Bld (b:Nat) (bs:List Value) (w:World) (v:Value):Prop where
 heap:w.heap[b]? = some (.cells #[.pointer none,v] TB)∨w.heap[b]? = some (.cells #[.pointer (some ⟨b,0,none⟩),v] TB)
 own:w.ownsRow 0 TU 1 v bs.length bs
 ne:v.ownBlock ≠ some b
theorem ownsRow_slice {w:World} {base:Nat} {e:TypeId} {size:Nat} {v:Value} {n:Nat} {xs:List Value} (h:w.ownsRow base e size v n xs):∃ a l c,v = .slice a l c:=by
 rcases h.2 with ⟨rfl,_⟩ | ⟨g,cap,cur,rfl,_⟩ <;> exact ⟨_,_,_,rfl⟩
theorem Bld.is {b:Nat} {bs:List Value} {w:World} {v:Value} (h:Bld b bs w v):Lib.IsBuilder TB TU 0 b bs w :=
 h.heap.elim (fun x=>.inl ⟨Nat.zero_le _,v,x,h.own,h.ne⟩) (fun x=>.inr ⟨Nat.zero_le _,v,x,h.own,h.ne⟩)
theorem Bld.lt {b:Nat} {bs:List Value} {w:World} {v:Value} (h:Bld b bs w v):b < w.heap.size:=h.heap.elim (fun x=>(Array.getElem?_eq_some_iff.1 x).1) (fun x=>(Array.getElem?_eq_some_iff.1 x).1)
theorem Bld.row {b:Nat} {bs:List Value} {w:World} {v:Value} (h:Bld b bs w v) {g:Nat} (hg:v.ownBlock = some g):g < w.heap.size:=(h.own.lt g hg).2
def bldS (b:Nat) (v:Value) (k:Nat):Prop:=k = b∨v.ownBlock = some k
theorem Bld.turned {b:Nat} {bs:List Value} {w w':World} {v:Value} {S:Nat→Prop} (h:Bld b bs w v) (t:Turned S w w') (hb:¬ S b) (hv:∀ g,v.ownBlock = some g→¬ S g):Bld b bs w' v:=by
 have hb':w'.heap[b]? = w.heap[b]?:=(t.block b h.lt).resolve_left hb
 refine ⟨by rw [hb'];exact h.heap,⟨h.own.1,?_⟩,h.ne⟩
 rcases h.own.2 with hn | ⟨g,cap,cur,rfl,hbg,hgg,rest⟩
 ·exact .inl hn
 ·exact .inr ⟨g,cap,cur,rfl,hbg,((t.block g (Array.getElem?_eq_some_iff.1 hgg).1).resolve_left (hv g rfl)).trans hgg,rest⟩
def BldMine (w0:World) (g:Gh) (b:Nat) (v:Value):Prop:=∀ k,bldS b v k→Mine w0 g k
theorem Bld.later {b:Nat} {bs:List Value} {w0 w w':World} {g g':Gh} {v:Value} (h:Bld b bs w v) (m:BldMine w0 g b v) (hl:Later g w g' w'):Bld b bs w' v∧BldMine w0 g' b v:=by
 refine ⟨?_,fun k hk=>((m k hk).later hl).1⟩
 have hb:=((m b (.inl rfl)).later hl).2
 refine ⟨by rw [hb];exact h.heap,⟨h.own.1,?_⟩,h.ne⟩
 rcases h.own.2 with hn | ⟨x,cap,cur,rfl,hbg,hgg,rest⟩
 ·exact .inl hn
 ·exact .inr ⟨x,cap,cur,rfl,hbg,(((m x (.inr rfl)).later hl).2).trans hgg,rest⟩
theorem Bld.alloc {b:Nat} {bs:List Value} {w:World} {v:Value} (h:Bld b bs w v) (o:Obj):Bld b bs (w.alloc o) v :=
 h.turned (S:=fun _=>False) (Turned.alloc o) (fun x=>x) fun _ _ x=>x
theorem BldMine.mine {w0:World} {g:Gh} {b:Nat} {v:Value} (m:BldMine w0 g b v) (x y:Nat):BldMine w0 (g.mine x y) b v:=fun k hk=>(m k hk).mine x y
theorem Bld.isB {b:Nat} {bs:List Value} {w0 w:World} {g:Gh} {v:Value} (h:Bld b bs w v) (m:BldMine w0 g b v):Lib.IsBuilder TB TU w0.heap.size b bs w:=by
 have hb:w0.heap.size≤b:=(m b (.inl rfl)).ge
 have ho:w.ownsRow w0.heap.size TU 1 v bs.length bs:=by
  refine ⟨h.own.1,?_⟩
  rcases h.own.2 with hn | ⟨x,cap,cur,rfl,hbg,hgg,rest⟩
  ·exact .inl hn
  ·exact .inr ⟨x,cap,cur,rfl,(m x (.inr rfl)).ge,hgg,rest⟩
 exact h.heap.elim (fun x=>.inl ⟨hb,v,x,ho,h.ne⟩) (fun x=>.inr ⟨hb,v,x,ho,h.ne⟩)
theorem bld_new (w:World):Bld w.heap.size [] (w.alloc (.cells #[.pointer none,.slice none 0 0] TB)) (.slice none 0 0) :=
 ⟨.inl (heap_alloc_new w _),World.ownsRow_nil _ _ _ _,by simp [Value.ownBlock]⟩
set_option maxHeartbeats 2000000 in
set_option maxRecDepth 100000 in
theorem copyCheck_x (b:Nat) (bs:List Value) (w:World) (v:Value) (h:Bld b bs w v) :
  Calls Tryz.prog 116 #[.pointer (some ⟨b,0,none⟩)] w fun e w' => e = .returned (.tuple #[])∧w'.heap[b]? = some (.cells #[.pointer (some ⟨b,0,none⟩),v] TB)∧Turned (· = b) w w':=by
 rcases h.heap with h0 | h0
 ·refine (Any.Builder_copyCheck_fresh { wsLays with } wsExtra.toX72 b w (by simp [World.cell?,h0]) (by simp [World.shape?,h0,wsRen]) (by simp [World.frozen?,h0])).mono ?_
  rintro e w' ⟨rfl,rfl⟩
  exact ⟨rfl,(heap_setCell_same w b 0 _ _ _ h0).trans rfl,Turned.set _ _ rfl⟩
 ·refine (Any.Builder_copyCheck_used { wsLays with } wsExtra.toX72 b w (by simp [World.cell?,h0])).mono ?_
  rintro e w' ⟨rfl,rfl⟩
  exact ⟨rfl,h0,Turned.refl _ _⟩
set_option maxHeartbeats 2000000 in
set_option maxRecDepth 100000 in
theorem writeString_x (b:Nat) (bs:List Value) (s:ByteArray) (w:World) (v:Value) (h:Bld b bs w v) (hlen:bs.length + s.size≤140737488355328) :
  Calls Tryz.prog 73 #[.pointer (some ⟨b,0,none⟩),.string s] w fun e w' => e = .returned (.tuple #[.int .i64 s.size,.nilIface])∧∃ v',Bld b (bs ++ Lib.strCells s) w' v' ∧ Turned (bldS b v) w w' ∧ (∀ g,v'.ownBlock = some g→v.ownBlock = some g∨w.heap.size≤g):=by
 obtain ⟨i0,hi,hz0,hz1,hz2⟩:=info_parts (show (Tryz.prog.info? TU).map (fun i=>(i.zero,i.size,i.bytes)) = some (some (.int .u8 0),1,1) by kernel_rfl)
 go_enter Tryz.func73, Tryz.ntmps73
 go_wp2_with (go_at_call 116; refine (copyCheck_x b bs _ v h).mono ?_)
 rintro e w1 ⟨rfl,hbk,ht1⟩
 have hown:w1.ownsRow 0 TU 1 v bs.length bs:=by
  refine ⟨h.own.1,?_⟩
  rcases h.own.2 with hn | ⟨g,cap,cur,rfl,hbg,hgg,rest⟩
  ·exact .inl hn
  ·exact .inr ⟨g,cap,cur,rfl,hbg,((ht1.block g (Array.getElem?_eq_some_iff.1 hgg).1).resolve_left (fun e=>h.ne (by rw [← e];rfl))).trans hgg,rest⟩
 have c0:w1.cell? ⟨b,0,none⟩ = some (.pointer (some ⟨b,0,none⟩)):=by rw [Lib.cell_of_heap hbk];rfl
 have c1:w1.cell? ⟨b,1,none⟩ = some v:=by rw [Lib.cell_of_heap hbk];rfl
 go_wp2_with (at_builtin;refine wpList_append_str rfl _ _ 185 9 rfl TU i0 Tryz.underlying185 Tryz.underlying9 hi hz0 hz1 hz2 _ _ _ rfl hown s rfl hlen ?_)
 intro v' w2 hown2 hg2 hnew
 obtain ⟨sa,sl,sc,rfl⟩:=ownsRow_slice hown2
 have hbk2:w2.heap[b]? = some (.cells #[.pointer (some ⟨b,0,none⟩),v] TB):=(hg2.block b (Array.getElem?_eq_some_iff.1 hbk).1 (fun e=>h.ne e.symm)).trans hbk
 have d1:w2.cell? ⟨b,1,none⟩ = some v:=by rw [Lib.cell_of_heap hbk2];rfl
 have f1:w2.frozen? ⟨b,1,none⟩ = false:=by simp [World.frozen?,hbk2]
 go_wp2
 go_ret2
 have hlt:b < w2.heap.size:=(Array.getElem?_eq_some_iff.1 hbk2).1
 refine ⟨rfl,.slice sa sl sc,⟨.inr ((heap_setCell_same w2 b 1 _ _ _ hbk2).trans rfl),?_,?_⟩,?_,?_⟩
 ·have hl:(bs ++ Lib.strCells s).length = bs.length + s.size:=by simp [Lib.strCells_length]
  rw [hl]
  refine hown2.kept (row:=some b) ⟨rfl,rfl,rfl,by show _≤(w2.heap.modify _ _).size;rw [Array.size_modify];exact Nat.le_refl _,fun k _ hk=>Below.heap_setCell w2 _ _ k (fun e=>hk (by rw [e]))⟩ (.inr fun e=>?_)
  rcases hnew b e with h1 | h1
  ·exact h.ne h1
  ·have:=(Array.getElem?_eq_some_iff.1 hbk).1;omega
 ·intro e
  rcases hnew b e with h1 | h1
  ·exact h.ne h1
  ·have:=(Array.getElem?_eq_some_iff.1 hbk).1;omega
 ·exact ((ht1.weak fun k _ e=>.inl e).trans (Turned.grown hg2 fun k e=>.inr e)).trans (Turned.set _ _ (.inl rfl))
 ·intro g hg
  rcases hnew g hg with h1 | h1
  ·exact .inl h1
  ·exact .inr (Nat.le_trans ht1.size h1)
abbrev fByteAt:FuncId := 68
abbrev fFind:FuncId := 69
abbrev fStart:FuncId := 70
abbrev fItem:FuncId := 72
abbrev fNext:FuncId := 74
def pairI:V→Option (Int × Int)
 | .d (.tup [.int .i64 a,.int .i64 e])=>some (a,e)
 | _=>none
def curOf:V→Option Nat
 | .tup [.d (.agg [.int .i64 _,.int .i64 _,.int .i64 _,.int .i64 _,.int .i64 _,.int .i64 _,.int .i64 _,.int .i64 _,.int .i64 _,.int .i64 _,.int .i64 _,.int .i64 _,.str _,.int .i64 _]),.obj id 0,.d (.int .i64 _)]=>some id
 | _=>none
def startOf:V→Option Int
 | .d (.agg [.int .i64 _,.int .i64 s,.int .i64 _,.int .i64 _,.int .i64 _,.int .i64 _])=>some s
 | _=>none
def itemOf:V→Option (List UInt8)
 | .d (.tup [.agg [.int .i64 _,.int .i64 _,.int .i64 _,.int .i64 _,.int .i64 _,.int .i64 _,.str s],.bool _])=>some s
 | _=>none
def sliceGo (call:CallF) (id:Nat) (b start:Int):Nat→List Ob→List UInt8→Option (List UInt8)
 | 0,_,_=>none
 | f + 1,h,out =>
  if out.length≤1000000000 then
   if start + out.length < b then
    match call.i fItem [.obj id 0] h with
    | some (x,h1)=>match itemOf x with
     | some s=>if s.length≤1000000000 then match call.i fNext [.obj id 0] h1 with
      | some (.d (.bool _),h2)=>sliceGo call id b start f h2 (out ++ s)
      | _=>none
      else none
     | none=>none
    | none=>none
   else some out
  else none
def cutSlice (a b s:Int) (out:List UInt8):Option V :=
 if out = [] then some (.d (.tup [.str [],.int .i64 0]))
 else if s≤a∧a≤b∧b - s≤out.length then some (.d (.tup [.str ((out.drop (a - s).toNat).take (b - a).toNat),.int .i64 0])) else none
def sliceBig (a b s:Int):Prop:=0≤s∧s≤1000000000∧0≤a∧a≤1000000000∧0≤b∧b≤1000000000
instance (a b s:Int):Decidable (sliceBig a b s):=by unfold sliceBig;infer_instance
def sl4 (call:CallF) (id:Nat) (h:List Ob) (a b:Int):Option V:=match call.i fStart [.obj id 0] h with
 | none=>none
 | some (x,h1)=>match startOf x with
  | none=>none
  | some s=>if sliceBig a b s then match sliceGo call id b s 1000000 h1 [] with
   | none=>none
   | some out=>cutSlice a b s out
   else none
def sl3 (call:CallF) (r:D) (fr a b:Int):Option V:=match call.i fFind [.d r,.d (.int .i64 1),.d (.int .i64 fr),.d (.int .i64 1)] [] with
 | none=>none
 | some (x,h)=>match curOf x with
  | none=>none
  | some id=>sl4 call id h a b
def sl2 (call:CallF) (r:D) (fr to a:Int):Option V:=match call.p fByteAt [.d r,.d (.int .i64 to)] with
 | none=>none
 | some x=>match pairI x with
  | none=>none
  | some (b,e)=>if e = 0 then sl3 call r fr a b else none
def sl1 (call:CallF) (r:D) (fr to:Int):Option V:=match call.p fByteAt [.d r,.d (.int .i64 fr)] with
 | none=>none
 | some x=>match pairI x with
  | none=>none
  | some (a,e)=>if e = 0∧fr≤to then sl2 call r fr to a else none
def extSlice (call:CallF):List D→Option V
 | [r,.int .i64 fr,.int .i64 to]=>sl1 call r fr to
 | _=>none
theorem wrap64_at (n:Int) (h : -9223372036854775808≤n∧n≤9223372036854775807):wrap64 n = n:=by unfold wrap64;omega
theorem extract_list (l:List UInt8) (i j:Nat):(⟨l.toArray⟩:ByteArray).extract i j = ⟨((l.drop i).take (j - i)).toArray⟩:=by
 rw [extract_mk]
 congr 2
 rw [List.drop_take]
theorem pairI_eq {x:V} {a e:Int} (h:pairI x = some (a,e)):x = .d (.tup [.int .i64 a,.int .i64 e]):=by
 unfold pairI at h
 split at h <;> cases h
 rfl
theorem rep_pair {X:Ctx} {w:World} {g:Gh} {p:Own} {v:Value} {a e:Int} (h:RepV X w g p v (.d (.tup [.int .i64 a,.int .i64 e]))):v = .tuple #[.int .i64 a,.int .i64 e]:=by
 cases h with
 | d _ _ _ h =>
  cases h with
  | tup vals _ hl hr =>
   match vals,hl with
   | [u,t],_ =>
    have h0:=hr 0 u _ rfl rfl
    have h1:=hr 1 t _ rfl rfl
    cases h0;cases h1;rfl
theorem ptv2 {X:Ctx} {w:World} {g:Gh} {u v:Value} {x y:V} (h1:RepV X w g .free u x) (h2:RepV X w g .free v y):PtV X w g [u,v] [x,y] :=
 ⟨rfl,fun j u' x' a b=>match j,a,b with
  | 0,a,b=>by cases a;cases b;exact h1
  | 1,a,b=>by cases a;cases b;exact h2⟩
theorem ptv4 {X:Ctx} {w:World} {g:Gh} {u v s t:Value} {x y z q:V} (h1:RepV X w g .free u x) (h2:RepV X w g .free v y) (h3:RepV X w g .free s z) (h4:RepV X w g .free t q):PtV X w g [u,v,s,t] [x,y,z,q] :=
 ⟨rfl,fun j u' x' a b=>match j,a,b with
  | 0,a,b=>by cases a;cases b;exact h1
  | 1,a,b=>by cases a;cases b;exact h2
  | 2,a,b=>by cases a;cases b;exact h3
  | 3,a,b=>by cases a;cases b;exact h4⟩
theorem ptv1 {X:Ctx} {w:World} {g:Gh} {u:Value} {x:V} (h1:RepV X w g .free u x):PtV X w g [u] [x] :=
 ⟨rfl,fun j u' x' a b=>match j,a,b with
  | 0,a,b=>by cases a;cases b;exact h1⟩
theorem rep_cur {X:Ctx} {w:World} {g:Gh} {p:Own} {v:Value} {x:V} {id:Nat} (h:curOf x = some id) (r:RepV X w g p v x):∃ (n0 n1 n2 n3 n4 n5 n6 n7 n8 n9 n10 n11 n13 e:Int) (s:List UInt8) (bc:Nat),v = .tuple #[.agg #[.int .i64 n0,.int .i64 n1,.int .i64 n2,.int .i64 n3,.int .i64 n4,.int .i64 n5,.int .i64 n6,.int .i64 n7,.int .i64 n8,.int .i64 n9,.int .i64 n10,.int .i64 n11,.string ⟨s.toArray⟩,.int .i64 n13],.pointer (some ⟨bc,0,none⟩),.int .i64 e] ∧ g.μ[id]? = some bc:=by
 unfold curOf at h
 split at h <;> cases h
 cases r with
 | tup _ vals _ hl hr =>
  match vals,hl with
  | [u0,u1,u2],_ =>
   have h0:=hr 0 u0 _ rfl rfl
   have h1:=hr 1 u1 _ rfl rfl
   have h2:=hr 2 u2 _ rfl rfl
   cases h1 with
   | obj _ _ _ b hb =>
   cases h2 with
   | d _ _ _ h2 =>
   cases h2
   cases h0 with
   | d _ _ _ h0 =>
   cases h0 with
   | agg vals _ hl hr =>
    match vals,hl with
    | [a0,a1,a2,a3,a4,a5,a6,a7,a8,a9,a10,a11,a12,a13],_ =>
     have q0:=hr 0 a0 _ rfl rfl;cases q0
     have q1:=hr 1 a1 _ rfl rfl;cases q1
     have q2:=hr 2 a2 _ rfl rfl;cases q2
     have q3:=hr 3 a3 _ rfl rfl;cases q3
     have q4:=hr 4 a4 _ rfl rfl;cases q4
     have q5:=hr 5 a5 _ rfl rfl;cases q5
     have q6:=hr 6 a6 _ rfl rfl;cases q6
     have q7:=hr 7 a7 _ rfl rfl;cases q7
     have q8:=hr 8 a8 _ rfl rfl;cases q8
     have q9:=hr 9 a9 _ rfl rfl;cases q9
     have q10:=hr 10 a10 _ rfl rfl;cases q10
     have q11:=hr 11 a11 _ rfl rfl;cases q11
     have q12:=hr 12 a12 _ rfl rfl;cases q12
     have q13:=hr 13 a13 _ rfl rfl;cases q13
     exact ⟨_,_,_,_,_,_,_,_,_,_,_,_,_,_,_,_,rfl,hb⟩
theorem rep_start {X:Ctx} {w:World} {g:Gh} {p:Own} {v:Value} {x:V} {s:Int} (h:startOf x = some s) (r:RepV X w g p v x):∃ n0 n2 n3 n4 n5:Int,v = .agg #[.int .i64 n0,.int .i64 s,.int .i64 n2,.int .i64 n3,.int .i64 n4,.int .i64 n5]:=by
 unfold startOf at h
 split at h <;> cases h
 cases r with
 | d _ _ _ r =>
 cases r with
 | agg vals _ hl hr =>
  match vals,hl with
  | [a0,a1,a2,a3,a4,a5],_ =>
   have q0:=hr 0 a0 _ rfl rfl;cases q0
   have q1:=hr 1 a1 _ rfl rfl;cases q1
   have q2:=hr 2 a2 _ rfl rfl;cases q2
   have q3:=hr 3 a3 _ rfl rfl;cases q3
   have q4:=hr 4 a4 _ rfl rfl;cases q4
   have q5:=hr 5 a5 _ rfl rfl;cases q5
   exact ⟨_,_,_,_,_,rfl⟩
theorem rep_item {X:Ctx} {w:World} {g:Gh} {p:Own} {v:Value} {x:V} {s:List UInt8} (h:itemOf x = some s) (r:RepV X w g p v x):∃ (n0 n1 n2 n3 n4 n5:Int) (o:Bool),v = .tuple #[.agg #[.int .i64 n0,.int .i64 n1,.int .i64 n2,.int .i64 n3,.int .i64 n4,.int .i64 n5,.string ⟨s.toArray⟩],.bool o]:=by
 unfold itemOf at h
 split at h <;> cases h
 cases r with
 | d _ _ _ r =>
 cases r with
 | tup vals _ hl hr =>
  match vals,hl with
  | [u0,u1],_ =>
   have h0:=hr 0 u0 _ rfl rfl
   have h1:=hr 1 u1 _ rfl rfl
   cases h1
   cases h0 with
   | agg vals _ hl hr =>
    match vals,hl with
    | [a0,a1,a2,a3,a4,a5,a6],_ =>
     have q0:=hr 0 a0 _ rfl rfl;cases q0
     have q1:=hr 1 a1 _ rfl rfl;cases q1
     have q2:=hr 2 a2 _ rfl rfl;cases q2
     have q3:=hr 3 a3 _ rfl rfl;cases q3
     have q4:=hr 4 a4 _ rfl rfl;cases q4
     have q5:=hr 5 a5 _ rfl rfl;cases q5
     have q6:=hr 6 a6 _ rfl rfl;cases q6
     exact ⟨_,_,_,_,_,_,_,rfl⟩
set_option maxRecDepth 1000000 in
theorem slice_walk {call:CallF} (hp:CallPOk X0 call) (hi:CallIOk X0 call) {r:D} {fr to:Int} {y:V} (hy:extSlice call [r,.int .i64 fr,.int .i64 to] = some y) {w:World} {g:Gh} (hf:Fresh g w) (hg:GlobOk X0 w g)
  {vr:Value} (hr:RepD w g.e vr r) (p:Own) :
  Calls Tryz.prog 42 #[vr,.int .i64 fr,.int .i64 to] w fun E w' => ∃ v g',E = .returned v∧Keep g w g' w' ∧ RepV X0 w' g' p v y:=by
 obtain ⟨a,hba,hle,hy⟩:∃ a,call.p fByteAt [.d r,.d (.int .i64 fr)] = some (.d (.tup [.int .i64 a,.int .i64 0]))∧fr≤to∧sl2 call r fr to a = some y:=by
  simp only [extSlice,sl1] at hy
  split at hy
  ·cases hy
  ·rename_i x hx
   split at hy
   ·cases hy
   ·rename_i a e hpa
    split at hy
    ·rename_i hc
     obtain ⟨rfl,hc⟩:=hc
     exact ⟨a,by rw [hx,pairI_eq hpa],hc,hy⟩
    ·cases hy
 obtain ⟨b,hbb,hy⟩:∃ b,call.p fByteAt [.d r,.d (.int .i64 to)] = some (.d (.tup [.int .i64 b,.int .i64 0]))∧sl3 call r fr a b = some y:=by
  simp only [sl2] at hy
  split at hy
  ·cases hy
  ·rename_i x hx
   split at hy
   ·cases hy
   ·rename_i a e hpa
    split at hy
    ·rename_i hc
     subst hc
     exact ⟨_,by rw [hx,pairI_eq hpa],hy⟩
    ·cases hy
 obtain ⟨x,h1,id,hfind,hcur,hy⟩:∃ x h1 id,call.i fFind [.d r,.d (.int .i64 1),.d (.int .i64 fr),.d (.int .i64 1)] [] = some (x,h1)∧curOf x = some id∧sl4 call id h1 a b = some y:=by
  simp only [sl3] at hy
  split at hy
  ·cases hy
  ·rename_i x hx h1
   split at hy
   ·cases hy
   ·rename_i id hid
    exact ⟨_,_,_,h1,hid,hy⟩
 have hlt:(decide (to < fr)) = false:=by simp;omega
 go_enter Tryz.func42, Tryz.ntmps42
 have hw0:=Wk.start hf hg
 go_wp2_with (go_at_call 68; refine (hw0.callP hp hba rfl (ptv2 (.d _ _ _ hr) (.d _ _ _ (.int _ _))) (p:=.slot 0) ⟨0,0,0,.inl rfl⟩).mono ?_)
 rintro e0 W1 ⟨v1,g1,rfl,hk1,hw1,hr1⟩
 cases rep_pair hr1
 have hr2:=hk1.repD hw0.sit.fresh hr
 go_wp2_with (go_at_call 68; refine (hw1.callP hp hbb rfl (ptv2 (.d _ _ _ hr2) (.d _ _ _ (.int _ _))) (p:=.slot 0) ⟨0,0,0,.inl rfl⟩).mono ?_)
 rintro e0 W2 ⟨v2,g2,rfl,hk2,hw2,hrv2⟩
 cases rep_pair hrv2
 have hr3:=hk2.repD hw1.sit.fresh hr2
 go_wp2_with (go_at_call 69; refine (hw2.callI hi hfind (ptv4 (.d _ _ _ hr3) (.d _ _ _ (.int _ _)) (.d _ _ _ (.int _ _)) (.d _ _ _ (.int _ _))) (p:=.slot 0) ⟨0,0,0,.inl rfl⟩).mono ?_)
 rintro e0 W3 ⟨v3,g3,rfl,hl3,hw3,hrv3,hμ3⟩
 obtain ⟨n0,n1,n2,n3,n4,n5,n6,n7,n8,n9,n10,n11,n13,ec,sc,bc,rfl,hbc⟩:=rep_cur hcur hrv3
 obtain ⟨x4,h2,s,hst,hso,hbig,hy⟩:∃ x h2 s,call.i fStart [.obj id 0] h1 = some (x,h2)∧startOf x = some s∧sliceBig a b s∧(match sliceGo call id b s 1000000 h2 [] with | none=>none | some out=>cutSlice a b s out) = some y:=by
  simp only [sl4] at hy
  split at hy
  ·cases hy
  ·rename_i x hx h1
   split at hy
   ·cases hy
   ·rename_i s hs
    split at hy
    ·rename_i hbig
     exact ⟨_,_,_,h1,hs,hbig,hy⟩
    ·cases hy
 obtain ⟨out,hgo,hy⟩:∃ out,sliceGo call id b s 1000000 h2 [] = some out∧cutSlice a b s out = some y:=by
  split at hy
  ·cases hy
  ·exact ⟨_,by assumption,hy⟩
 have AS:Aside (sliceGo call id b s 1000000 h2 [] = some out∧cutSlice a b s out = some y):=⟨hgo,hy⟩
 clear hgo hy
 go_wp2_with (go_at_call 70; refine (((hw3.alloc _).alloc _).callI hi hst (ptv1 (.obj _ _ _ _ hbc)) (p:=.slot 0) ⟨0,0,0,.inl rfl⟩).mono ?_)
 rintro e0 W4 ⟨v4,g4,rfl,hl4,hw4,hrv4,hμ4⟩
 obtain ⟨m0,m2,m3,m4,m5,rfl⟩:=rep_start hso hrv4
 have hfd:(Instr.field 117 (.agg #[.int .i64 m0,.int .i64 s,.int .i64 m2,.int .i64 m3,.int .i64 m4,.int .i64 m5]) 1).run Tryz.prog W4 = .ok (.agg #[.int .i64 s,.int .i64 m2,.int .i64 m3]) W4:=by kernel_rfl
 have hix:(Instr.index 115 (.agg #[.int .i64 s,.int .i64 m2,.int .i64 m3]) (.int .i64 0)).run Tryz.prog W4 = .ok (.int .i64 s) W4:=by kernel_rfl
 have hbb:=(bld_new (W3.alloc (.cells #[.int .i64 n0,.int .i64 n1,.int .i64 n2,.int .i64 n3,.int .i64 n4,.int .i64 n5,.int .i64 n6,.int .i64 n7,.int .i64 n8,.int .i64 n9,.int .i64 n10,.int .i64 n11,.string ⟨sc.toArray⟩,.int .i64 n13] 180)))
 have hmm:BldMine w ((g3.mine W3.heap.size (W3.heap.size + 1)).mine (W3.heap.size + 1) (W3.heap.size + 2)) (W3.heap.size + 1) (.slice none 0 0):=by
  intro k hk
  rcases hk with rfl | hk
  ·exact ⟨mine_own (Nat.le_refl _) (by omega),(hw3.sit.fresh _ (by omega)).2,by have:=hw3.size;omega⟩
  ·cases hk
 rw [World.size_alloc] at hbb
 obtain ⟨hb4,hm4⟩:=hbb.later hmm (by simpa using hl4)
 have AB:Aside (Bld (W3.heap.size + 1) [] W4 (.slice none 0 0)∧BldMine w g4 (W3.heap.size + 1) (.slice none 0 0)):=⟨hb4,hm4⟩
 have hbc4:=hμ4 _ _ hbc
 clear hb4 hm4 hbb hmm
 go_wp2
 go_loopg [] 1000000 (fun k wr=>∃ (g':Gh) (h:List Ob) (v:Value) (acc:List UInt8),Wk X0 w g wr g' h∧g'.μ[id]? = some bc∧Bld (W3.heap.size + 1) (Lib.byteCells acc) wr v∧BldMine w g' (W3.heap.size + 1) v∧sliceGo call id b s k h acc = some out)
 case atStart=>exact ⟨_,_,_,[],hw4,hbc4,AB.1,AB.2,AS.1⟩
 case round =>
  obtain ⟨g5,h5,v5,acc,hw5,hbc5,hB5,hm5,hgo⟩:=hrel
  cases gk with
  | zero=>cases hgo
  | succ f =>
   by_cases hlen:acc.length≤1000000000
   ·rw [sliceGo,if_pos hlen] at hgo
    have hwr:wrap64 (s + ((Lib.byteCells acc).length:Int)) = s + (acc.length:Int):=by
     rw [Lib.byteCells_length]
     obtain ⟨b1,b2,_⟩:=hbig
     exact wrap64_at _ ⟨by omega,by omega⟩
    by_cases hlt2:s + acc.length < b
    ·rw [if_pos hlt2] at hgo
     split at hgo
     ·rename_i x6 h6 hit
      split at hgo
      ·rename_i s6 hs6
       split at hgo
       rotate_left
       ·cases hgo
       rename_i hs6l
       split at hgo
       ·rename_i o7 h7 hnx
        have AG:Aside (sliceGo call id b s f h7 (acc ++ s6) = some out):=hgo
        clear hgo
        go_wp2_with (go_at_call 71; refine (Tryz.Builder_Len _ _ _ _ hB5.is).mono ?_)
        rintro e0 W5 ⟨rfl,rfl⟩
        go_wp2_with (go_at_call 72; refine (hw5.callI hi hit (ptv1 (.obj _ _ _ _ hbc5)) (p:=.slot 0) ⟨0,0,0,.inl rfl⟩).mono ?_)
        rintro e0 W6 ⟨v6,g6,rfl,hl6,hw6,hrv6,hμ6⟩
        obtain ⟨n0,n1,n2,n3,n4,n5,o6,rfl⟩:=rep_item hs6 hrv6
        obtain ⟨hB6,hm6⟩:=hB5.later hm5 hl6
        have hbc6:=hμ6 _ _ hbc5
        have hlen7:(Lib.byteCells acc).length + (⟨s6.toArray⟩:ByteArray).size≤140737488355328:=by
         rw [Lib.byteCells_length]
         have:(⟨s6.toArray⟩:ByteArray).size = s6.length:=by simp [ByteArray.size]
         omega
        go_wp2_with (go_at_call 73; refine (writeString_x _ _ ⟨s6.toArray⟩ _ _ (hB6.alloc _) hlen7).mono ?_)
        rintro e0 W7 ⟨rfl,v7,hB7,ht7,hn7⟩
        have hmA:=hm6.mine W6.heap.size (W6.heap.size + 1)
        have hw7:=(hw6.alloc (.cells #[.int .i64 n0,.int .i64 n1,.int .i64 n2,.int .i64 n3,.int .i64 n4,.int .i64 n5,.string ⟨s6.toArray⟩] 178)).own1 (ht7.own1 fun k _ hk=>⟨(hmA k hk).own,(hmA k hk).e,(hmA k hk).ge⟩)
        rw [World.size_alloc] at hw7
        have hm7:BldMine w ((g6.mine W6.heap.size (W6.heap.size + 1)).mine (W6.heap.size + 1) W7.heap.size) (W3.heap.size + 1) v7:=by
         intro k hk
         rcases hk with rfl | hk
         ·exact (hmA _ (.inl rfl)).mine _ _
         ·rcases hn7 k hk with h1 | h1
          ·exact (hmA k (.inr h1)).mine _ _
          ·have:=Mine.new (hw6.alloc (.cells #[.int .i64 n0,.int .i64 n1,.int .i64 n2,.int .i64 n3,.int .i64 n4,.int .i64 n5,.string ⟨s6.toArray⟩] 178)) h1 (hB7.row hk)
           simpa using this
        go_wp2_with (go_at_call 74; refine (hw7.callI hi hnx (ptv1 (.obj _ _ _ _ hbc6)) (p:=.slot 0) ⟨0,0,0,.inl rfl⟩).mono ?_)
        rintro e0 W8 ⟨v8,g8,rfl,hl8,hw8,hrv8,hμ8⟩
        go_wp2
        go_roundg f
        case measure=>omega
        case rel =>
         obtain ⟨hB8,hm8⟩:=hB7.later hm7 (by simpa using hl8)
         refine ⟨g8,h7,v7,acc ++ s6,hw8,hμ8 _ _ hbc6,?_,hm8,AG.out⟩
         rw [Lib.byteCells_append]
         exact hB8
       ·cases hgo
      ·cases hgo
     ·cases hgo
    ·rw [if_neg hlt2] at hgo
     cases hgo
     obtain ⟨_,hcut⟩:=AS.out
     by_cases hout:out = []
     ·subst hout
      go_wp2_with (go_at_call 71; refine (Tryz.Builder_Len _ _ _ _ hB5.is).mono ?_)
      ·exfalso
       have e:wrap64 (s + ((Lib.byteCells ([]:List UInt8)).length:Int)) = s:=by
        show wrap64 (s + 0) = s
        rw [Int.add_zero]
        exact wrap64_at _ ⟨by have:=hbig.1;omega,by have:=hbig.2.1;omega⟩
       omega
      rintro e0 W5 ⟨rfl,rfl⟩
      go_wp2
      go_ret2
      cases hcut
      exact ⟨_,g,rfl,keep_below hf hw5.below,.d _ _ _ (.tup _ _ rfl fun j v d h1 h2=>match j,h1,h2 with | 0,h1,h2=>by cases h1;cases h2;exact .str [] | 1,h1,h2=>by cases h1;cases h2;exact .int _ _)⟩
     ·rw [cutSlice,if_neg hout] at hcut
      split at hcut
      ·rename_i hcc
       cases hcut
       obtain ⟨c1,c2,c3⟩:=hcc
       obtain ⟨b1,b2,b3,b4,b5,b6⟩:=hbig
       have hwa:wrap64 (a - s) = a - s:=wrap64_at _ ⟨by omega,by omega⟩
       have hwb:wrap64 (b - s) = b - s:=wrap64_at _ ⟨by omega,by omega⟩
       have hno:((Lib.byteCells out).length:Int) ≠ 0:=by
        rw [Lib.byteCells_length]
        have:=List.length_pos_iff.2 hout
        omega
       go_wp2_with (go_at_call 71; refine (Tryz.Builder_Len _ _ _ _ hB5.is).mono ?_)
       rintro e0 W5 ⟨rfl,rfl⟩
       go_wp2_with (go_at_call 75; refine (Tryz.Builder_String_any _ _ out _ (hB5.isB hm5) hw5.size).mono ?_)
       rintro e0 W6 ⟨rfl,hb6⟩
       go_wp2
       go_ret2
       refine ⟨_,g,rfl,keep_below hf (hw5.below.trans hb6),.d _ _ _ (.tup _ _ rfl fun j v d h1 h2=>match j,h1,h2 with | 0,h1,h2=>?_ | 1,h1,h2=>by cases h1;cases h2;exact .int _ _)⟩
       cases h1;cases h2
       rw [extract_list]
       have e:(b - s).toNat - (a - s).toNat = (b - a).toNat:=by omega
       rw [e]
       exact .str _
      ·cases hcut
   ·rw [sliceGo,if_neg hlen] at hgo
    cases hgo
end Go.Proofs.YtdbmhmembmgndaaGreatDoor.Pv
namespace Go.Proofs.YtdbmhmembmgndaaGreatDoor.Pv.G
open Go Pv
open Classical in
noncomputable def upF (X:Ctx) (f:FuncId) (ds:List D):Option V :=
 if h:∃ y:V,y.pure = true∧Ans X f (ds.map V.d) y then some (Classical.choose h) else none
noncomputable def up (X:Ctx) (off:FuncId→Bool) (extra:FuncId→Option (List D→Option V)):Ctx :=
 ⟨X.P,X.glob,fun f=>if off f = true then none else match extra f with
  | some F=>some F
  | none=>some (upF X f),fun _=>false,X.ints,fun _=>none,X.own⟩
theorem RepV.ctx {X Y:Ctx} (hP:X.P = Y.P) {w:World} {g:Gh} {p:Own} {v:Value} {x:V} (r:RepV X w g p v x):RepV Y w g p v x:=by
 induction r with
 | d p v x r=>exact .d p v x r
 | tail p E cells n b c cur z vals hz hz0 hb hn hm hcur hcl he ho hp hv hr=>exact .tail p E cells n b c cur z vals (by rw [← hP];exact hz) hz0 hb hn hm hcur hcl he ho hp hv hr
 | tail0 p E a0=>exact .tail0 p E _
 | full p b o cells n r=>exact .full p b o cells n r
 | obj p id off b r=>exact .obj p id off b r
 | osl p id off n c b r hn=>exact .osl p id off n c b r hn
 | clo p fn va vb a b hla hlb _ _ iha ihb=>exact .clo p fn va vb a b hla hlb iha ihb
 | agg p vals vs hl _ ih=>exact .agg p vals vs hl ih
 | tup p vals vs hl _ ih=>exact .tup p vals vs hl ih
 | mp p id b r=>exact .mp p id b r
 | it p id b r=>exact .it p id b r
end Go.Proofs.YtdbmhmembmgndaaGreatDoor.Pv.G
namespace Go.Proofs.YtdbmhmembmgndaaGreatDoor.Pv
open Go Go.RowKit Go.Proofs
def fuel0:Nat:=100000
def dep0:Nat:=30
theorem call_ok (X:Ctx) (hx:ExtOk X) (hxp:ExtPure X) (hxi:ExtIOk X) (F K:Nat):CallPOk X (callN X F K)∧CallIOk X (callN X F K):=callN_ok (fun _=>rfl) hx hxp hxi F K
abbrev fSlice:FuncId := 42
noncomputable def X1:Ctx:={ X0 with ext:=fun f=>if f = fSlice then some (extSlice (callN X0 fuel0 dep0)) else ext0 f }
theorem cutSlice_pure {a b s:Int} {out:List UInt8} {y:V} (h:cutSlice a b s out = some y):y.pure = true:=by
 unfold cutSlice at h
 split at h
 ·cases h;rfl
 ·split at h <;> cases h;rfl
theorem extSlice_pure {call:CallF} {ds:List D} {y:V} (h:extSlice call ds = some y):y.pure = true:=by
 unfold extSlice at h
 split at h
 ·unfold sl1 at h
  split at h <;> try (cases h;done)
  split at h <;> try (cases h;done)
  split at h <;> try (cases h;done)
  unfold sl2 at h
  split at h <;> try (cases h;done)
  split at h <;> try (cases h;done)
  split at h <;> try (cases h;done)
  unfold sl3 at h
  split at h <;> try (cases h;done)
  split at h <;> try (cases h;done)
  unfold sl4 at h
  split at h <;> try (cases h;done)
  split at h <;> try (cases h;done)
  split at h <;> try (cases h;done)
  split at h <;> try (cases h;done)
  exact cutSlice_pure h
 ·cases h
theorem ext1_pure:ExtPure X1:=by
 intro f F hF ds y hy
 simp only [X1] at hF
 split at hF
 ·cases hF
  exact extSlice_pure hy
 ·exact ext0_pure f F hF ds y hy
theorem ext1_iok:ExtIOk X1:=fun f F h=>by cases h
theorem ext1_ok:ExtOk X1:=by
 intro f F hF ds y hy w g vargs hf hg hp p hpos
 have hg':GlobOk X0 w g:=hg
 simp only [X1] at hF
 split at hF
 ·rename_i hfe
  subst hfe
  cases hF
  have hy':=hy
  unfold extSlice at hy'
  split at hy'
  ·rename_i r fr to
   obtain ⟨u,v,x,rfl,hu,hv,hx⟩:=ptd3 hp
   cases hv;cases hx
   obtain ⟨hcp,hci⟩:=call_ok X0 ext0_ok ext0_pure ext0_iok fuel0 dep0
   exact ⟨_,Tryz.func42, rfl,⟨_,rfl⟩,(slice_walk hcp hci hy hf hg' hu p).mono fun E w' ⟨v,g',a,b,c⟩=>⟨v,g',a,b,G.RepV.ctx (X:=X0) (Y:=X1) rfl c⟩⟩
  ·cases hy'
 ·obtain ⟨fn,k1,k2,k3,k4⟩:=ext0_ok f F hF ds y hy w g vargs hf hg' hp p hpos
  exact ⟨fn,k1,k2,k3,k4.mono fun E w' ⟨v,g',a,b,c⟩=>⟨v,g',a,b,G.RepV.ctx (X:=X0) (Y:=X1) rfl c⟩⟩
open Go Go.RowKit Go.Proofs Go.Shelf
section
variable {F:Fence} {n:Nat} {P:Program}
def recOf (fn:FuncId) (tmps:Array Value) (ps:Array Tmp) (assign body:Code) (D:Nat) (st:LoopState) (pe:Option Code):Loop:={ state:=st,pending:=pe,fn,tmps,params:=ps,assign,body,defers:=D }
theorem rangeFunc_free {g:Operand} {ps:Array Tmp} {assign body:Code} {Q:Exit→Act→World→Prop} {a:Act} {w:World}
  (hro:F.round = none) (h1:F.depth.isSome = true→1≤n) {gf:Nat} {lb:Array Value} (hg:a.eval g = .func (.func gf) #[] lb) (hFg:F.fn gf) (eg:∀ args w,(callFunc gf args).run P w = .ok (.enter gf args) w)
  (h:∀ (fn:FuncId) (rec:LoopState→Loop),F.fn fn→(∀ st,rec st = recOf fn a.tmps ps assign body w.heap.size st none) →
   CallsIn F (n - 1) P gf (#[.func (.yield (w.heap.size + 1)) #[] #[]] ++ lb) ((w.alloc (.deferred (some []))).alloc (.loop (rec .ready))) fun e W =>
   (∃ v,e = .returned v)∧W.heap[w.heap.size + 1]? = some (.loop (rec .ready)) ∧
   Q .normal { a with defers:={ target:=.collected w.heap.size,args:=#[] } :: a.defers } (W.putObj (w.heap.size + 1) (.loop (rec .exhausted)))) :
  (Code.rangeFunc g ps assign body).wpIn F n P Q a w:=by
 refine wpIn_rangeFunc ?_
 intro fn hfn
 rw [hro]
 obtain ⟨rec,hrec⟩:∃ rec:LoopState→Loop,∀ st,rec st = recOf fn a.tmps ps assign body w.heap.size st none:=⟨_,fun _=>rfl⟩
 have h:=h fn rec hfn hrec
 have hen:=run_enterLoop_outer (P:=P) (w:=w) fn a.tmps ps assign body
 obtain ⟨W1,hW1⟩:∃ W1,(w.alloc (.deferred (some []))).alloc (.loop (rec .ready)) = W1:=⟨_,rfl⟩
 have hen':(Instr.enterLoop fn a.tmps ps assign body none).run P w = .ok (w.heap.size + 1,[{ target:=.collected w.heap.size,args:=#[] }]) W1:=by
  rw [hen,← hW1,hrec,recOf]
 rw [hW1] at h
 clear hen hW1
 have hres:(resolve a.eval (rangeCall g (w.heap.size + 1)) 0).run P W1 = .ok { target:=.fn (.func gf) lb,args:=#[.func (.yield (w.heap.size + 1)) #[] #[]] } W1:=by
  simp only [resolve,hg]
  simp [go_sem]
 have hinv:(invoke (.fn (.func gf) lb) #[.func (.yield (w.heap.size + 1)) #[] #[]]).run P W1 = .ok (.enter gf (#[.func (.yield (w.heap.size + 1)) #[] #[]] ++ lb)) W1:=by
  simp [invoke,go_sem,eg]
 refine ⟨w.heap.size + 1,[{ target:=.collected w.heap.size,args:=#[] }],W1,{ target:=.fn (.func gf) lb,args:=#[.func (.yield (w.heap.size + 1)) #[] #[]] },W1,gf,#[.func (.yield (w.heap.size + 1)) #[] #[]] ++ lb,W1,hen',hres,?_,hinv,h1,?_⟩
 ·intro f' hf'
  simp [Target.leads] at hf'
  subst hf'
  exact hFg
 ·have hpost:∀ e W2,((∃ v,e = .returned v)∧W2.heap[w.heap.size + 1]? = some (.loop (rec .ready)) ∧
   Q .normal { a with defers:={ target:=.collected w.heap.size,args:=#[] } :: a.defers } (W2.putObj (w.heap.size + 1) (.loop (rec .exhausted)))) →
   rangePost F n P (w.heap.size + 1) Q { a with defers:=[{ target:=.collected w.heap.size,args:=#[] }] ++ a.defers } e W2:=by
   rintro e W2 ⟨⟨v,rfl⟩,hl,hq⟩
   have hend:=run_endLoop (P:=P) hl (by rw [hrec];unfold recOf;simp)
   refine ⟨none,W2.putObj (w.heap.size + 1) (.loop (rec .exhausted)),?_,?_⟩
   ·rw [hend,hrec,hrec]
    rfl
   ·exact hq
  exact CallsIn.mono h hpost
theorem yield_free {fn:FuncId} {rec:LoopState→Loop} {tmps:Array Value} {ps:Array Tmp} {assign body:Code} {D l:Nat} {args:Array Value} {W:World} {R:Ending→World→Prop} {m:Nat} (hfn:F.fn fn)
  (hrec:∀ st,rec st = recOf fn tmps ps assign body D st none) (hl:W.heap[l]? = some (.loop (rec .ready))) (hs:args.size = ps.size)
  (hw:assign.wpIn (F.inRound l) m P (Exit.then (fun a1 W1=>W1.heap[l]? = some (.loop (rec .ready)) ∧
   body.wpIn (F.inRound l) m P (fun e a3 W3=>e = .normal∧W3.heap[l]? = some (.loop (rec .busy))∧R (.returned (.bool true)) (W3.putObj l (.loop (rec .ready)))) a1 (W1.putObj l (.loop (rec .busy)))) (fun _ _ _=>False))
   {tmps:=(ps.zip args).foldl (fun t (p,v)=>t.setIfInBounds p v) tmps,defers:=[] } W):YieldAt F m P l args W R:=by
 rw [hrec] at hl
 refine ⟨fn,_,assign,body,run_yield hl hs,roundIn_of_wpIn hfn (wpIn_mono hw ?_)⟩
 intro e a1 W1 hq
 cases e with
 | normal =>
  obtain ⟨hl1,hb⟩:=hq
  rw [hrec] at hl1
  refine ⟨W1.putObj l (.loop (rec .busy)),?_,wpIn_mono hb ?_⟩
  ·rw [run_beginRound hl1 rfl,hrec];rfl
  rintro e a3 W3 ⟨rfl,hl3,hR⟩
  rw [hrec] at hl3
  refine ⟨_,W3.putObj l (.loop (rec .ready)),?_,hR⟩
  rw [run_endRound none hl3,hrec];rfl
 | exit id=>exact hq
 | goto t=>exact hq
 | ret=>exact hq
 | panic c=>exact hq
 | outgrown=>exact hq
end
attribute [local go_sem] Oper.semAt_some
attribute [-go_sem] Go.Builtin.append_
abbrev fEnd:FuncId := 180
abbrev fShown:FuncId := 182
abbrev tPart:TypeId := 347
abbrev tParts:TypeId := 154
def isPtr:D→Bool
 | .ref .. => true
 | .nil=>true
 | _=>false
def spans:List D→Option (List (Int × Int))
 | []=>some []
 | .int .i64 a :: .int .i64 b :: r=>(spans r).map ((a,b) :: ·)
 | _=>none
noncomputable def addParts (x:V) (acc:List D) (m:Nat):Option (List D × Nat):=match G.appendV X1 tParts tParts (.tail tPart acc m) x with
 | some (V.tail E c n)=>if E = tPart then some (c,n) else none
 | _=>none
noncomputable def runPart (call:CallF) (T:D) (fr to:Int) (acc:List D) (m:Nat):Option (List D × Nat):=match call.p fShown [.d T,.d (.agg [.int .i64 fr,.int .i64 to])] with
 | some x=>addParts x acc m
 | none=>none
noncomputable def foldPart (a:Int) (acc:List D) (m:Nat):Option (List D × Nat):=addParts (.d (.sl [.int .i64 3,.int .i64 a,.sl [] 0] 1)) acc m
noncomputable def lineGo (call:CallF) (T:D) (to:Int):List (Int × Int)→Int→List D→Nat→Option (List D × Nat)
 | [],fr,acc,m=>runPart call T fr to acc m
 | (a,b) :: r,fr,acc,m=>if a < fr∨to < b then lineGo call T to r fr acc m else
  match runPart call T fr a acc m with
  | none=>none
  | some (acc,m)=>match foldPart a acc m with
   | none=>none
   | some (acc,m)=>lineGo call T to r b acc m
noncomputable def extLine (call:CallF):List D→Option V
 | [.agg [r,i,.sl hc hn],.int .i64 fr] =>
  if isPtr r && isPtr i then
   match call.p fEnd [.d (.agg [r,i,.sl hc hn]),.d (.int .i64 fr)],spans hc with
   | some (.d (.int .i64 to)),some l=>if l.length = hn∧hn≤1000000 then match lineGo call (.agg [r,i,.sl hc hn]) to l fr [] 0 with
    | some (cs,n)=>some (.d (.agg [.sl cs n,.int .i64 fr,.int .i64 to]))
    | none=>none
    else none
   | _,_=>none
  else none
 | _=>none
theorem ptr_of {w:World} {e:Nat→Nat} {v:Value} {d:D} (h:RepD w e v d) (hp:isPtr d = true):∃ p,v = .pointer p:=by
 cases h <;> first | exact ⟨_,rfl⟩ | cases hp
theorem sl_of {w:World} {e:Nat→Nat} {v:Value} {c:List D} {n:Nat} (h:RepD w e v (.sl c n)):∃ a k,v = .slice a n k:=by
 cases h <;> exact ⟨_,_,rfl⟩
theorem Wk.lift {X:Ctx} {w0 W:World} {g0 g:Gh} {h:List Ob} (k:Wk X w0 g0 W g h) {v:Value} {d:D} (r:RepD w0 g0.e v d):RepD W g.e v d :=
 r.mono (fun b o ho=>k.later.cells b o ho) fun b=>k.later.e b
theorem rep_agg3 {w:World} {e:Nat→Nat} {a b c:Value} {x y z:D} (h0:RepD w e a x) (h1:RepD w e b y) (h2:RepD w e c z):RepD w e (.agg #[a,b,c]) (.agg [x,y,z]) :=
 .agg [a,b,c] _ rfl fun j v d p q=>match j,p,q with
  | 0,p,q=>by cases p;cases q;exact h0
  | 1,p,q=>by cases p;cases q;exact h1
  | 2,p,q=>by cases p;cases q;exact h2
set_option maxHeartbeats 1000000 in
set_option maxRecDepth 100000 in
theorem runs_calls (p0 p1 ha:Option Addr) (hn hk:Nat) (a b:Int) (W:World) :
  Calls Tryz.prog 181 #[.agg #[.pointer p0,.pointer p1,.slice ha hn hk],.int .i64 a,.int .i64 b] W fun e W' =>
   e = .returned (.func (.func 244) #[] #[.pointer (some ⟨W.heap.size,0,none⟩),.pointer (some ⟨W.heap.size + 1,0,none⟩),.pointer (some ⟨W.heap.size + 2,0,none⟩)]) ∧
   W' = ((W.alloc (.cells #[.pointer p0,.pointer p1,.slice ha hn hk] 149)).alloc (.cells #[.int .i64 a] 3)).alloc (.cells #[.int .i64 b] 3):=by
 go_enter Tryz.func181, Tryz.ntmps181
 go_wp2
 go_ret
 exact ⟨rfl,rfl⟩
theorem app_slot {t u ty:TypeId} {w:World} {g:Gh} (hf:Fresh g w) {v u':Value} {E E':TypeId} {acc acc':List D} {m m':Nat} {x:V} {q:Own} (hv:RepV X1 w g (.slot 0) v (.tail E acc m)) (hx:RepV X1 w g q u' x)
  (h:G.appendV X1 t u (.tail E acc m) x = some (.tail E' acc' m')) :
  ∃ v' w' g',(Builtin.append_ #[t,u] ty #[v,u']).run X1.P w = .ok v' w' ∧ Shift (.slot 0) g w g' w' ∧ RepV X1 w' g' (.slot 0) v' (.tail E' acc' m'):=by
 unfold G.appendV at h
 split at h
 ·rename_i E i cs n hE hEi hsrc
  split at h
  ·rename_i hcond
   simp only [Bool.and_eq_true,bne_iff_ne,ne_eq,beq_iff_eq] at hcond
   obtain ⟨⟨⟨hs0,hlen⟩,hone⟩,hzero⟩:=hcond
   simp only [hE,Option.bind_some] at hEi
   obtain ⟨zv,hz,hzs⟩:=zero_size hEi hzero
   obtain ⟨hu,news,hsr,hpt⟩:=src_rep hsrc hlen hx
   have k:AppOk X1 w g t u E n i zv u' cs news:=⟨elemT_under hE,hu,hEi,hz,hzs,Nat.pos_of_ne_zero hs0,hsr,hpt,hlen,hone⟩
   simp only at h
   split at h
   ·rename_i hc2
    obtain ⟨rfl,hcl⟩:=hc2
    split at h
    ·rename_i hb
     simp at h
     obtain ⟨rfl,rfl,rfl⟩:=h
     exact append_tail (ty:=ty) k hf hv hcl (by simpa using hb.1) (by simpa using hb.2) ⟨0,0,0,.inl rfl⟩
    ·cases h
   ·cases h
  ·cases h
 ·cases h
theorem app_line {w:World} {g:Gh} (hf:Fresh g w) {v u':Value} {acc acc':List D} {m m':Nat} {x:V} {q:Own} (hv:RepV X1 w g (.slot 0) v (.tail tPart acc m)) (hx:RepV X1 w g q u' x)
  (h:G.appendV X1 tParts tParts (.tail tPart acc m) x = some (.tail tPart acc' m')) :
  ∃ v' w' g',(Builtin.append_ #[154, 154] 154 #[v,u']).run Tryz.prog w = .ok v' w' ∧ Shift (.slot 0) g w g' w' ∧ RepV X1 w' g' (.slot 0) v' (.tail tPart acc' m') :=
 app_slot (ty:=tParts) hf hv hx h
theorem tail_slice {X:Ctx} {w:World} {g:Gh} {p:Own} {v:Value} {E:TypeId} {c:List D} {n:Nat} (h:RepV X w g p v (.tail E c n)):∃ a l k,v = .slice a l k:=by
 cases h <;> exact ⟨_,_,_,rfl⟩
theorem Wk.shift {X:Ctx} {w0 W W':World} {g0 g g':Gh} {p:Own} (k:Wk X w0 g0 W g []) (s:Shift p g W g' W'):Wk X w0 g0 W' g' [] :=
 ⟨⟨s.fresh,⟨by rw [s.μ];exact k.sit.heap.len,fun id b hb=>(s.objs b id (k.sit.heap.own id b (by rw [← s.μ];exact hb))).2.1,fun id b o hb ho=>by simp at ho⟩,k.sit.glob.later s.later⟩,k.later.trans s.later,k.glob⟩
def LSt (w0:World) (g0:Gh) (b2 b5:Nat) (u0 u1 u2:Value) (fr to:Int) (acc:List D) (m:Nat) (W:World) (g:Gh):Prop :=
 Wk X1 w0 g0 W g [] ∧ Mine w0 g b2∧W.heap[b2]? = some (.cells #[u0,u1,u2] 149)∧Mine w0 g b5∧∃ v,W.heap[b5]? = some (.cells #[v,.int .i64 fr,.int .i64 to] 156)∧RepV X1 W g (.slot 0) v (.tail tPart acc m)
def Same (w0:World) (g:Gh) (W:World) (g':Gh) (W':World) (b5 l:Nat):Prop :=
 W.heap.size≤W'.heap.size∧∀ b,b ≠ b5→b ≠ l→Mine w0 g b→b < W.heap.size→Mine w0 g' b∧W'.heap[b]? = W.heap[b]?
theorem round_done {w0:World} {g0:Gh} {b2 B L:Nat} {u0 u1 u2 v v':Value} {fr to:Int} {acc:List D} {m:Nat} {W W7:World} {g' g7:Gh} {rec:LoopState→Loop} (k7:Wk X1 w0 g0 W7 g7 []) (m2:Mine w0 g7 b2) (f2:W7.heap[b2]? = some (.cells #[u0,u1,u2] 149))
  (m5:Mine w0 g7 B) (f5:W7.heap[B]? = some (.cells #[v,.int .i64 fr,.int .i64 to] 156)) (mL:Mine w0 g7 L) (fL:W7.heap[L]? = some (.loop (rec .busy))) (hLB:L ≠ B) (hL2:L ≠ b2) (hB2:b2 ≠ B)
  (hr:RepV X1 W7 g7 (.slot 0) v' (.tail tPart acc m)) (sm:Same w0 g' W g7 W7 B L) :
  (W7.setCell ⟨B,0,none⟩ v').heap[L]? = some (.loop (rec .busy))∧∃ g'',LSt w0 g0 b2 B u0 u1 u2 fr to acc m ((W7.setCell ⟨B,0,none⟩ v').putObj L (.loop (rec .ready))) g'' ∧ Mine w0 g'' L ∧
   ((W7.setCell ⟨B,0,none⟩ v').putObj L (.loop (rec .ready))).heap[L]? = some (.loop (rec .ready))∧Same w0 g' W g'' ((W7.setCell ⟨B,0,none⟩ v').putObj L (.loop (rec .ready))) B L:=by
 have hLlt:L < W7.heap.size:=(Array.getElem?_eq_some_iff.1 fL).1
 have hs:(W7.setCell ⟨B,0,none⟩ v').heap.size = W7.heap.size:=by show (W7.heap.modify _ _).size = _;rw [Array.size_modify]
 have h1:(W7.setCell ⟨B,0,none⟩ v').heap[L]? = some (.loop (rec .busy)):=(Below.heap_setCell W7 _ _ L hLB).trans fL
 refine ⟨h1,?_⟩
 obtain ⟨W8,hW8⟩:∃ W8,(W7.setCell ⟨B,0,none⟩ v').putObj L (.loop (rec .ready)) = W8:=⟨_,rfl⟩
 rw [hW8]
 have sz:W8.heap.size = W7.heap.size:=by rw [← hW8];simp [hs]
 have fL8:W8.heap[L]? = some (.loop (rec .ready)):=by
  rw [← hW8]
  exact World.putObj_heap_same (by rw [hs];exact hLlt)
 have f58:W8.heap[B]? = some (.cells #[v',.int .i64 fr,.int .i64 to] 156):=by
  rw [← hW8,World.putObj_heap_other (Ne.symm hLB)]
  exact (heap_setCell_same W7 B 0 _ _ _ f5).trans rfl
 have oth:∀ k,k ≠ B→k ≠ L→W8.heap[k]? = W7.heap[k]?:=fun k hk hkL=>by
  rw [← hW8,World.putObj_heap_other hkL]
  exact Below.heap_setCell W7 _ _ k hk
 have ow:Own1 w0 g7 W7 W8:=by
  refine ⟨by rw [← hW8];rfl,by rw [← hW8];rfl,by rw [← hW8];rfl,by omega,fun k hk=>?_⟩
  by_cases e:k = B
  ·subst e;exact .inr ⟨m5.own,m5.e,m5.ge⟩
  ·by_cases e':k = L
   ·subst e';exact .inr ⟨mL.own,mL.e,mL.ge⟩
   ·exact .inl (oth k e e')
 refine ⟨_,⟨k7.own1 ow,m2.mine _ _,(oth _ hB2 (Ne.symm hL2)).trans f2,m5.mine _ _,v',f58,ow.repV k7.sit.fresh hr⟩,mL.mine _ _,fL8,by have:=sm.1;omega,fun b hb hbl mb hlt=>?_⟩
 obtain ⟨q1,q2⟩:=sm.2 b hb hbl mb hlt
 exact ⟨q1.mine _ _,(oth b hb hbl).trans q2⟩
attribute [local go_sem] Oper.semAt_some
theorem LSt.own1 {w0:World} {g0:Gh} {b2 B:Nat} {u0 u1 u2:Value} {fr to:Int} {acc:List D} {m:Nat} {W W':World} {g:Gh} (s:LSt w0 g0 b2 B u0 u1 u2 fr to acc m W g) (o:Own1 w0 g W W') (h2:W'.heap[b2]? = W.heap[b2]?) (h5:W'.heap[B]? = W.heap[B]?) :
  LSt w0 g0 b2 B u0 u1 u2 fr to acc m W' (g.mine W.heap.size W'.heap.size):=by
 obtain ⟨k1,k2,k3,k4,v,k5,k6⟩:=s
 exact ⟨k1.own1 o,k2.mine _ _,h2.trans k3,k4.mine _ _,v,h5.trans k5,o.repV k1.sit.fresh k6⟩
def SameX (w0:World) (g:Gh) (W:World) (g':Gh) (W':World) (b5 l b7:Nat):Prop :=
 W.heap.size≤W'.heap.size∧∀ b,b ≠ b5→b ≠ l→b ≠ b7→Mine w0 g b→b < W.heap.size→Mine w0 g' b∧W'.heap[b]? = W.heap[b]?
theorem spans_get {w:World} {e:Nat→Nat} {blk o:Nat}:∀ {hc:List D} {l:List (Int × Int)} {vals:List Value},spans hc = some l→vals.length = hc.length→(∀ (j:Nat) (v:Value) (d:D),vals[j]? = some v→hc[j]? = some d→RepD w e v d) →
  ∀ {k:Nat} {a b:Int},l[k]? = some (a,b)→vals[k * 2]? = some (.int .i64 a)∧vals[k * 2 + 1]? = some (.int .i64 b):=by
 intro hc
 induction hc using spans.induct with
 | case1 =>
  intro l vals h _ _ k a b hk
  simp only [spans,Option.some.injEq] at h
  subst h
  simp at hk
 | case2 x y r ih =>
  intro l vals h hl hr k a b hk
  simp only [spans,Option.map_eq_some_iff] at h
  obtain ⟨l',hl',rfl⟩:=h
  match vals,hl with
  | u :: v :: vals,hl =>
   cases k with
   | zero =>
    simp at hk
    obtain ⟨rfl,rfl⟩:=hk
    have h0:=hr 0 u _ rfl rfl
    have h1:=hr 1 v _ rfl rfl
    cases h0;cases h1
    exact ⟨rfl,rfl⟩
   | succ k =>
    simp only [List.getElem?_cons_succ] at hk
    have:=ih hl' (vals:=vals) (by simpa using hl) (fun j v d h1 h2=>hr (j + 2) v d (by simpa using h1) (by simpa using h2)) hk
    rw [show (k + 1) * 2 = k * 2 + 1 + 1 by omega]
    exact this
 | case3 hc h1 h2 =>
  intro l vals h
  unfold spans at h
  split at h
  ·exact (h1 rfl).elim
  ·exact (h2 _ _ _ rfl).elim
  ·cases h
theorem hidden_cells {X:Ctx} {w:World} {g:Gh} {ha:Option Addr} {hn hk:Nat} {hc:List D} {l:List (Int × Int)} (h:RepD w g.e (.slice ha hn hk) (.sl hc hn)) (hs:spans hc = some l) :
  ∀ (k:Nat) (a b:Int),l[k]? = some (a,b)→∃ blk off,ha = some ⟨blk,off,none⟩ ∧ ∀ W g',Wk X w g W g' [] → W.cell? ⟨blk,off + k * 2,none⟩ = some (.int .i64 a)∧W.cell? ⟨blk,off + k * 2 + 1,none⟩ = some (.int .i64 b):=by
 intro k a b hk
 cases h with
 | sl0=>simp [spans] at hs;subst hs;simp at hk
 | sl blk o _ c _ vals hn hl he hcc hr =>
  obtain ⟨q0,q1⟩:=spans_get (blk:=blk) (o:=o) hs hl hr hk
  have lt1:k * 2 + 1 < hc.length:=by rw [← hl];exact (List.getElem?_eq_some_iff.1 q1).1
  refine ⟨blk,o,rfl,fun W g' kw=>?_⟩
  have e:=kw.later.cells
  refine ⟨(e blk (o + k * 2) (show o + k * 2 < g.e blk by omega)).trans (hcc _ _ q0),?_⟩
  have:=(e blk (o + (k * 2 + 1)) (show o + (k * 2 + 1) < g.e blk by omega)).trans (hcc _ _ q1)
  rwa [← Nat.add_assoc] at this
theorem lineGo_skip {call:CallF} {T:D} {to a b fr:Int} {r:List (Int × Int)} {acc:List D} {m:Nat} (h:a < fr∨to < b):lineGo call T to ((a,b) :: r) fr acc m = lineGo call T to r fr acc m:=by
 show (if a < fr∨to < b then _ else _) = _
 rw [if_pos h]
theorem lineGo_take {call:CallF} {T:D} {to a b fr:Int} {r:List (Int × Int)} {acc cs:List D} {m n:Nat} (h:¬ (a < fr∨to < b)) (hg:lineGo call T to ((a,b) :: r) fr acc m = some (cs,n)) :
  ∃ acc1 m1 acc2 m2,runPart call T fr a acc m = some (acc1,m1)∧foldPart a acc1 m1 = some (acc2,m2)∧lineGo call T to r b acc2 m2 = some (cs,n):=by
 change (if a < fr∨to < b then _ else _) = _ at hg
 rw [if_neg h] at hg
 split at hg
 ·cases hg
 rename_i acc1 m1 h1
 split at hg
 ·cases hg
 rename_i acc2 m2 h2
 exact ⟨acc1,m1,acc2,m2,h1,h2,hg⟩
set_option maxRecDepth 1000000 in
theorem runs1_walk {call:CallF} {T:D} {w:World} {g:Gh} {b2 B L b6 b7 b8:Nat} {u0 u1 u2:Value} {fr to:Int} {rec:LoopState→Loop} {l:List (Int × Int)} {ha:Option Addr} {hn hk:Nat} {q0 q1:Value} {cs:List D} {n:Nat}
  (hyP:∀ (W:World) (g':Gh) (acc acc':List D) (m m':Nat) (x y:Int),LSt w g b2 B u0 u1 u2 fr to acc m W g' → Mine w g' L→W.heap[L]? = some (.loop (rec .ready)) →
   runPart call T x y acc m = some (acc',m')→YieldAt Fence.wide 1 Tryz.prog L #[.agg #[.int .i64 x,.int .i64 y],.bool true] W fun e W' => e = .returned (.bool true) ∧
    ∃ g'',LSt w g b2 B u0 u1 u2 fr to acc' m' W' g'' ∧ Mine w g'' L∧W'.heap[L]? = some (.loop (rec .ready))∧Same w g' W g'' W' B L)
  (hyF:∀ (W:World) (g':Gh) (acc acc':List D) (m m':Nat) (x y:Int),LSt w g b2 B u0 u1 u2 fr to acc m W g' → Mine w g' L→W.heap[L]? = some (.loop (rec .ready)) →
   foldPart x acc m = some (acc',m')→YieldAt Fence.wide 1 Tryz.prog L #[.agg #[.int .i64 x,.int .i64 y],.bool false] W fun e W' => e = .returned (.bool true) ∧
    ∃ g'',LSt w g b2 B u0 u1 u2 fr to acc' m' W' g'' ∧ Mine w g'' L∧W'.heap[L]? = some (.loop (rec .ready))∧Same w g' W g'' W' B L)
  (hH:∀ (k:Nat) (a b:Int),l[k]? = some (a,b)→∃ blk off,ha = some ⟨blk,off,none⟩ ∧ ∀ W g',Wk X1 w g W g' [] → W.cell? ⟨blk,off + k * 2,none⟩ = some (.int .i64 a)∧W.cell? ⟨blk,off + k * 2 + 1,none⟩ = some (.int .i64 b))
  (hln:l.length = hn) (hnb:hn≤1000000) {W0:World} {g1:Gh} (s0:LSt w g b2 B u0 u1 u2 fr to [] 0 W0 g1) (mL:Mine w g1 L) (rL:W0.heap[L]? = some (.loop (rec .ready)))
  (m6:Mine w g1 b6) (e6:W0.heap[b6]? = some (.cells #[q0,q1,.slice ha hn hk] 149)) (m7:Mine w g1 b7) (e7:W0.heap[b7]? = some (.cells #[.int .i64 fr] 3)) (m8:Mine w g1 b8) (e8:W0.heap[b8]? = some (.cells #[.int .i64 to] 3))
  (d:b6 ≠ B∧b6 ≠ L∧b7 ≠ B∧b7 ≠ L∧b8 ≠ B∧b8 ≠ L∧b6 ≠ b7∧b8 ≠ b7∧b2 ≠ b7∧B ≠ b7∧L ≠ b7) (hgo:lineGo call T to l fr [] 0 = some (cs,n)) :
  CallsIn Fence.wide 2 Tryz.prog 244 #[.func (.yield L) #[] #[],.pointer (some ⟨b6,0,none⟩),.pointer (some ⟨b7,0,none⟩),.pointer (some ⟨b8,0,none⟩)] W0 fun e W' => (∃ v,e = .returned v) ∧
   ∃ g'',LSt w g b2 B u0 u1 u2 fr to cs n W' g'' ∧ Mine w g'' L∧W'.heap[L]? = some (.loop (rec .ready))∧SameX w g1 W0 g'' W' B L b7:=by
 refine callsIn_of_wp Tryz.func244 rfl trivial ?_ rfl
 simp only [Tryz.ntmps244, List.size_toArray,List.length_cons,List.length_nil,Nat.reduceAdd,Nat.reduceSub,Array.replicate_succ,Array.replicate_zero,List.push_toArray,List.append_toArray,List.nil_append,List.cons_append]
 have c62:W0.cell? ⟨b6,2,none⟩ = some (.slice ha hn hk):=by rw [Lib.cell_of_heap e6];rfl
 gi_wp2
 have AH:Aside (lineGo call T to l fr [] 0 = some (cs,n)∧SameX w g1 W0 g1 W0 B L b7):=⟨hgo,Nat.le_refl _,fun b _ _ _ mb _=>⟨mb,rfl⟩⟩
 clear hgo
 gi_loopg [10] (hn + 1) (fun kk v10 wr=>∃ (k:Nat) (fr':Int) (acc:List D) (m:Nat) (g':Gh),k + kk = hn + 1∧k≤hn∧v10 = .int .i64 k∧LSt w g b2 B u0 u1 u2 fr to acc m wr g' ∧ Mine w g' L∧wr.heap[L]? = some (.loop (rec .ready)) ∧
  (Mine w g' b6∧wr.heap[b6]? = some (.cells #[q0,q1,.slice ha hn hk] 149))∧(Mine w g' b7∧wr.heap[b7]? = some (.cells #[.int .i64 fr'] 3))∧(Mine w g' b8∧wr.heap[b8]? = some (.cells #[.int .i64 to] 3)) ∧
  SameX w g1 W0 g' wr B L b7∧lineGo call T to (l.drop k) fr' acc m = some (cs,n))
 case atStart=>exact ⟨0,fr,[],0,g1,by omega,by omega,rfl,s0,mL,rL,⟨m6,e6⟩,⟨m7,e7⟩,⟨m8,e8⟩,AH.out.2,AH.out.1⟩
 case round =>
  obtain ⟨k,fr',acc,m,g',hkk,hkle,rfl,s,mLr,rLr,⟨m6r,e6r⟩,⟨m7r,e7r⟩,⟨m8r,e8r⟩,sm,hg⟩:=hrel
  by_cases hlt:k < hn
  ·obtain ⟨⟨a,b⟩,hab⟩:∃ x,l[k]? = some x:=⟨l[k]'(by omega),List.getElem?_eq_getElem (by omega)⟩
   obtain ⟨blk,off,rfl,hcell⟩:=hH k a b hab
   obtain ⟨hc0,hc1⟩:=hcell wr g' s.1
   have hdr:l.drop k = (a,b) :: l.drop (k + 1):=by
    obtain ⟨h1,h2⟩:=List.getElem?_eq_some_iff.1 hab
    rw [List.drop_eq_getElem_cons h1,h2]
   rw [hdr] at hg
   have AG:Aside (lineGo call T to ((a,b) :: l.drop (k + 1)) fr' acc m = some (cs,n)):=hg
   clear hg
   have hL0:L < wr.heap.size:=(Array.getElem?_eq_some_iff.1 rLr).1
   have h60:b6 < wr.heap.size:=(Array.getElem?_eq_some_iff.1 e6r).1
   have h70:b7 < wr.heap.size:=(Array.getElem?_eq_some_iff.1 e7r).1
   have h80:b8 < wr.heap.size:=(Array.getElem?_eq_some_iff.1 e8r).1
   obtain ⟨k1,k2,k3,k4,v,k5,k6⟩:=s
   have h20:b2 < wr.heap.size:=(Array.getElem?_eq_some_iff.1 k3).1
   have hB0:B < wr.heap.size:=(Array.getElem?_eq_some_iff.1 k5).1
   have c7A:(wr.alloc (.cells #[.int .i64 a,.int .i64 b] 125)).cell? ⟨b7,0,none⟩ = some (.int .i64 fr'):=by rw [Lib.cell_of_heap ((Below.heap_alloc _ _ _ h70).trans e7r)];rfl
   have c8A:(wr.alloc (.cells #[.int .i64 a,.int .i64 b] 125)).cell? ⟨b8,0,none⟩ = some (.int .i64 to):=by rw [Lib.cell_of_heap ((Below.heap_alloc _ _ _ h80).trans e8r)];rfl
   have own:=own1_alloc (w0:=w) (g:=g') (W:=wr) (.cells #[.int .i64 a,.int .i64 b] 125)
   have sA:LSt w g b2 B u0 u1 u2 fr to acc m (wr.alloc (.cells #[.int .i64 a,.int .i64 b] 125)) (g'.mine wr.heap.size (wr.heap.size + 1)):=by
    have:=LSt.own1 (b2:=b2) (B:=B) ⟨k1,k2,k3,k4,v,k5,k6⟩ own (Below.heap_alloc _ _ _ h20) (Below.heap_alloc _ _ _ hB0)
    rwa [World.size_alloc] at this
   have nA:(wr.alloc (.cells #[.int .i64 a,.int .i64 b] 125)).heap[wr.heap.size]? = some (.cells #[.int .i64 a,.int .i64 b] 125):=heap_alloc_new _ _
   have mA:Mine w (g'.mine wr.heap.size (wr.heap.size + 1)) wr.heap.size:=⟨mine_own (Nat.le_refl _) (by omega),(k1.sit.fresh _ (Nat.le_refl _)).2,k1.size⟩
   have smA:SameX w g1 W0 (g'.mine wr.heap.size (wr.heap.size + 1)) (wr.alloc (.cells #[.int .i64 a,.int .i64 b] 125)) B L b7 :=
    ⟨by have:=sm.1;simp;omega,fun x h1 h2 h2' h3 h4=>⟨(sm.2 x h1 h2 h2' h3 h4).1.mine _ _,(Below.heap_alloc _ _ _ (by have:=sm.1;omega)).trans (sm.2 x h1 h2 h2' h3 h4).2⟩⟩
   have rA:(wr.alloc (.cells #[.int .i64 a,.int .i64 b] 125)).heap[L]? = some (.loop (rec .ready)):=(Below.heap_alloc _ _ _ hL0).trans rLr
   have e6A:=(Below.heap_alloc wr (.cells #[.int .i64 a,.int .i64 b] 125) _ h60).trans e6r
   have e7A:=(Below.heap_alloc wr (.cells #[.int .i64 a,.int .i64 b] 125) _ h70).trans e7r
   have e8A:=(Below.heap_alloc wr (.cells #[.int .i64 a,.int .i64 b] 125) _ h80).trans e8r
   have hw:wrap64 ((k:Int) + 1) = k + 1:=wrap64_at _ (by omega)
   have AA:Aside ((Mine w g' L∧Mine w g' b6∧Mine w g' b7∧Mine w g' b8)∧((wr.alloc (.cells #[.int .i64 a,.int .i64 b] 125)).heap[L]? = some (.loop (rec .ready))∧(wr.alloc (.cells #[.int .i64 a,.int .i64 b] 125)).heap[b6]? = some (.cells #[q0,q1,.slice (some ⟨blk,off,none⟩) hn hk] 149) ∧
    (wr.alloc (.cells #[.int .i64 a,.int .i64 b] 125)).heap[b7]? = some (.cells #[.int .i64 fr'] 3)∧(wr.alloc (.cells #[.int .i64 a,.int .i64 b] 125)).heap[b8]? = some (.cells #[.int .i64 to] 3)) ∧
    ((wr.alloc (.cells #[.int .i64 a,.int .i64 b] 125)).heap[wr.heap.size]? = some (.cells #[.int .i64 a,.int .i64 b] 125)∧Mine w (g'.mine wr.heap.size (wr.heap.size + 1)) wr.heap.size)∧(L < wr.heap.size∧b6 < wr.heap.size∧b7 < wr.heap.size∧b8 < wr.heap.size∧b2 < wr.heap.size∧B < wr.heap.size)) :=
    ⟨⟨mLr,m6r,m7r,m8r⟩,⟨rA,e6A,e7A,e8A⟩,⟨nA,mA⟩,hL0,h60,h70,h80,h20,hB0⟩
   clear mLr m6r m7r m8r rA e6A e7A e8A nA mA hL0 h60 h70 h80 h20 hB0 own k1 k2 k3 k4 k5 k6 e6r e7r e8r rLr sm
   by_cases hskip:a < fr' ∨ to < b
   ·have AN:Aside (lineGo call T to (l.drop (k + 1)) fr' acc m = some (cs,n)):=(lineGo_skip hskip).symm.trans AG.out
    have AF:Aside (LSt w g b2 B u0 u1 u2 fr to acc m (wr.alloc (.cells #[.int .i64 a,.int .i64 b] 125)) (g'.mine wr.heap.size (wr.heap.size + 1))∧SameX w g1 W0 (g'.mine wr.heap.size (wr.heap.size + 1)) (wr.alloc (.cells #[.int .i64 a,.int .i64 b] 125)) B L b7):=⟨sA,smA⟩
    clear sA smA
    by_cases ha':a < fr'
    ·gi_wp2
     gi_roundg (hn + 1 - (k + 1))
     case measure=>omega
     case rel=>exact ⟨k + 1,fr',acc,m,_,by omega,by omega,by simp [hw],AF.out.1,AA.out.1.1.mine _ _,AA.out.2.1.1,⟨AA.out.1.2.1.mine _ _,AA.out.2.1.2.1⟩,⟨AA.out.1.2.2.1.mine _ _,AA.out.2.1.2.2.1⟩,⟨AA.out.1.2.2.2.mine _ _,AA.out.2.1.2.2.2⟩,AF.out.2,AN.out⟩
    ·have hb':to < b:=hskip.resolve_left ha'
     gi_wp2
     gi_roundg (hn + 1 - (k + 1))
     case measure=>omega
     case rel=>exact ⟨k + 1,fr',acc,m,_,by omega,by omega,by simp [hw],AF.out.1,AA.out.1.1.mine _ _,AA.out.2.1.1,⟨AA.out.1.2.1.mine _ _,AA.out.2.1.2.1⟩,⟨AA.out.1.2.2.1.mine _ _,AA.out.2.1.2.2.1⟩,⟨AA.out.1.2.2.2.mine _ _,AA.out.2.1.2.2.2⟩,AF.out.2,AN.out⟩
   ·obtain ⟨acc1,mm1,acc2,mm2,hrun,hfold,hg⟩:=lineGo_take hskip AG.out
    have ha':¬ a < fr':=fun h=>hskip (.inl h)
    have hb':¬ to < b:=fun h=>hskip (.inr h)
    have AN:Aside (lineGo call T to (l.drop (k + 1)) b acc2 mm2 = some (cs,n)∧foldPart a acc1 mm1 = some (acc2,mm2)∧SameX w g1 W0 (g'.mine wr.heap.size (wr.heap.size + 1)) (wr.alloc (.cells #[.int .i64 a,.int .i64 b] 125)) B L b7):=⟨hg,hfold,smA⟩
    clear hg hfold smA
    obtain ⟨fn,tmps,assign,body,hy,hR⟩:=hyP _ _ _ _ _ _ fr' a sA (AA.out.1.1.mine _ _) AA.out.2.1.1 hrun
    have AR:Aside (RoundIn Fence.wide 1 Tryz.prog L fn tmps assign body (wr.alloc (.cells #[.int .i64 a,.int .i64 b] 125)) _):=hR
    clear hR sA hrun
    gi_wp2
    refine AR.out.mono ?_
    rintro e W3 ⟨rfl,g3,s3,mL3,r3,sm3⟩
    obtain ⟨⟨aL,a6,a7,a8⟩,⟨fL,f6,f7,f8⟩,⟨fN,mN⟩,lL,l6,l7,l8,l2,lB⟩:=AA.out
    obtain ⟨d1,d2,d3,d4,d5,d6,d7,d8,d9,d10,d11⟩:=d
    have szA:(wr.alloc (.cells #[.int .i64 a,.int .i64 b] 125)).heap.size = wr.heap.size + 1:=by simp
    obtain ⟨m63,e63⟩:=sm3.2 b6 d1 d2 (a6.mine _ _) (by omega)
    obtain ⟨m73,e73⟩:=sm3.2 b7 d3 d4 (a7.mine _ _) (by omega)
    obtain ⟨m83,e83⟩:=sm3.2 b8 d5 d6 (a8.mine _ _) (by omega)
    obtain ⟨mN3,eN3⟩:=sm3.2 wr.heap.size (by omega) (by omega) mN (by omega)
    have e63:=e63.trans f6
    have e73:=e73.trans f7
    have e83:=e83.trans f8
    have eN3:=eN3.trans fN
    have cN0:W3.cell? ⟨wr.heap.size,0,none⟩ = some (.int .i64 a):=by rw [Lib.cell_of_heap eN3];rfl
    have cN1:W3.cell? ⟨wr.heap.size,1,none⟩ = some (.int .i64 b):=by rw [Lib.cell_of_heap eN3];rfl
    obtain ⟨fn2,tmps2,assign2,body2,hy2,hR2⟩:=hyF _ _ _ _ _ _ a b s3 mL3 r3 AN.out.2.1
    have AR2:Aside (RoundIn Fence.wide 1 Tryz.prog L fn2 tmps2 assign2 body2 W3 _):=hR2
    have A3:Aside ((Mine w g3 b6∧Mine w g3 b7∧Mine w g3 b8∧Mine w g3 wr.heap.size)∧(W3.heap[b6]? = some (.cells #[q0,q1,.slice (some ⟨blk,off,none⟩) hn hk] 149)∧W3.heap[b7]? = some (.cells #[.int .i64 fr'] 3)∧W3.heap[b8]? = some (.cells #[.int .i64 to] 3) ∧
     W3.heap[wr.heap.size]? = some (.cells #[.int .i64 a,.int .i64 b] 125))∧(L < wr.heap.size∧b6 < wr.heap.size∧b7 < wr.heap.size∧b8 < wr.heap.size∧b2 < wr.heap.size∧B < wr.heap.size∧wr.heap.size < W3.heap.size)∧SameX w g1 W0 g3 W3 B L b7) :=
     ⟨⟨m63,m73,m83,mN3⟩,⟨e63,e73,e83,eN3⟩,⟨lL,l6,l7,l8,l2,lB,by have:=sm3.1;omega⟩,by have:=sm3.1;have:=AN.out.2.2.1;omega,fun x h1 h2 h2' h3 h4=>by
      obtain ⟨q1,q2⟩:=AN.out.2.2.2 x h1 h2 h2' h3 h4
      obtain ⟨q3,q4⟩:=sm3.2 x h1 h2 q1 (by have:=AN.out.2.2.1;omega)
      exact ⟨q3,q4.trans q2⟩⟩
    have AD:Aside ((b6 ≠ B∧b6 ≠ L∧b7 ≠ B∧b7 ≠ L∧b8 ≠ B∧b8 ≠ L)∧(b6 ≠ b7∧b8 ≠ b7∧b2 ≠ b7∧B ≠ b7∧L ≠ b7)):=⟨⟨d1,d2,d3,d4,d5,d6⟩,d7,d8,d9,d10,d11⟩
    clear hR2 m63 m73 m83 mN3 e63 e73 e83 eN3 s3 mL3 r3 sm3 aL a6 a7 a8 fL f6 f7 f8 fN mN lL l6 l7 l8 l2 lB d1 d2 d3 d4 d5 d6 d7 d8 d9 d10 d11
    gi_wp2
    refine AR2.out.mono ?_
    rintro e W4 ⟨rfl,g4,s4,mL4,r4,sm4⟩
    obtain ⟨⟨m63,m73,m83,mN3⟩,⟨e63,e73,e83,eN3⟩,⟨lL,l6,l7,l8,l2,lB,lN⟩,sm3⟩:=A3.out
    obtain ⟨⟨d1,d2,d3,d4,d5,d6⟩,d7,d8,d9,d10,d11⟩:=AD.out
    obtain ⟨m64,e64⟩:=sm4.2 b6 d1 d2 m63 (by omega)
    obtain ⟨m74,e74⟩:=sm4.2 b7 d3 d4 m73 (by omega)
    obtain ⟨m84,e84⟩:=sm4.2 b8 d5 d6 m83 (by omega)
    obtain ⟨_,eN4⟩:=sm4.2 wr.heap.size (by omega) (by omega) mN3 (by omega)
    have e64:=e64.trans e63
    have e74:=e74.trans e73
    have e84:=e84.trans e83
    have eN4:=eN4.trans eN3
    have cN1:W4.cell? ⟨wr.heap.size,1,none⟩ = some (.int .i64 b):=by rw [Lib.cell_of_heap eN4];rfl
    have c74:W4.cell? ⟨b7,0,none⟩ = some (.int .i64 fr'):=by rw [Lib.cell_of_heap e74];rfl
    have z74:W4.frozen? ⟨b7,0,none⟩ = false:=Lib.frozen_of_heap e74 0
    obtain ⟨W5,hW5⟩:∃ W5,W4.setCell ⟨b7,0,none⟩ (.int .i64 b) = W5:=⟨_,rfl⟩
    have oth:∀ x,x ≠ b7→W5.heap[x]? = W4.heap[x]?:=fun x hx=>by rw [← hW5];exact Below.heap_setCell W4 _ _ x hx
    have e75:W5.heap[b7]? = some (.cells #[.int .i64 b] 3):=by rw [← hW5];exact (heap_setCell_same W4 b7 0 _ _ _ e74).trans rfl
    have sz5:W5.heap.size = W4.heap.size:=by rw [← hW5];show (W4.heap.modify _ _).size = _;rw [Array.size_modify]
    have ow:Own1 w g4 W4 W5:=by
     refine ⟨by rw [← hW5];rfl,by rw [← hW5];rfl,by rw [← hW5];rfl,by omega,fun x hx=>?_⟩
     by_cases e:x = b7
     ·subst e;exact .inr ⟨m74.own,m74.e,m74.ge⟩
     ·exact .inl (oth x e)
    have s5:=s4.own1 ow (oth _ d9) (oth _ d10)
    have A5:Aside (LSt w g b2 B u0 u1 u2 fr to acc2 mm2 W5 (g4.mine W4.heap.size W5.heap.size)∧Mine w (g4.mine W4.heap.size W5.heap.size) L∧W5.heap[L]? = some (.loop (rec .ready)) ∧
     (Mine w (g4.mine W4.heap.size W5.heap.size) b6∧W5.heap[b6]? = some (.cells #[q0,q1,.slice (some ⟨blk,off,none⟩) hn hk] 149))∧(Mine w (g4.mine W4.heap.size W5.heap.size) b7∧W5.heap[b7]? = some (.cells #[.int .i64 b] 3)) ∧
     (Mine w (g4.mine W4.heap.size W5.heap.size) b8∧W5.heap[b8]? = some (.cells #[.int .i64 to] 3))∧SameX w g1 W0 (g4.mine W4.heap.size W5.heap.size) W5 B L b7∧lineGo call T to (l.drop (k + 1)) b acc2 mm2 = some (cs,n)):=by
     refine ⟨s5,mL4.mine _ _,(oth _ d11).trans r4,⟨m64.mine _ _,(oth _ d7).trans e64⟩,⟨m74.mine _ _,e75⟩,⟨m84.mine _ _,(oth _ d8).trans e84⟩,⟨?_,fun x h1 h2 h2' h3 h4=>?_⟩,AN.out.1⟩
     ·have:=sm3.1;have:=sm4.1;omega
     ·obtain ⟨q1,q2⟩:=sm3.2 x h1 h2 h2' h3 h4
      obtain ⟨q3,q4⟩:=sm4.2 x h1 h2 q1 (by have:=sm3.1;omega)
      exact ⟨q3.mine _ _,(oth x h2').trans (q4.trans q2)⟩
    clear ow s5 s4 sm3 sm4 e63 e73 e83 eN3 e64 e84 eN4 m63 m73 m83 mN3 m64 m84 oth e75 sz5 lL l6 l7 l8 l2 lB lN d1 d2 d3 d4 d5 d6 d7 d8 d9 d10 d11 r4 mL4 e74
    gi_wp2
    gi_roundg (hn + 1 - (k + 1))
    case measure=>omega
    case rel =>
     obtain ⟨q1,q2,q3,q4,q5,q6,q7,q8⟩:=A5.out
     exact ⟨k + 1,b,acc2,mm2,_,by omega,by omega,by simp [hw],q1,q2,q3,q4,q5,q6,q7,q8⟩
  ·obtain rfl:k = hn:=by omega
   have hrun:runPart call T fr' to acc m = some (cs,n):=by
    rw [List.drop_eq_nil_of_le (by omega)] at hg
    exact hg
   have c7A:wr.cell? ⟨b7,0,none⟩ = some (.int .i64 fr'):=by rw [Lib.cell_of_heap e7r];rfl
   have c8A:wr.cell? ⟨b8,0,none⟩ = some (.int .i64 to):=by rw [Lib.cell_of_heap e8r];rfl
   obtain ⟨fn,tmps,assign,body,hy,hR⟩:=hyP _ _ _ _ _ _ fr' to s mLr rLr hrun
   have AR:Aside (RoundIn Fence.wide 1 Tryz.prog L fn tmps assign body wr _):=hR
   clear hR hrun
   gi_wp2
   refine AR.out.mono ?_
   rintro e W3 ⟨rfl,g3,s3,mL3,r3,sm3⟩
   gi_wp2
   go_end0
   refine ⟨⟨_,rfl⟩,g3,s3,mL3,r3,Nat.le_trans sm.1 sm3.1,fun x h1 h2 h2' h3 h4=>?_⟩
   obtain ⟨q1,q2⟩:=sm.2 x h1 h2 h2' h3 h4
   obtain ⟨q3,q4⟩:=sm3.2 x h1 h2 q1 (by have:=sm.1;omega)
   exact ⟨q3,q4.trans q2⟩
attribute [local go_sem] Oper.semAt_some
attribute [-go_sem] Go.Builtin.append_
theorem setCell_size (w:World) (a:Addr) (v:Value):(w.setCell a v).heap.size = w.heap.size:=by
 show (w.heap.modify _ _).size = _
 rw [Array.size_modify]
set_option maxRecDepth 1000000 in
theorem line_walk {call:CallF} (hp:CallPOk X1 call) {r i:D} {hc:List D} {hn:Nat} {fr:Int} {y:V} (hy:extLine call [.agg [r,i,.sl hc hn],.int .i64 fr] = some y) {w:World} {g:Gh} (hf:Fresh g w) (hg:GlobOk X1 w g)
  {vt:Value} (ht:RepD w g.e vt (.agg [r,i,.sl hc hn])) (p:Own) :
  Calls Tryz.prog 107 #[vt,.int .i64 fr] w fun E w' => ∃ v g',E = .returned v∧Keep g w g' w' ∧ RepV X1 w' g' p v y:=by
 obtain ⟨to,l,cs,n,hri,hend,hsp,hln,hgo,rfl⟩:∃ to l cs n,(isPtr r && isPtr i) = true∧call.p fEnd [.d (.agg [r,i,.sl hc hn]),.d (.int .i64 fr)] = some (.d (.int .i64 to))∧spans hc = some l∧(l.length = hn∧hn≤1000000) ∧
   lineGo call (.agg [r,i,.sl hc hn]) to l fr [] 0 = some (cs,n)∧y = .d (.agg [.sl cs n,.int .i64 fr,.int .i64 to]):=by
  simp only [extLine] at hy
  split at hy
  ·rename_i hri
   split at hy
   ·rename_i to l h1 h2
    split at hy
    ·rename_i h3
     split at hy
     ·rename_i cs n h4
      cases hy
      exact ⟨to,l,cs,n,hri,h1,h2,h3,h4,rfl⟩
     ·cases hy
    ·cases hy
   ·cases hy
  ·cases hy
 rw [Bool.and_eq_true] at hri
 cases ht with
 | agg vals _ hl hr =>
 match vals,hl with
 | [u0,u1,u2],_ =>
 have h0:=hr 0 u0 _ rfl rfl
 have h1:=hr 1 u1 _ rfl rfl
 have h2:=hr 2 u2 _ rfl rfl
 obtain ⟨p0,rfl⟩:=ptr_of h0 hri.1
 obtain ⟨p1,rfl⟩:=ptr_of h1 hri.2
 obtain ⟨ha,hk,rfl⟩:=sl_of h2
 have hT:=rep_agg3 h0 h1 h2
 change Calls Tryz.prog 107 #[.agg #[.pointer p0,.pointer p1,.slice ha hn hk],.int .i64 fr] w _
 refine (callsIn_wide (n:=3)).1 ?_
 refine callsIn_of_wp_marks Tryz.func107 rfl trivial ?_ rfl
 simp only [Tryz.ntmps107, List.size_toArray,List.length_cons,List.length_nil,Nat.reduceAdd,Nat.reduceSub,Array.replicate_succ,Array.replicate_zero,List.push_toArray,List.append_toArray,List.nil_append,List.cons_append]
 have hw0:=Wk.start hf hg
 gi_wp2_with (refine ⟨trivial,?_⟩;gi_at_call 180; refine (callsIn_wide.2 (((hw0.alloc _).alloc _).callP hp hend rfl (ptv2 (.d _ _ _ (((hw0.alloc _).alloc _).lift hT)) (.d _ _ _ (.int _ _))) (p:=.slot 0) ⟨0,0,0,.inl rfl⟩)).mono ?_)
 rintro e0 W1 ⟨v1,g1,rfl,hk1,hw1,hr1⟩
 cases hr1 with
 | d _ _ _ hr1 =>
 cases hr1
 have hsz1:w.heap.size + 2≤W1.heap.size:=by simpa using hk1.size
 have hl1:=hk1.later ((hw0.alloc (.cells #[.pointer p0,.pointer p1,.slice ha hn hk] 149)).alloc (.cells #[.slice none 0 0,.int .i64 0,.int .i64 0] 156)).sit.fresh
 have hm2a:Mine w ((g.alone w.heap.size).mine w.heap.size (w.heap.size + 1)) w.heap.size:=⟨mine_own (Nat.le_refl _) (by omega),(hw0.sit.fresh _ (Nat.le_refl _)).2,Nat.le_refl _⟩
 have hm4a:Mine w (((g.alone w.heap.size).mine w.heap.size (w.heap.size + 1)).mine (w.heap.size + 1) (w.heap.size + 1 + 1)) (w.heap.size + 1):=⟨mine_own (Nat.le_refl _) (by omega),(hw0.sit.fresh _ (by omega)).2,by omega⟩
 rw [World.size_alloc] at hl1
 obtain ⟨hm2,hb2⟩:=(hm2a.mine _ _).later hl1
 obtain ⟨hm4,hb4⟩:=hm4a.later hl1
 have hb2:W1.heap[w.heap.size]? = some (.cells #[.pointer p0,.pointer p1,.slice ha hn hk] 149):=by
  rw [hb2]
  exact (Below.heap_alloc _ _ _ (by simp)).trans (heap_alloc_new w _)
 have hb4:W1.heap[w.heap.size + 1]? = some (.cells #[.slice none 0 0,.int .i64 0,.int .i64 0] 156):=by
  rw [hb4]
  have:=heap_alloc_new (w.alloc (.cells #[.pointer p0,.pointer p1,.slice ha hn hk] 149)) (.cells #[.slice none 0 0,.int .i64 0,.int .i64 0] 156)
  rwa [World.size_alloc] at this
 have hbx:(W1.alloc (.cells #[.slice none 0 0,.int .i64 fr,.int .i64 to] 156)).heap[w.heap.size]? = some (.cells #[.pointer p0,.pointer p1,.slice ha hn hk] 149):=(Below.heap_alloc _ _ _ (by omega)).trans hb2
 have c20:(W1.alloc (.cells #[.slice none 0 0,.int .i64 fr,.int .i64 to] 156)).cell? ⟨w.heap.size,0,none⟩ = some (.pointer p0):=by rw [Lib.cell_of_heap hbx];rfl
 have c21:(W1.alloc (.cells #[.slice none 0 0,.int .i64 fr,.int .i64 to] 156)).cell? ⟨w.heap.size,1,none⟩ = some (.pointer p1):=by rw [Lib.cell_of_heap hbx];rfl
 have c22:(W1.alloc (.cells #[.slice none 0 0,.int .i64 fr,.int .i64 to] 156)).cell? ⟨w.heap.size,2,none⟩ = some (.slice ha hn hk):=by rw [Lib.cell_of_heap hbx];rfl
 gi_wp2_with (refine ⟨trivial,?_⟩;gi_at_call 181; refine (callsIn_wide.2 (runs_calls p0 p1 ha hn hk _ _ _)).mono ?_)
 rintro e0 W2 ⟨rfl,hW2⟩
 have hbel:Below W1.heap.size W1 W2:=by
  rw [hW2]
  exact ((((Below.refl _ W1).alloc (Nat.le_refl _) _).alloc (by simp) _).alloc (by simp;omega) _).alloc (by simp;omega) _
 have hs2:W2.heap.size = W1.heap.size + 4:=by rw [hW2];simp
 have e5:W2.heap[W1.heap.size]? = some (.cells #[.slice none 0 0,.int .i64 fr,.int .i64 to] 156):=by
  rw [hW2]
  exact (Below.heap_alloc _ _ _ (by simp;omega)).trans ((Below.heap_alloc _ _ _ (by simp;omega)).trans ((Below.heap_alloc _ _ _ (by simp)).trans (heap_alloc_new W1 _)))
 have e6:W2.heap[W1.heap.size + 1]? = some (.cells #[.pointer p0,.pointer p1,.slice ha hn hk] 149):=by
  rw [hW2]
  refine (Below.heap_alloc _ _ _ (by simp)).trans ((Below.heap_alloc _ _ _ (by simp)).trans ?_)
  have:=heap_alloc_new (W1.alloc (.cells #[.slice none 0 0,.int .i64 fr,.int .i64 to] 156)) (.cells #[.pointer p0,.pointer p1,.slice ha hn hk] 149)
  rwa [World.size_alloc] at this
 have e7:W2.heap[W1.heap.size + 2]? = some (.cells #[.int .i64 fr] 3):=by
  rw [hW2]
  refine (Below.heap_alloc _ _ _ (by simp)).trans ?_
  have:=heap_alloc_new ((W1.alloc (.cells #[.slice none 0 0,.int .i64 fr,.int .i64 to] 156)).alloc (.cells #[.pointer p0,.pointer p1,.slice ha hn hk] 149)) (.cells #[.int .i64 fr] 3)
  simpa using this
 have e8:W2.heap[W1.heap.size + 3]? = some (.cells #[.int .i64 to] 3):=by
  rw [hW2]
  have:=heap_alloc_new (((W1.alloc (.cells #[.slice none 0 0,.int .i64 fr,.int .i64 to] 156)).alloc (.cells #[.pointer p0,.pointer p1,.slice ha hn hk] 149)).alloc (.cells #[.int .i64 fr] 3)) (.cells #[.int .i64 to] 3)
  simpa using this
 have hw2:=hw1.own1 (own1_below hbel)
 have hm2':=hm2.mine W1.heap.size W2.heap.size
 have hm4':=hm4.mine W1.heap.size W2.heap.size
 have e2:W2.heap[w.heap.size]? = some (.cells #[.pointer p0,.pointer p1,.slice ha hn hk] 149):=(hbel.block _ (by omega)).trans hb2
 have e4:W2.heap[w.heap.size + 1]? = some (.cells #[.slice none 0 0,.int .i64 0,.int .i64 0] 156):=(hbel.block _ (by omega)).trans hb4
 have hm5:Mine w (g1.mine W1.heap.size W2.heap.size) W1.heap.size:=Mine.new hw1 (Nat.le_refl _) (by omega)
 have hm6:Mine w (g1.mine W1.heap.size W2.heap.size) (W1.heap.size + 1):=Mine.new hw1 (by omega) (by omega)
 have hm7:Mine w (g1.mine W1.heap.size W2.heap.size) (W1.heap.size + 2):=Mine.new hw1 (by omega) (by omega)
 have hm8:Mine w (g1.mine W1.heap.size W2.heap.size) (W1.heap.size + 3):=Mine.new hw1 (by omega) (by omega)
 generalize g1.mine W1.heap.size W2.heap.size = g2 at *
 generalize hB:W1.heap.size = B at *
 clear hW2 c20 c21 c22 hbx hb2 hb4 hbel hl1 hk1 hm2 hm4 hm2a hm4a
 simp only [World.size_alloc,hB]
 gi_wp2
 refine rangeFunc_free rfl (fun h=>by cases h) (gf := 244) rfl trivial (enters_of Tryz.func244 (by kernel_rfl) rfl) ?_
 intro fn rec hfn hrec
 have HR:Aside (∀ st,rec st = recOf fn _ _ _ _ _ st none):=hrec
 clear hrec
 generalize hL:W2.heap.size + 1 = L at *
 have hyP:∀ (W:World) (g':Gh) (acc acc':List D) (m m':Nat) (x y:Int),LSt w g w.heap.size B (.pointer p0) (.pointer p1) (.slice ha hn hk) fr to acc m W g' → Mine w g' L→L ≠ B→L ≠ w.heap.size→W.heap[L]? = some (.loop (rec .ready)) →
   runPart call (.agg [r,i,.sl hc hn]) x y acc m = some (acc',m')→YieldAt Fence.wide 1 Tryz.prog L #[.agg #[.int .i64 x,.int .i64 y],.bool true] W fun e W' => e = .returned (.bool true) ∧
    ∃ g'',LSt w g w.heap.size B (.pointer p0) (.pointer p1) (.slice ha hn hk) fr to acc' m' W' g'' ∧ Mine w g'' L∧W'.heap[L]? = some (.loop (rec .ready))∧Same w g' W g'' W' B L:=by
  rintro W g' acc acc' m m' x y ⟨k1,k2,k3,k4,v,k5,k6⟩ hmL hLB hL2 hrd hrun
  refine yield_free trivial HR.out hrd rfl ?_
  have AR:Aside (runPart call (.agg [r,i,.sl hc hn]) x y acc m = some (acc',m')):=hrun
  clear hrun
  gi_wp2
  have hLlt:L < W.heap.size:=(Array.getElem?_eq_some_iff.1 hrd).1
  have hB5:B < W.heap.size:=(Array.getElem?_eq_some_iff.1 k5).1
  have hB2:w.heap.size < W.heap.size:=(Array.getElem?_eq_some_iff.1 k3).1
  refine ⟨(Below.heap_alloc _ _ _ hLlt).trans hrd,?_⟩
  obtain ⟨WB,hWB⟩:∃ WB,(W.alloc (.cells #[.int .i64 x,.int .i64 y] 125)).putObj L (.loop (rec .busy)) = WB:=⟨_,rfl⟩
  rw [hWB]
  have sWB:WB.heap.size = W.heap.size + 1:=by rw [← hWB];simp
  have oWB:∀ k,k < W.heap.size→k ≠ L→WB.heap[k]? = W.heap[k]?:=fun k hk hkL=>by
   rw [← hWB,World.putObj_heap_other hkL]
   exact Below.heap_alloc _ _ _ hk
  have nWB:WB.heap[W.heap.size]? = some (.cells #[.int .i64 x,.int .i64 y] 125):=by
   rw [← hWB,World.putObj_heap_other (by omega)]
   exact heap_alloc_new W _
  have lWB:WB.heap[L]? = some (.loop (rec .busy)):=by
   rw [← hWB]
   exact World.putObj_heap_same (by simp;omega)
  have ow:Own1 w g' W WB:=by
   refine ⟨by rw [← hWB];rfl,by rw [← hWB];rfl,by rw [← hWB];rfl,by omega,fun k hk=>?_⟩
   by_cases e:k = L
   ·subst e
    exact .inr ⟨hmL.own,hmL.e,hmL.ge⟩
   ·exact .inl (oWB k hk e)
  clear hWB
  have kB:=k1.own1 ow
  have k6B:=ow.repV k1.sit.fresh k6
  have f2:WB.heap[w.heap.size]? = some (.cells #[.pointer p0,.pointer p1,.slice ha hn hk] 149):=(oWB _ hB2 (Ne.symm hL2)).trans k3
  have f5:WB.heap[B]? = some (.cells #[v,.int .i64 fr,.int .i64 to] 156):=(oWB _ hB5 (Ne.symm hLB)).trans k5
  have c20:WB.cell? ⟨w.heap.size,0,none⟩ = some (.pointer p0):=by rw [Lib.cell_of_heap f2];rfl
  have c21:WB.cell? ⟨w.heap.size,1,none⟩ = some (.pointer p1):=by rw [Lib.cell_of_heap f2];rfl
  have c22:WB.cell? ⟨w.heap.size,2,none⟩ = some (.slice ha hn hk):=by rw [Lib.cell_of_heap f2];rfl
  have c50:WB.cell? ⟨B,0,none⟩ = some v:=by rw [Lib.cell_of_heap f5];rfl
  have z50:WB.frozen? ⟨B,0,none⟩ = false:=by simp [World.frozen?,f5]
  have c60:WB.cell? ⟨W.heap.size,0,none⟩ = some (.int .i64 x):=by rw [Lib.cell_of_heap nWB];rfl
  have c61:WB.cell? ⟨W.heap.size,1,none⟩ = some (.int .i64 y):=by rw [Lib.cell_of_heap nWB];rfl
  obtain ⟨xs,hsh,happ⟩:∃ xs,call.p fShown [.d (.agg [r,i,.sl hc hn]),.d (.agg [.int .i64 x,.int .i64 y])] = some xs∧G.appendV X1 tParts tParts (.tail tPart acc m) xs = some (.tail tPart acc' m'):=by
   have hrun:=AR.out
   unfold runPart at hrun
   split at hrun
   ·rename_i xs h1
    unfold addParts at hrun
    split at hrun
    ·rename_i E c n h2
     split at hrun
     ·rename_i hE
      subst hE
      simp at hrun
      obtain ⟨rfl,rfl⟩:=hrun
      exact ⟨xs,h1,h2⟩
     ·cases hrun
    ·cases hrun
   ·cases hrun
  have kD:Wk X1 w g WB.drew ((g'.mine W.heap.size WB.heap.size).mine WB.heap.size WB.heap.size) []:=kB.own1 ⟨rfl,rfl,rfl,Nat.le_refl _,fun _ _=>.inl rfl⟩
  have AA:Aside (kD = kD∧G.appendV X1 tParts tParts (.tail tPart acc m) xs = some (.tail tPart acc' m')):=⟨rfl,happ⟩
  clear happ
  have hS:∀ W':World,RepD WB.drew ((g'.mine W.heap.size WB.heap.size).mine WB.heap.size WB.heap.size).e (.agg #[.int .i64 x,.int .i64 y]) (.agg [.int .i64 x,.int .i64 y]):=fun _=>.agg [.int .i64 x,.int .i64 y] _ rfl fun j v d p q=>match j,p,q with
   | 0,p,q=>by cases p;cases q;exact .int _ _
   | 1,p,q=>by cases p;cases q;exact .int _ _
  have mixed:Tryz.prog.follows .mixedOrders = true:=by kernel_rfl
  have hvD:RepV X1 WB.drew ((g'.mine W.heap.size WB.heap.size).mine WB.heap.size WB.heap.size) (.slot 0) v (.tail tPart acc m):=(show Own1 w (g'.mine W.heap.size WB.heap.size) WB WB.drew from ⟨rfl,rfl,rfl,Nat.le_refl _,fun _ _=>.inl rfl⟩).repV kB.sit.fresh k6B
  have m5D:Mine w ((g'.mine W.heap.size WB.heap.size).mine WB.heap.size WB.heap.size) B:=(k4.mine _ _).mine _ _
  have f5D:WB.drew.heap[B]? = some (.cells #[v,.int .i64 fr,.int .i64 to] 156):=f5
  gi_wp2
  gi_region_with_o (refine ⟨trivial,?_⟩;gi_at_call 182; refine (CallsIn.inRound L (callsIn_wide.2 (kD.callP hp hsh rfl (ptv2 (.d _ _ _ (kD.lift hT)) (.d _ _ _ (hS WB))) (p:=.slot 1) ⟨1,0,0,.inl rfl⟩))).mono ?_;rintro e0 W6 ⟨v6,g6,rfl,hk6,hw6,hr6⟩;obtain ⟨v7,W7,g7,hrun7,sh7,hr7⟩:=app_line hw6.sit.fresh (hk6.repV kD.sit.fresh hvD) hr6 AA.out.2;obtain ⟨m56,e56⟩:=m5D.later (hk6.later kD.sit.fresh);obtain ⟨m57,e57⟩:=m56.later sh7.later;have f56:=e56.trans f5D;have c56:W6.cell? ⟨B,0,none⟩ = some v:=(Lib.cell_of_heap f56 0).trans rfl;have f57:=e57.trans f56;have c57:W7.cell? ⟨B,0,none⟩ = some v:=(Lib.cell_of_heap f57 0).trans rfl;have z57:W7.frozen? ⟨B,0,none⟩ = false:=Lib.frozen_of_heap f57 0;obtain ⟨sa,sl,sc,rfl⟩:=tail_slice hr7)
  all_goals gi_wp2
  all_goals
   have mLD:Mine w ((g'.mine W.heap.size WB.heap.size).mine WB.heap.size WB.heap.size) L:=(hmL.mine _ _).mine _ _
   have m2D:Mine w ((g'.mine W.heap.size WB.heap.size).mine WB.heap.size WB.heap.size) w.heap.size:=(k2.mine _ _).mine _ _
   have l67:=(hk6.later kD.sit.fresh).trans sh7.later
   obtain ⟨mL7,eL7⟩:=mLD.later l67
   obtain ⟨m27,e27⟩:=m2D.later l67
   have fL7:W7.heap[L]? = some (.loop (rec .busy)):=eL7.trans lWB
   have f27:W7.heap[w.heap.size]? = some (.cells #[.pointer p0,.pointer p1,.slice ha hn hk] 149):=e27.trans f2
   refine round_done (hw6.shift sh7) m27 f27 m57 f57 mL7 fL7 hLB hL2 (by omega) hr7 ⟨?_,fun b hb hbl mb hlt=>?_⟩
   ·have:=l67.size
    have:WB.drew.heap.size = WB.heap.size:=rfl
    omega
   ·obtain ⟨q1,q2⟩:=((mb.mine W.heap.size WB.heap.size).mine WB.heap.size WB.heap.size).later l67
    exact ⟨q1,q2.trans (oWB b hlt hbl)⟩
 have hyF:∀ (W:World) (g':Gh) (acc acc':List D) (m m':Nat) (x y:Int),LSt w g w.heap.size B (.pointer p0) (.pointer p1) (.slice ha hn hk) fr to acc m W g' → Mine w g' L→L ≠ B→L ≠ w.heap.size→W.heap[L]? = some (.loop (rec .ready)) →
   foldPart x acc m = some (acc',m')→YieldAt Fence.wide 1 Tryz.prog L #[.agg #[.int .i64 x,.int .i64 y],.bool false] W fun e W' => e = .returned (.bool true) ∧
    ∃ g'',LSt w g w.heap.size B (.pointer p0) (.pointer p1) (.slice ha hn hk) fr to acc' m' W' g'' ∧ Mine w g'' L∧W'.heap[L]? = some (.loop (rec .ready))∧Same w g' W g'' W' B L:=by
  rintro W g' acc acc' m m' x y ⟨k1,k2,k3,k4,v,k5,k6⟩ hmL hLB hL2 hrd hrun
  refine yield_free trivial HR.out hrd rfl ?_
  have AR:Aside (foldPart x acc m = some (acc',m')):=hrun
  clear hrun
  gi_wp2
  have hLlt:L < W.heap.size:=(Array.getElem?_eq_some_iff.1 hrd).1
  have hB5:B < W.heap.size:=(Array.getElem?_eq_some_iff.1 k5).1
  have hB2:w.heap.size < W.heap.size:=(Array.getElem?_eq_some_iff.1 k3).1
  refine ⟨(Below.heap_alloc _ _ _ hLlt).trans hrd,?_⟩
  obtain ⟨WB,hWB⟩:∃ WB,(W.alloc (.cells #[.int .i64 x,.int .i64 y] 125)).putObj L (.loop (rec .busy)) = WB:=⟨_,rfl⟩
  rw [hWB]
  have sWB:WB.heap.size = W.heap.size + 1:=by rw [← hWB];simp
  have oWB:∀ k,k < W.heap.size→k ≠ L→WB.heap[k]? = W.heap[k]?:=fun k hk hkL=>by
   rw [← hWB,World.putObj_heap_other hkL]
   exact Below.heap_alloc _ _ _ hk
  have nWB:WB.heap[W.heap.size]? = some (.cells #[.int .i64 x,.int .i64 y] 125):=by
   rw [← hWB,World.putObj_heap_other (by omega)]
   exact heap_alloc_new W _
  have lWB:WB.heap[L]? = some (.loop (rec .busy)):=by
   rw [← hWB]
   exact World.putObj_heap_same (by simp;omega)
  have ow:Own1 w g' W WB:=by
   refine ⟨by rw [← hWB];rfl,by rw [← hWB];rfl,by rw [← hWB];rfl,by omega,fun k hk=>?_⟩
   by_cases e:k = L
   ·subst e
    exact .inr ⟨hmL.own,hmL.e,hmL.ge⟩
   ·exact .inl (oWB k hk e)
  clear hWB
  have kB:=k1.own1 ow
  have k6B:=ow.repV k1.sit.fresh k6
  have f2:WB.heap[w.heap.size]? = some (.cells #[.pointer p0,.pointer p1,.slice ha hn hk] 149):=(oWB _ hB2 (Ne.symm hL2)).trans k3
  have f5:WB.heap[B]? = some (.cells #[v,.int .i64 fr,.int .i64 to] 156):=(oWB _ hB5 (Ne.symm hLB)).trans k5
  have c20:WB.cell? ⟨w.heap.size,0,none⟩ = some (.pointer p0):=by rw [Lib.cell_of_heap f2];rfl
  have c21:WB.cell? ⟨w.heap.size,1,none⟩ = some (.pointer p1):=by rw [Lib.cell_of_heap f2];rfl
  have c22:WB.cell? ⟨w.heap.size,2,none⟩ = some (.slice ha hn hk):=by rw [Lib.cell_of_heap f2];rfl
  have c50:WB.cell? ⟨B,0,none⟩ = some v:=by rw [Lib.cell_of_heap f5];rfl
  have z50:WB.frozen? ⟨B,0,none⟩ = false:=by simp [World.frozen?,f5]
  have c60:WB.cell? ⟨W.heap.size,0,none⟩ = some (.int .i64 x):=by rw [Lib.cell_of_heap nWB];rfl
  have c61:WB.cell? ⟨W.heap.size,1,none⟩ = some (.int .i64 y):=by rw [Lib.cell_of_heap nWB];rfl
  have happ:G.appendV X1 tParts tParts (.tail tPart acc m) (.d (.sl [.int .i64 3,.int .i64 x,.sl [] 0] 1)) = some (.tail tPart acc' m'):=by
   have hrun:=AR.out
   unfold foldPart addParts at hrun
   split at hrun
   ·rename_i E c n h2
    split at hrun
    ·rename_i hE
     subst hE
     simp at hrun
     obtain ⟨rfl,rfl⟩:=hrun
     exact h2
    ·cases hrun
   ·cases hrun
  have kr:=keep_row (w1:=WB) (q:=.free) kB.sit.fresh rfl rfl rfl rfl (.cells #[.int .i64 3,.int .i64 x,.slice none 0 0] 347) 3
  have rd:RepD (WB.alloc (.cells #[.int .i64 3,.int .i64 x,.slice none 0 0] 347)) (((g'.mine W.heap.size WB.heap.size).row WB.heap.size 3 .free)).e (.slice (some ⟨WB.heap.size,0,none⟩) 1 1) (.sl [.int .i64 3,.int .i64 x,.sl [] 0] 1) :=
   .sl _ 0 1 1 _ [.int .i64 3,.int .i64 x,.slice none 0 0] (Nat.le_refl _) rfl (by simp [Gh.row]) (fun j u hj=>by rw [Nat.zero_add,cell_of_heap (heap_alloc_new WB _)];simpa using hj) (fun j u d p q=>match j,p,q with
    | 0,p,q=>by cases p;cases q;exact .int _ _
    | 1,p,q=>by cases p;cases q;exact .int _ _
    | 2,p,q=>by cases p;cases q;exact .sl0 none 0 fun _=>rfl)
  obtain ⟨v7,W7,g7,hrun7,sh7,hr7⟩:=app_line kr.fresh (kr.repV kB.sit.fresh k6B) (RepV.d (.slot 1) _ _ rd) happ
  clear happ
  have l67:=(kr.later kB.sit.fresh).trans sh7.later
  have hw7:Wk X1 w g W7 g7 []:=Wk.shift ⟨kB.sit.keep kr,kB.later.trans (kr.later kB.sit.fresh),kB.glob⟩ sh7
  obtain ⟨m57,e57⟩:=(k4.mine W.heap.size WB.heap.size).later l67
  have f57:=e57.trans f5
  have c57:W7.cell? ⟨B,0,none⟩ = some v:=(Lib.cell_of_heap f57 0).trans rfl
  have z57:W7.frozen? ⟨B,0,none⟩ = false:=Lib.frozen_of_heap f57 0
  obtain ⟨sa,sl,sc,rfl⟩:=tail_slice hr7
  rw [sWB] at hrun7
  gi_wp2
  obtain ⟨mL7,eL7⟩:=(hmL.mine W.heap.size WB.heap.size).later l67
  obtain ⟨m27,e27⟩:=(k2.mine W.heap.size WB.heap.size).later l67
  refine round_done hw7 m27 (e27.trans f2) m57 f57 mL7 (eL7.trans lWB) hLB hL2 (by omega) hr7 ⟨?_,fun b hb hbl mb hlt=>?_⟩
  ·have:=l67.size
   omega
  ·obtain ⟨q1,q2⟩:=(mb.mine W.heap.size WB.heap.size).later l67
   exact ⟨q1,q2.trans (oWB b hlt hbl)⟩
 obtain ⟨W3,hW3⟩:∃ W3,(W2.alloc (.deferred (some []))).alloc (.loop (rec .ready)) = W3:=⟨_,rfl⟩
 have bel3:Below W2.heap.size W2 W3:=by rw [← hW3];exact (((Below.refl _ W2).alloc (Nat.le_refl _) _).alloc (by simp) _)
 have sz3:W3.heap.size = W2.heap.size + 2:=by rw [← hW3];simp
 have eD:W3.heap[W2.heap.size]? = some (.deferred (some [])):=by
  rw [← hW3]
  exact (Below.heap_alloc _ _ _ (by simp)).trans (heap_alloc_new W2 _)
 have eL:W3.heap[L]? = some (.loop (rec .ready)):=by
  rw [← hW3,← hL]
  have:=heap_alloc_new (W2.alloc (.deferred (some []))) (.loop (rec .ready))
  rwa [World.size_alloc] at this
 have old:∀ x,x < W2.heap.size→W3.heap[x]? = W2.heap[x]?:=fun x hx=>bel3.block x hx
 rw [hW3]
 have hw3:=hw2.own1 (own1_below bel3)
 have mD:Mine w (g2.mine W2.heap.size W3.heap.size) W2.heap.size:=Mine.new hw2 (Nat.le_refl _) (by omega)
 have mL:Mine w (g2.mine W2.heap.size W3.heap.size) L:=Mine.new hw2 (by omega) (by omega)
 have s0:LSt w g w.heap.size B (.pointer p0) (.pointer p1) (.slice ha hn hk) fr to [] 0 W3 (g2.mine W2.heap.size W3.heap.size) :=
  ⟨hw3,hm2'.mine _ _,(old _ (by omega)).trans e2,hm5.mine _ _,_,(old _ (by omega)).trans e5,.tail0 _ _ _⟩
 have key:=runs1_walk (rec:=rec) (b6:=B + 1) (b7:=B + 2) (b8:=B + 3) (fun W g' acc acc' m m' x y s q r h=>hyP W g' acc acc' m m' x y s q (by omega) (by omega) r h) (fun W g' acc acc' m m' x y s q r h=>hyF W g' acc acc' m m' x y s q (by omega) (by omega) r h)
  (hidden_cells (X:=X1) h2 hsp) hln.1 hln.2 s0 mL eL (hm6.mine _ _) ((old _ (by omega)).trans e6) (hm7.mine _ _) ((old _ (by omega)).trans e7) (hm8.mine _ _) ((old _ (by omega)).trans e8)
  ⟨by omega,by omega,by omega,by omega,by omega,by omega,by omega,by omega,by omega,by omega,by omega⟩ hgo
 refine CallsIn.mono key ?_
 clear key
 rintro e W4 ⟨⟨v,rfl⟩,g4,⟨k1,k2,k3,k4,v5,k5,k6⟩,mL4,rL4,sm⟩
 obtain ⟨mD4,eD4⟩:=sm.2 W2.heap.size (by omega) (by omega) (by omega) mD (by omega)
 obtain ⟨sa5,sl5,sc5,rfl⟩:=tail_slice k6
 have eD4:=eD4.trans eD
 obtain ⟨m44,e44⟩:=sm.2 (w.heap.size + 1) (by omega) (by omega) (by omega) (hm4'.mine _ _) (by omega)
 have e44:=e44.trans ((old _ (by omega)).trans e4)
 refine ⟨⟨_,rfl⟩,rL4,?_⟩
 obtain ⟨W5,hW5⟩:∃ W5,W4.putObj L (.loop (rec .exhausted)) = W5:=⟨_,rfl⟩
 have lL4:L < W4.heap.size:=(Array.getElem?_eq_some_iff.1 rL4).1
 have oth5:∀ x,x ≠ L→W5.heap[x]? = W4.heap[x]?:=fun x hx=>by rw [← hW5];exact World.putObj_heap_other hx
 have sz5:W5.heap.size = W4.heap.size:=by rw [← hW5];simp
 rw [hW5]
 have e55:W5.heap[B]? = some (.cells #[.slice sa5 sl5 sc5,.int .i64 fr,.int .i64 to] 156):=(oth5 _ (by omega)).trans k5
 have eD5:W5.heap[W2.heap.size]? = some (.deferred (some [])):=(oth5 _ (by omega)).trans eD4
 have e45:W5.heap[w.heap.size + 1]? = some (.cells #[.slice none 0 0,.int .i64 0,.int .i64 0] 156):=(oth5 _ (by omega)).trans e44
 have c40:W5.cell? ⟨w.heap.size + 1,0,none⟩ = some (.slice none 0 0):=by rw [Lib.cell_of_heap e45];rfl
 have c41:W5.cell? ⟨w.heap.size + 1,1,none⟩ = some (.int .i64 0):=by rw [Lib.cell_of_heap e45];rfl
 have c42:W5.cell? ⟨w.heap.size + 1,2,none⟩ = some (.int .i64 0):=by rw [Lib.cell_of_heap e45];rfl
 have z40:W5.frozen? ⟨w.heap.size + 1,0,none⟩ = false:=Lib.frozen_of_heap e45 0
 have z41:W5.frozen? ⟨w.heap.size + 1,1,none⟩ = false:=Lib.frozen_of_heap e45 1
 have z42:W5.frozen? ⟨w.heap.size + 1,2,none⟩ = false:=Lib.frozen_of_heap e45 2
 have AM:Aside (Mine w (g4.mine W4.heap.size W5.heap.size) (w.heap.size + 1)∧Mine w (g4.mine W4.heap.size W5.heap.size) W2.heap.size):=⟨m44.mine _ _,mD4.mine _ _⟩
 have AE:Aside (W5.heap[w.heap.size + 1]? = some (.cells #[.slice none 0 0,.int .i64 0,.int .i64 0] 156)∧W5.heap[W2.heap.size]? = some (.deferred (some []))):=⟨e45,eD5⟩
 have c50:W5.cell? ⟨B,0,none⟩ = some (.slice sa5 sl5 sc5):=by rw [Lib.cell_of_heap e55];rfl
 have c51:W5.cell? ⟨B,1,none⟩ = some (.int .i64 fr):=by rw [Lib.cell_of_heap e55];rfl
 have c52:W5.cell? ⟨B,2,none⟩ = some (.int .i64 to):=by rw [Lib.cell_of_heap e55];rfl
 have ow5:Own1 w g4 W4 W5:=by
  refine ⟨by rw [← hW5];rfl,by rw [← hW5];rfl,by rw [← hW5];rfl,by omega,fun x hx=>?_⟩
  by_cases e:x = L
  ·subst e;exact .inr ⟨mL4.own,mL4.e,mL4.ge⟩
  ·exact .inl (oth5 x e)
 have kw5:=k1.own1 ow5
 have rv5:=ow5.repV k1.sit.fresh k6
 clear e45 eD5 hW5 oth5 e55 k5 k6 ow5 sm eD4 rL4 mL4 lL4 sz5
 gi_wp2
 obtain ⟨e45,eD5⟩:=AE.out
 obtain ⟨m45,mD5⟩:=AM.out
 obtain ⟨W8,hW8⟩:∃ W8,((W5.setCell ⟨w.heap.size + 1,0,none⟩ (.slice sa5 sl5 sc5)).setCell ⟨w.heap.size + 1,1,none⟩ (.int .i64 fr)).setCell ⟨w.heap.size + 1,2,none⟩ (.int .i64 to) = W8:=⟨_,rfl⟩
 have e48:W8.heap[w.heap.size + 1]? = some (.cells #[.slice sa5 sl5 sc5,.int .i64 fr,.int .i64 to] 156):=by
  rw [← hW8]
  exact heap_setCell_same _ _ 2 _ _ _ ((heap_setCell_same _ _ 1 _ _ _ ((heap_setCell_same W5 _ 0 _ _ _ e45).trans rfl)).trans rfl)
 have oth8:∀ x,x ≠ w.heap.size + 1→W8.heap[x]? = W5.heap[x]?:=fun x hx=>by
  rw [← hW8]
  exact (Below.heap_setCell _ _ _ x hx).trans ((Below.heap_setCell _ _ _ x hx).trans (Below.heap_setCell _ _ _ x hx))
 have os8:W8.os = W5.os∧W8.tape = W5.tape∧W8.output = W5.output∧W8.heap.size = W5.heap.size:=by
  rw [← hW8]
  exact ⟨rfl,rfl,rfl,(setCell_size _ _ _).trans ((setCell_size _ _ _).trans (setCell_size _ _ _))⟩
 rw [hW8]
 clear hW8
 have eD8:W8.heap[B + 4]? = some (.deferred (some [])):=by rw [← hs2];exact (oth8 _ (by omega)).trans eD5
 obtain ⟨W9,hW9⟩:∃ W9,W8.putObj (B + 4) (.deferred none) = W9:=⟨_,rfl⟩
 have e49:W9.heap[w.heap.size + 1]? = some (.cells #[.slice sa5 sl5 sc5,.int .i64 fr,.int .i64 to] 156):=by
  rw [← hW9]
  exact (World.putObj_heap_other (by omega)).trans e48
 have ow9:Own1 w (g4.mine W4.heap.size W5.heap.size) W5 W9:=by
  refine ⟨by rw [← hW9];exact os8.1,by rw [← hW9];exact os8.2.1,by rw [← hW9];exact os8.2.2.1,by rw [← hW9];simp;omega,fun x hx=>?_⟩
  by_cases e:x = w.heap.size + 1
  ·subst e;exact .inr ⟨m45.own,m45.e,m45.ge⟩
  ·by_cases e':x = W2.heap.size
   ·subst e';exact .inr ⟨mD5.own,mD5.e,mD5.ge⟩
   ·refine .inl ?_
    rw [← hW9]
    exact (World.putObj_heap_other (by omega)).trans (oth8 x e)
 have kw9:=kw5.own1 ow9
 have rd9:=ow9.repD kw5.sit.fresh rv5.tail_sl
 refine ⟨by simp,.inl ⟨_,_,rfl,run_takeDeferred eD8,?_⟩⟩
 rw [hW9]
 refine ⟨_,results_cell_row (p:=4) (ty := 156) (by kernel_rfl) _ W9 (w.heap.size + 1) _ _ _ ((Tryz.prog.underlying 156).getD default) (by rfl) e49 (by kernel_rfl) (by kernel_rfl) (by kernel_rfl),?_⟩
 exact ⟨_,rfl,_,kw9.keep hf (.slot 0) (.slot 0),kw9.endD (rep_agg3 rd9 (.int _ _) (.int _ _)) _ _ _⟩
abbrev fLine:FuncId := 107
noncomputable def X2:Ctx:={ X1 with ext:=fun f=>if f = fLine then some (extLine (callN X1 fuel0 dep0)) else X1.ext f }
theorem extLine_pure {call:CallF} {ds:List D} {y:V} (h:extLine call ds = some y):y.pure = true:=by
 simp only [extLine] at h
 split at h
 ·split at h
  ·split at h
   ·split at h
    ·split at h
     ·cases h;rfl
     ·cases h
    ·cases h
   ·cases h
  ·cases h
 ·cases h
theorem ext2_pure:ExtPure X2:=by
 intro f F hF ds y hy
 simp only [X2] at hF
 split at hF
 ·cases hF
  exact extLine_pure hy
 ·exact ext1_pure f F hF ds y hy
theorem ext2_ok:ExtOk X2:=by
 intro f F hF ds y hy w g vargs hf hg hp p hpos
 have hg':GlobOk X1 w g:=hg
 simp only [X2] at hF
 split at hF
 ·rename_i hfe
  subst hfe
  cases hF
  have hy':=hy
  simp only [extLine] at hy'
  split at hy'
  ·rename_i r i hc hn fr
   obtain ⟨u,v,rfl,hu,hv⟩:=ptd2 hp
   cases hv
   obtain ⟨hcp,hci⟩:=call_ok X1 ext1_ok ext1_pure ext1_iok fuel0 dep0
   exact ⟨_,Tryz.func107, rfl,⟨_,rfl⟩,(line_walk hcp hy hf hg' hu p).mono fun E w' ⟨v,g',a,b,c⟩=>⟨v,g',a,b,G.RepV.ctx (X:=X1) (Y:=X2) rfl c⟩⟩
  ·cases hy'
 ·obtain ⟨fn,k1,k2,k3,k4⟩:=ext1_ok f F hF ds y hy w g vargs hf hg' hp p hpos
  exact ⟨fn,k1,k2,k3,k4.mono fun E w' ⟨v,g',a,b,c⟩=>⟨v,g',a,b,G.RepV.ctx (X:=X1) (Y:=X2) rfl c⟩⟩
open Go G
theorem ansAt {X:Ctx} {f:FuncId} {args:List V} {v:V} (d:Nat) (h:∀ n,(callN X FUEL (n + d)).p f args = some v):Ans X f args v :=
 ⟨d,fun k hk=>by obtain ⟨n,rfl⟩:∃ n,k = n + d:=⟨k - d,by omega⟩;exact h n⟩
def memoAt:List (FuncId × List D × V)→FuncId→List D→Option V
 | [],_,_=>none
 | (g,a,v) :: r,f,ds=>if g == f && sameDs a ds then some v else memoAt r f ds
theorem memoAt_spec:∀ (T:List (FuncId × List D × V)) (f:FuncId) (ds:List D) (v:V),memoAt T f ds = some v→(f,ds,v) ∈ T
 | [],_,_,_,h=>by cases h
 | (g,a,u) :: r,f,ds,v,h=>by
  unfold memoAt at h
  split at h
  ·rename_i hc
   rw [Bool.and_eq_true,beq_iff_eq] at hc
   have:=sameDs_eq _ _ hc.2
   cases h
   rw [← hc.1,← this]
   exact List.mem_cons_self ..
  ·exact List.mem_cons_of_mem _ (memoAt_spec r f ds v h)
noncomputable def memo (X:Ctx) (T:List (FuncId × List D × V)):Ctx :=
 {X with ext:=fun f=>if T.any (fun e=>e.1 == f) then some (fun ds=>match memoAt T f ds with
   | some v=>some v
   | none=>match X.ext f with
    | some F=>F ds
    | none=>none) else X.ext f }
structure Good (X:Ctx):Prop where
 ok:ExtOk X
 pure:ExtPure X
 noi:∀ f,X.exti f = none
theorem Good.iok {X:Ctx} (h:Good X):ExtIOk X:=fun f F hF=>by rw [h.noi f] at hF;cases hF
theorem good2:Good X2:=⟨ext2_ok,ext2_pure,fun _=>rfl⟩
theorem good_memo {X:Ctx} {T:List (FuncId × List D × V)} (h:Good X) (hT:∀ e ∈ T,Ans X e.1 (e.2.1.map V.d) e.2.2∧e.2.2.pure = true):Good (memo X T):=by
 have key:∀ f F,(memo X T).ext f = some F→∀ ds y,F ds = some y→(∃ F',X.ext f = some F' ∧ F' ds = some y)∨(f,ds,y) ∈ T:=by
  intro f F hF ds y hy
  simp only [memo] at hF
  split at hF
  ·cases hF
   simp only at hy
   split at hy
   ·rename_i v hv
    cases hy
    exact .inr (memoAt_spec _ _ _ _ hv)
   ·split at hy
    ·rename_i F' hF'
     exact .inl ⟨F',hF',hy⟩
    ·cases hy
  ·exact .inl ⟨F,hF,hy⟩
 refine ⟨fun f F hF ds y hy w g vargs hf hg hp p hpos=>?_,fun f F hF ds y hy=>?_,h.noi⟩
 ·have hg':GlobOk X w g:=hg
  rcases key f F hF ds y hy with ⟨F',k1,k2⟩ | hm
  ·obtain ⟨fn,j1,j2,j3,j4⟩:=h.ok f F' k1 ds y k2 w g vargs hf hg' hp p hpos
   exact ⟨fn,j1,j2,j3,j4.mono fun E w' ⟨v,g',a,b,c⟩=>⟨v,g',a,b,G.RepV.ctx (X:=X) (Y:=memo X T) rfl c⟩⟩
  ·obtain ⟨⟨K,hK⟩,hpu⟩:=hT _ hm
   have hv:PtV X w g vargs (ds.map V.d):=hp.toV
   obtain ⟨fn,j1,j2,j3,j4⟩:=(callN_ok (X:=X) (fun _=>rfl) h.ok h.pure h.iok G.FUEL K).1 f _ y (hK K (Nat.le_refl K)) (by simp [V.pure]) w g vargs hf hg' hv p hpos
   exact ⟨fn,j1,j2,j3,j4.mono fun E w' ⟨v,g',a,b,c⟩=>⟨v,g',a,b,G.RepV.ctx (X:=X) (Y:=memo X T) rfl c⟩⟩
 ·rcases key f F hF ds y hy with ⟨F',k1,k2⟩ | hm
  ·exact h.pure f F' k1 ds y k2
  ·exact (hT _ hm).2
def se0:D:=(.sl [(.int Go.IntKind.i64 (0)),(.int Go.IntKind.i64 (0)),(.int Go.IntKind.i64 (2)),(.int Go.IntKind.i64 (2)),(.int Go.IntKind.i64 (0)),(.int Go.IntKind.i64 (0)),(.str [97,98])] 1)
def se1:D:=(.ref [se0,(.int Go.IntKind.i64 (1)),(.int Go.IntKind.i64 (2)),(.int Go.IntKind.i64 (2)),(.int Go.IntKind.i64 (0)),(.int Go.IntKind.i64 (0)),(.int Go.IntKind.i64 (0))] 0)
def se2:D:=(.tup [(.ref [(.ref [(.ifc 238 se1)] 0)] 0),(.int Go.IntKind.i64 (0))])
def se3:D:=(.sl [(.int Go.IntKind.i64 (0)),(.int Go.IntKind.i64 (0)),(.int Go.IntKind.i64 (2)),(.int Go.IntKind.i64 (2)),(.int Go.IntKind.i64 (0)),(.int Go.IntKind.i64 (0)),(.str [])] 1)
def se4:D:=(.ref [se3,(.int Go.IntKind.i64 (1)),(.int Go.IntKind.i64 (2)),(.int Go.IntKind.i64 (2)),(.int Go.IntKind.i64 (0)),(.int Go.IntKind.i64 (0)),(.int Go.IntKind.i64 (0))] 0)
def se5:D:=(.tup [(.ref [(.ref [(.ifc 238 se4)] 0)] 0),(.int Go.IntKind.i64 (0))])
def se6:D:=(.sl [(.int Go.IntKind.i32 (768)),(.int Go.IntKind.i32 (879)),(.int Go.IntKind.i32 (8203)),(.int Go.IntKind.i32 (8207)),(.int Go.IntKind.i32 (65024)),(.int Go.IntKind.i32 (65039))] 3)
def se7:D:=(.sl [(.int Go.IntKind.i32 (4352)),(.int Go.IntKind.i32 (4447)),(.int Go.IntKind.i32 (11904)),(.int Go.IntKind.i32 (12350)),(.int Go.IntKind.i32 (12353)),(.int Go.IntKind.i32 (19903)),(.int Go.IntKind.i32 (19968)),(.int Go.IntKind.i32 (40959)),(.int Go.IntKind.i32 (44032)),(.int Go.IntKind.i32 (55203)),(.int Go.IntKind.i32 (63744)),(.int Go.IntKind.i32 (64255)),(.int Go.IntKind.i32 (65280)),(.int Go.IntKind.i32 (65376)),(.int Go.IntKind.i32 (127744)),(.int Go.IntKind.i32 (128591))] 8)
def se8:D:=(.sl [(.int Go.IntKind.i32 (97)),(.int Go.IntKind.i32 (98))] 2)
def se9:D:=(.sl [(.int Go.IntKind.i64 (1)),(.int Go.IntKind.i64 (1))] 2)
def se10:D:=(.agg [(.ref [(.ref [(.ifc 238 se1)] 0)] 0),(.ref [(.int Go.IntKind.i64 (2)),(.sl [] 0)] 0),(.sl [] 0),(.ref [se6,se7] 0),(.int Go.IntKind.i64 (4)),(.int Go.IntKind.i64 (0))])
def se11:D:=(.sl [(.int Go.IntKind.i64 (1)),(.int Go.IntKind.i64 (0)),se8] 1)
def se12:D:=(.agg [se11,(.int Go.IntKind.i64 (0)),(.int Go.IntKind.i64 (2))])
def se13:D:=(.agg [(.int Go.IntKind.i64 (2)),(.int Go.IntKind.i64 (2)),(.int Go.IntKind.i64 (1)),(.int Go.IntKind.i64 (2))])
def se14:D:=(.sl [(.int Go.IntKind.i64 (2)),(.int Go.IntKind.i64 (2)),(.int Go.IntKind.i64 (1)),(.int Go.IntKind.i64 (2))] 1)
def se15:D:=(.sl [(.int Go.IntKind.i64 (0)),(.int Go.IntKind.i64 (0)),(.int Go.IntKind.i64 (2)),(.int Go.IntKind.i64 (2)),(.int Go.IntKind.i64 (1)),(.int Go.IntKind.i64 (2)),(.str [])] 1)
def se16:D:=(.ref [se15,(.int Go.IntKind.i64 (1)),(.int Go.IntKind.i64 (2)),(.int Go.IntKind.i64 (2)),(.int Go.IntKind.i64 (1)),(.int Go.IntKind.i64 (2)),(.int Go.IntKind.i64 (0))] 0)
def se17:D:=(.tup [(.ref [(.ref [(.ifc 238 se16)] 0)] 0),(.int Go.IntKind.i64 (0))])
def se18:D:=(.ref [(.int Go.IntKind.i64 (2)),(.sl [] 0),(.sl [] 0)] 0)
def se19:D:=(.agg [(.ref [(.ref [(.ifc 238 se1)] 0)] 0),(.ref [(.int Go.IntKind.i64 (2)),(.sl [] 0)] 0),se18,(.int Go.IntKind.i64 (4)),(.int Go.IntKind.i64 (0))])
def se20:D:=(.ref [(.ref [(.ref [(.ifc 238 se1)] 0)] 0),(.ref [(.int Go.IntKind.i64 (2)),(.sl [] 0)] 0),se18,(.int Go.IntKind.i64 (4)),(.int Go.IntKind.i64 (0)),(.ref [(.ref [(.ifc 238 se4)] 0)] 0),(.ref [(.ref [(.ifc 238 se4)] 0)] 0),(.ref [(.ref [(.ifc 238 se16)] 0)] 0)] 0)
def se21:D:=(.sl [(.int Go.IntKind.i64 (0)),(.int Go.IntKind.i64 (0)),(.int Go.IntKind.i64 (2)),(.int Go.IntKind.i64 (2))] 2)
def se22:D:=(.tup [(.ref [(.int Go.IntKind.i64 (2)),se21] 0),(.int Go.IntKind.i64 (0))])
def se23:D:=(.agg [(.int Go.IntKind.i64 (0)),(.int Go.IntKind.i64 (0)),(.int Go.IntKind.i64 (0)),(.int Go.IntKind.i64 (0)),(.int Go.IntKind.i64 (0))])
def se24:D:=(.agg [(.int Go.IntKind.i64 (0)),(.int Go.IntKind.i64 (0)),(.int Go.IntKind.i64 (0)),(.int Go.IntKind.i64 (0)),(.int Go.IntKind.i64 (0)),(.int Go.IntKind.i64 (0)),(.int Go.IntKind.i64 (0)),(.int Go.IntKind.i64 (0)),(.int Go.IntKind.i64 (2)),(.int Go.IntKind.i64 (2)),(.int Go.IntKind.i64 (0)),(.int Go.IntKind.i64 (0)),(.str [97,98]),(.int Go.IntKind.i64 (0))])
def se25:D:=(.sl [(.int Go.IntKind.i32 (97)),(.int Go.IntKind.i64 (1)),(.int Go.IntKind.i64 (1)),(.int Go.IntKind.i64 (0)),(.int Go.IntKind.i32 (98)),(.int Go.IntKind.i64 (1)),(.int Go.IntKind.i64 (1)),(.int Go.IntKind.i64 (1))] 2)
def se26:D:=(.sl [se25,(.int Go.IntKind.i64 (0)),(.int Go.IntKind.i64 (2)),(.int Go.IntKind.i64 (0)),(.bool false),(.bool false),(.int Go.IntKind.i64 (2))] 1)
def se27:D:=(.agg [(.int Go.IntKind.i64 (0)),(.int Go.IntKind.i64 (0))])
def se28:D:=(.agg [(.int Go.IntKind.i64 (1)),(.int Go.IntKind.i64 (2)),(.int Go.IntKind.i64 (2)),(.int Go.IntKind.i64 (0)),(.int Go.IntKind.i64 (0)),(.int Go.IntKind.i64 (0)),(.int Go.IntKind.i64 (0)),(.int Go.IntKind.i64 (0)),(.int Go.IntKind.i64 (0)),(.int Go.IntKind.i64 (0)),(.int Go.IntKind.i64 (0)),(.int Go.IntKind.i64 (0)),(.str []),(.int Go.IntKind.i64 (0))])
def se29:D:=(.sl [(.int Go.IntKind.i64 (1)),(.int Go.IntKind.i64 (1)),(.int Go.IntKind.i64 (4)),(.int Go.IntKind.i64 (4))] 2)
def se30:D:=(.tup [(.ref [(.int Go.IntKind.i64 (4)),se29] 0),(.int Go.IntKind.i64 (0))])
def se31:D:=(.tup [(.int Go.IntKind.i64 (0)),(.int Go.IntKind.i64 (0))])
def se32:D:=(.tup [(.int Go.IntKind.i64 (2)),(.int Go.IntKind.i64 (0))])
def se33:D:=(.sl [(.int Go.IntKind.i64 (0)),(.int Go.IntKind.i64 (0)),(.str [120]),(.int Go.IntKind.i64 (2)),(.int Go.IntKind.i64 (2)),(.str [120])] 2)
def se34:D:=(.sl [(.int Go.IntKind.i64 (0)),(.int Go.IntKind.i64 (1)),(.str []),(.int Go.IntKind.i64 (3)),(.int Go.IntKind.i64 (4)),(.str [])] 2)
def se35:D:=(.sl [(.int Go.IntKind.i64 (0)),(.int Go.IntKind.i64 (0)),(.int Go.IntKind.i64 (4)),(.int Go.IntKind.i64 (4)),(.int Go.IntKind.i64 (0)),(.int Go.IntKind.i64 (0)),(.str [120,97,98,120])] 1)
def se36:D:=(.ref [se35,(.int Go.IntKind.i64 (1)),(.int Go.IntKind.i64 (4)),(.int Go.IntKind.i64 (4)),(.int Go.IntKind.i64 (0)),(.int Go.IntKind.i64 (0)),(.int Go.IntKind.i64 (0))] 0)
def se37:D:=(.tup [(.ref [(.ifc 238 se36)] 0),(.int Go.IntKind.i64 (0))])
def se38:D:=(.tup [(.ref [(.ref [(.ifc 238 se36)] 0)] 0),(.int Go.IntKind.i64 (0))])
def se39:D:=(.sl [(.int Go.IntKind.i64 (0)),(.int Go.IntKind.i64 (0)),(.int Go.IntKind.i64 (0)),(.int Go.IntKind.i64 (1)),(.int Go.IntKind.i64 (2)),(.int Go.IntKind.i64 (2)),(.int Go.IntKind.i64 (3)),(.int Go.IntKind.i64 (4))] 2)
def se40:D:=(.tup [(.ref [(.int Go.IntKind.i64 (4)),(.sl [] 0)] 0),(.int Go.IntKind.i64 (0))])
def se41:D:=(.ref [(.int Go.IntKind.i64 (4)),(.sl [] 0),(.sl [] 0)] 0)
def se42:D:=(.sl [(.int Go.IntKind.i64 (0)),(.int Go.IntKind.i64 (0)),(.int Go.IntKind.i64 (4)),(.int Go.IntKind.i64 (4)),(.int Go.IntKind.i64 (0)),(.int Go.IntKind.i64 (0)),(.str [])] 1)
def se43:D:=(.ref [se42,(.int Go.IntKind.i64 (1)),(.int Go.IntKind.i64 (4)),(.int Go.IntKind.i64 (4)),(.int Go.IntKind.i64 (0)),(.int Go.IntKind.i64 (0)),(.int Go.IntKind.i64 (0))] 0)
def se44:D:=(.tup [(.ref [(.ifc 238 se43)] 0),(.int Go.IntKind.i64 (0))])
def se45:D:=(.agg [(.int Go.IntKind.i64 (0)),(.int Go.IntKind.i64 (2))])
def se46:D:=(.agg [(.int Go.IntKind.i64 (0)),(.int Go.IntKind.i64 (4))])
def se47:D:=(.tup [(.ref [(.ref [(.ifc 238 se43)] 0)] 0),(.int Go.IntKind.i64 (0))])
def se48:D:=(.tup [(.int Go.IntKind.i64 (0)),(.int Go.IntKind.i64 (1)),se46,(.bool true)])
def se49:D:=(.agg [(.ref [(.ref [(.ifc 238 se1)] 0)] 0),(.ref [(.int Go.IntKind.i64 (2)),(.sl [] 0)] 0),(.sl [] 0)])
def se50:D:=(.agg [(.int Go.IntKind.i64 (0)),(.int Go.IntKind.i64 (0)),(.int Go.IntKind.i64 (0)),(.int Go.IntKind.i64 (0)),(.int Go.IntKind.i64 (0)),(.int Go.IntKind.i64 (0)),(.int Go.IntKind.i64 (0)),(.int Go.IntKind.i64 (0)),(.int Go.IntKind.i64 (4)),(.int Go.IntKind.i64 (4)),(.int Go.IntKind.i64 (0)),(.int Go.IntKind.i64 (0)),(.str [120,97,98,120]),(.int Go.IntKind.i64 (0))])
def se51:D:=(.agg [(.int Go.IntKind.i64 (1)),(.int Go.IntKind.i64 (4)),(.int Go.IntKind.i64 (4)),(.int Go.IntKind.i64 (0)),(.int Go.IntKind.i64 (0)),(.int Go.IntKind.i64 (0)),(.int Go.IntKind.i64 (0)),(.int Go.IntKind.i64 (0)),(.int Go.IntKind.i64 (0)),(.int Go.IntKind.i64 (0)),(.int Go.IntKind.i64 (0)),(.int Go.IntKind.i64 (0)),(.str []),(.int Go.IntKind.i64 (0))])
def se52:D:=(.agg [(.ref [(.ref [(.ifc 238 se36)] 0)] 0),(.ref [(.int Go.IntKind.i64 (4)),(.sl [] 0)] 0),(.sl [] 0)])
def se53:D:=(.tup [(.int Go.IntKind.i64 (4)),(.int Go.IntKind.i64 (0))])
def se54:D:=(.agg [(.int Go.IntKind.i64 (1)),(.int Go.IntKind.i64 (0)),(.int Go.IntKind.i64 (1)),(.int Go.IntKind.i64 (2)),(.int Go.IntKind.i64 (2))])
def se55:D:=(.agg [(.int Go.IntKind.i64 (0)),(.int Go.IntKind.i64 (2)),(.int Go.IntKind.i64 (0)),(.int Go.IntKind.i64 (0)),(.int Go.IntKind.i64 (0))])
def se56:D:=(.agg [se20,(.ref [(.ref [(.ifc 238 se36)] 0)] 0),(.ref [(.int Go.IntKind.i64 (4)),(.sl [] 0)] 0),se41,(.int Go.IntKind.i64 (4)),(.int Go.IntKind.i64 (0)),(.int Go.IntKind.i64 (0)),(.int Go.IntKind.i64 (2)),(.int Go.IntKind.i64 (0)),(.int Go.IntKind.i64 (4))])
def se57:D:=(.tup [(.int Go.IntKind.i64 (0)),(.int Go.IntKind.i64 (1)),se46])
def se58:D:=(.sl [(.int Go.IntKind.i32 (120)),(.int Go.IntKind.i32 (97)),(.int Go.IntKind.i32 (98)),(.int Go.IntKind.i32 (120))] 4)
def se59:D:=(.sl [(.int Go.IntKind.i64 (1)),(.int Go.IntKind.i64 (1)),(.int Go.IntKind.i64 (1)),(.int Go.IntKind.i64 (1))] 4)
def se60:D:=(.sl [(.int Go.IntKind.i64 (1)),(.int Go.IntKind.i64 (0)),se58] 1)
def se61:D:=(.sl [(.int Go.IntKind.i32 (120)),(.int Go.IntKind.i64 (1)),(.int Go.IntKind.i64 (1)),(.int Go.IntKind.i64 (0)),(.int Go.IntKind.i32 (97)),(.int Go.IntKind.i64 (1)),(.int Go.IntKind.i64 (1)),(.int Go.IntKind.i64 (1)),(.int Go.IntKind.i32 (98)),(.int Go.IntKind.i64 (1)),(.int Go.IntKind.i64 (1)),(.int Go.IntKind.i64 (2)),(.int Go.IntKind.i32 (120)),(.int Go.IntKind.i64 (1)),(.int Go.IntKind.i64 (1)),(.int Go.IntKind.i64 (3))] 4)
def se62:D:=(.agg [(.ref [(.ref [(.ifc 238 se36)] 0)] 0),(.ref [(.int Go.IntKind.i64 (4)),(.sl [] 0)] 0),(.sl [] 0),(.ref [se6,se7] 0),(.int Go.IntKind.i64 (4)),(.int Go.IntKind.i64 (0))])
def se63:D:=(.agg [se60,(.int Go.IntKind.i64 (0)),(.int Go.IntKind.i64 (4))])
def se64:D:=(.agg [(.int Go.IntKind.i64 (4)),(.int Go.IntKind.i64 (4)),(.int Go.IntKind.i64 (1)),(.int Go.IntKind.i64 (4))])
def se65:D:=(.agg [(.ref [(.ref [(.ifc 238 se36)] 0)] 0),(.ref [(.int Go.IntKind.i64 (4)),(.sl [] 0)] 0),se41,(.int Go.IntKind.i64 (4)),(.int Go.IntKind.i64 (0))])
def se66:D:=(.sl [(.int Go.IntKind.i64 (4)),(.int Go.IntKind.i64 (4)),(.int Go.IntKind.i64 (1)),(.int Go.IntKind.i64 (4))] 1)
def se67:D:=(.sl [(.int Go.IntKind.i64 (0)),(.int Go.IntKind.i64 (0)),(.int Go.IntKind.i64 (4)),(.int Go.IntKind.i64 (4)),(.int Go.IntKind.i64 (1)),(.int Go.IntKind.i64 (4)),(.str [])] 1)
def se68:D:=(.ref [se67,(.int Go.IntKind.i64 (1)),(.int Go.IntKind.i64 (4)),(.int Go.IntKind.i64 (4)),(.int Go.IntKind.i64 (1)),(.int Go.IntKind.i64 (4)),(.int Go.IntKind.i64 (0))] 0)
def se69:D:=(.tup [(.ref [(.ifc 238 se68)] 0),(.int Go.IntKind.i64 (0))])
def se70:D:=(.agg [(.ref [(.ref [(.ifc 238 se43)] 0)] 0),(.ref [(.ref [(.ifc 238 se43)] 0)] 0),(.ref [(.ref [(.ifc 238 se68)] 0)] 0)])
def se71:D:=(.ref [(.ref [(.ref [(.ifc 238 se36)] 0)] 0),(.ref [(.int Go.IntKind.i64 (4)),(.sl [] 0)] 0),se41,(.int Go.IntKind.i64 (4)),(.int Go.IntKind.i64 (0)),(.ref [(.ref [(.ifc 238 se43)] 0)] 0),(.ref [(.ref [(.ifc 238 se43)] 0)] 0),(.ref [(.ref [(.ifc 238 se68)] 0)] 0)] 0)
def se72:D:=(.agg [(.int Go.IntKind.i64 (1)),(.int Go.IntKind.i64 (1))])
def se73:D:=(.tup [se71,(.int Go.IntKind.i64 (0)),se72,(.int Go.IntKind.i64 (0))])
def se74:D:=(.sl [se61,(.int Go.IntKind.i64 (0)),(.int Go.IntKind.i64 (4)),(.int Go.IntKind.i64 (0)),(.bool false),(.bool false),(.int Go.IntKind.i64 (4))] 1)
def se75:D:=(.agg [(.int Go.IntKind.i64 (0)),(.int Go.IntKind.i64 (1)),(.int Go.IntKind.i64 (0)),(.int Go.IntKind.i64 (1))])
def se76:D:=(.agg [se71,(.int Go.IntKind.i64 (0)),(.int Go.IntKind.i64 (1)),(.int Go.IntKind.i64 (0)),(.int Go.IntKind.i64 (1)),(.int Go.IntKind.i64 (0)),se34,se33])
def se77:D:=(.agg [(.int Go.IntKind.i64 (0)),(.int Go.IntKind.i64 (1)),(.int Go.IntKind.i64 (0)),(.int Go.IntKind.i64 (0)),(.int Go.IntKind.i64 (0))])
def se78:D:=(.agg [(.int Go.IntKind.i64 (0)),(.int Go.IntKind.i64 (1))])
def se79:D:=(.tup [(.ref [(.ifc 238 se1)] 0),(.int Go.IntKind.i64 (0))])
def se80:D:=(.sl [(.int Go.IntKind.i64 (0)),(.int Go.IntKind.i64 (1)),(.int Go.IntKind.i64 (0)),(.int Go.IntKind.i64 (0)),(.int Go.IntKind.i64 (3)),(.int Go.IntKind.i64 (4)),(.int Go.IntKind.i64 (2)),(.int Go.IntKind.i64 (2))] 2)
def se81:D:=(.tup [(.ref [(.int Go.IntKind.i64 (2)),(.sl [] 0)] 0),(.int Go.IntKind.i64 (0))])
def se82:D:=(.tup [(.ref [(.ifc 238 se4)] 0),(.int Go.IntKind.i64 (0))])
def se83:D:=(.tup [(.int Go.IntKind.i64 (0)),(.int Go.IntKind.i64 (1)),se45,(.bool true)])
def se84:D:=(.agg [(.int Go.IntKind.i64 (1)),(.int Go.IntKind.i64 (0)),(.int Go.IntKind.i64 (1)),(.int Go.IntKind.i64 (4)),(.int Go.IntKind.i64 (4))])
def se85:D:=(.agg [(.int Go.IntKind.i64 (0)),(.int Go.IntKind.i64 (4)),(.int Go.IntKind.i64 (0)),(.int Go.IntKind.i64 (0)),(.int Go.IntKind.i64 (0))])
def se86:D:=(.agg [se71,(.ref [(.ref [(.ifc 238 se1)] 0)] 0),(.ref [(.int Go.IntKind.i64 (2)),(.sl [] 0)] 0),se18,(.int Go.IntKind.i64 (4)),(.int Go.IntKind.i64 (0)),(.int Go.IntKind.i64 (0)),(.int Go.IntKind.i64 (4)),(.int Go.IntKind.i64 (0)),(.int Go.IntKind.i64 (2))])
def se87:D:=(.tup [(.int Go.IntKind.i64 (0)),(.int Go.IntKind.i64 (1)),se45])
def se88:D:=(.tup [(.ref [(.ifc 238 se16)] 0),(.int Go.IntKind.i64 (0))])
def se89:D:=(.agg [(.ref [(.ref [(.ifc 238 se4)] 0)] 0),(.ref [(.ref [(.ifc 238 se4)] 0)] 0),(.ref [(.ref [(.ifc 238 se16)] 0)] 0)])
def se90:D:=(.tup [se20,(.int Go.IntKind.i64 (0)),se72,(.int Go.IntKind.i64 (0))])
def se91:D:=(.agg [se20,(.int Go.IntKind.i64 (0)),(.int Go.IntKind.i64 (1)),(.int Go.IntKind.i64 (0)),(.int Go.IntKind.i64 (1)),(.int Go.IntKind.i64 (0)),se33,se34])
def se_a0:List D:=[(.str [97,98])]
def se_v0:V:=(.d se2)
def se_a1:List D:=[(.ref [(.ref [(.ifc 238 se4)] 0)] 0),(.sl [] 0)]
def se_v1:V:=(.d se5)
def se_a2:List D:=[(.ref [se6,se7] 0),se8,(.int Go.IntKind.i64 (4))]
def se_v2:V:=(.d (.tup [se9,(.int Go.IntKind.i64 (0))]))
def se_a3:List D:=[se10,se12]
def se_v3:V:=(.d se13)
def se_a4:List D:=[se14]
def se_v4:V:=(.d se17)
def se_a5:List D:=[se19]
def se_v5:V:=(.d (.tup [se20,(.int Go.IntKind.i64 (0))]))
def se_a6:List D:=[(.int Go.IntKind.i64 (2)),se21]
def se_v6:V:=(.d se22)
def se_a7:List D:=[(.ref [(.ref [(.ifc 238 se16)] 0)] 0),(.int Go.IntKind.i64 (1)),(.int Go.IntKind.i64 (0))]
def se_v7:V:=(.d (.tup [se23,(.int Go.IntKind.i64 (0))]))
def se_a8:List D:=[(.ref [(.ref [(.ifc 238 se1)] 0)] 0),(.int Go.IntKind.i64 (0))]
def se_v8:V:=(.d (.tup [se24,(.int Go.IntKind.i64 (0))]))
def se_a9:List D:=[se10,se12]
def se_v9:V:=(.tail 163 [se25,(.int Go.IntKind.i64 (0)),(.int Go.IntKind.i64 (2)),(.int Go.IntKind.i64 (0)),(.bool false),(.bool false),(.int Go.IntKind.i64 (2))] 1)
def se_a10:List D:=[se20,se23]
def se_v10:V:=(.d (.tup [se26,(.agg [(.int Go.IntKind.i64 (0))])]))
def se_a11:List D:=[se26,(.int Go.IntKind.i64 (0)),(.int Go.IntKind.i64 (1))]
def se_v11:V:=(.d (.tup [se27,(.int Go.IntKind.i64 (0))]))
def se_a12:List D:=[(.ref [(.ref [(.ifc 238 se1)] 0)] 0),(.int Go.IntKind.i64 (2))]
def se_v12:V:=(.d (.tup [se28,(.int Go.IntKind.i64 (0))]))
def se_a13:List D:=[(.int Go.IntKind.i64 (4)),se29]
def se_v13:V:=(.d se30)
def se_a14:List D:=[(.ref [(.ref [(.ifc 238 se1)] 0)] 0),(.int Go.IntKind.i64 (0))]
def se_v14:V:=(.d se31)
def se_a15:List D:=[(.ref [(.ref [(.ifc 238 se1)] 0)] 0),(.int Go.IntKind.i64 (2))]
def se_v15:V:=(.d se32)
def se_a16:List D:=[(.ref [(.ref [(.ifc 238 se1)] 0)] 0),se33]
def se_v16:V:=(.d (.tup [se34,(.int Go.IntKind.i64 (0))]))
def se_a17:List D:=[(.ref [(.ifc 238 se1)] 0),(.int Go.IntKind.i64 (0)),(.int Go.IntKind.i64 (1)),se35]
def se_v17:V:=(.d se37)
def se_a18:List D:=[(.ref [(.ref [(.ifc 238 se1)] 0)] 0),(.int Go.IntKind.i64 (0)),(.int Go.IntKind.i64 (2)),(.str [120,97,98,120])]
def se_v18:V:=(.d se38)
def se_a19:List D:=[(.ref [(.ref [(.ifc 238 se1)] 0)] 0),se33]
def se_v19:V:=(.d se38)
def se_a20:List D:=[(.ref [(.int Go.IntKind.i64 (2)),(.sl [] 0)] 0),se39]
def se_v20:V:=(.d se40)
def se_a21:List D:=[se18,se39]
def se_v21:V:=(.d (.tup [se41,(.int Go.IntKind.i64 (0))]))
def se_a22:List D:=[(.ref [(.ifc 238 se4)] 0),(.int Go.IntKind.i64 (0)),(.int Go.IntKind.i64 (1)),se42]
def se_v22:V:=(.d se44)
def se_a23:List D:=[(.ref [(.ref [(.ifc 238 se4)] 0)] 0),se45,se46,(.ref [(.int Go.IntKind.i64 (4)),(.sl [] 0)] 0)]
def se_v23:V:=(.d se47)
def se_a24:List D:=[(.ref [(.ref [(.ifc 238 se4)] 0)] 0),se45]
def se_v24:V:=(.d se45)
def se_a25:List D:=[(.ref [(.ref [(.ifc 238 se43)] 0)] 0),se46]
def se_v25:V:=(.d se46)
def se_a26:List D:=[(.ref [(.ref [(.ifc 238 se4)] 0)] 0),se45,se46]
def se_v26:V:=(.d se48)
def se_a27:List D:=[(.ref [(.ref [(.ifc 238 se4)] 0)] 0),se45,se46,(.ref [(.ref [(.ifc 238 se43)] 0)] 0),(.sl [] 0)]
def se_v27:V:=(.d se47)
def se_a28:List D:=[se49,(.int Go.IntKind.i64 (2))]
def se_v28:V:=(.d se32)
def se_a29:List D:=[(.ref [(.ref [(.ifc 238 se36)] 0)] 0),(.int Go.IntKind.i64 (0))]
def se_v29:V:=(.d (.tup [se50,(.int Go.IntKind.i64 (0))]))
def se_a30:List D:=[(.ref [(.ref [(.ifc 238 se36)] 0)] 0),(.int Go.IntKind.i64 (4))]
def se_v30:V:=(.d (.tup [se51,(.int Go.IntKind.i64 (0))]))
def se_a31:List D:=[se52,(.int Go.IntKind.i64 (4))]
def se_v31:V:=(.d se53)
def se_a32:List D:=[(.ref [(.ref [(.ifc 238 se16)] 0)] 0),se54,(.int Go.IntKind.i64 (1)),(.int Go.IntKind.i64 (2)),(.int Go.IntKind.i64 (0))]
def se_v32:V:=(.d (.tup [se55,(.int Go.IntKind.i64 (0))]))
def se_a33:List D:=[(.ref [(.ref [(.ifc 238 se16)] 0)] 0),(.int Go.IntKind.i64 (1)),(.int Go.IntKind.i64 (2))]
def se_v33:V:=(.d (.tup [se55,(.int Go.IntKind.i64 (0))]))
def se_a34:List D:=[se56]
def se_v34:V:=(.d se57)
def se_a35:List D:=[(.ref [se6,se7] 0),se58,(.int Go.IntKind.i64 (4))]
def se_v35:V:=(.d (.tup [se59,(.int Go.IntKind.i64 (0))]))
def se_a36:List D:=[(.ref [se6,se7] 0),se60,(.int Go.IntKind.i64 (4))]
def se_v36:V:=(.d (.tup [se61,(.int Go.IntKind.i64 (0))]))
def se_a37:List D:=[se62,se63]
def se_v37:V:=(.d se64)
def se_a38:List D:=[se65,(.int Go.IntKind.i64 (0)),(.int Go.IntKind.i64 (4))]
def se_v38:V:=(.d (.tup [se66,(.int Go.IntKind.i64 (0))]))
def se_a39:List D:=[(.ref [(.ifc 238 se16)] 0),(.int Go.IntKind.i64 (0)),(.int Go.IntKind.i64 (1)),se67]
def se_v39:V:=(.d se69)
def se_a40:List D:=[se65,se70]
def se_v40:V:=(.d (.tup [se71,(.int Go.IntKind.i64 (0))]))
def se_a41:List D:=[se56]
def se_v41:V:=(.d se73)
def se_a42:List D:=[(.ref [(.ref [(.ifc 238 se16)] 0)] 0),(.int Go.IntKind.i64 (0))]
def se_v42:V:=(.d (.tup [se23,(.int Go.IntKind.i64 (0))]))
def se_a43:List D:=[(.ref [(.ref [(.ifc 238 se16)] 0)] 0),(.int Go.IntKind.i64 (0))]
def se_v43:V:=(.d (.tup [se23,(.int Go.IntKind.i64 (0))]))
def se_a44:List D:=[se20,(.int Go.IntKind.i64 (0)),(.int Go.IntKind.i64 (1))]
def se_v44:V:=(.d (.tup [se26,(.int Go.IntKind.i64 (0))]))
def se_a45:List D:=[(.ref [(.ref [(.ifc 238 se68)] 0)] 0),(.int Go.IntKind.i64 (0))]
def se_v45:V:=(.d (.tup [se23,(.int Go.IntKind.i64 (0))]))
def se_a46:List D:=[(.ref [(.ref [(.ifc 238 se68)] 0)] 0),(.int Go.IntKind.i64 (0))]
def se_v46:V:=(.d (.tup [se23,(.int Go.IntKind.i64 (0))]))
def se_a47:List D:=[se62,se63]
def se_v47:V:=(.tail 163 [se61,(.int Go.IntKind.i64 (0)),(.int Go.IntKind.i64 (4)),(.int Go.IntKind.i64 (0)),(.bool false),(.bool false),(.int Go.IntKind.i64 (4))] 1)
def se_a48:List D:=[se71,(.int Go.IntKind.i64 (0)),(.int Go.IntKind.i64 (1))]
def se_v48:V:=(.d (.tup [se74,(.int Go.IntKind.i64 (0))]))
def se_a49:List D:=[se20,se65,se45,se46]
def se_v49:V:=(.d (.tup [se71,se75,(.int Go.IntKind.i64 (0))]))
def se_a50:List D:=[se20,se33]
def se_v50:V:=(.d (.tup [se76,(.int Go.IntKind.i64 (0))]))
def se_a51:List D:=[(.ref [(.ref [(.ifc 238 se68)] 0)] 0),(.int Go.IntKind.i64 (1)),(.int Go.IntKind.i64 (1))]
def se_v51:V:=(.d (.tup [se77,(.int Go.IntKind.i64 (0))]))
def se_a52:List D:=[se71,se77]
def se_v52:V:=(.d (.tup [se74,(.agg [(.int Go.IntKind.i64 (0))])]))
def se_a53:List D:=[se74,(.int Go.IntKind.i64 (0))]
def se_v53:V:=(.tail 165 [(.int Go.IntKind.i64 (0)),(.int Go.IntKind.i64 (0)),(.int Go.IntKind.i64 (1)),(.int Go.IntKind.i64 (0)),(.int Go.IntKind.i64 (0)),(.int Go.IntKind.i64 (1)),(.int Go.IntKind.i64 (1)),(.int Go.IntKind.i64 (1)),(.int Go.IntKind.i64 (0)),(.int Go.IntKind.i64 (2)),(.int Go.IntKind.i64 (1)),(.int Go.IntKind.i64 (2)),(.int Go.IntKind.i64 (0)),(.int Go.IntKind.i64 (3)),(.int Go.IntKind.i64 (1)),(.int Go.IntKind.i64 (3)),(.int Go.IntKind.i64 (0)),(.int Go.IntKind.i64 (4)),(.int Go.IntKind.i64 (0)),(.int Go.IntKind.i64 (4))] 5)
def se_a54:List D:=[se71,(.int Go.IntKind.i64 (1)),(.int Go.IntKind.i64 (1))]
def se_v54:V:=(.d (.tup [se78,(.int Go.IntKind.i64 (0))]))
def se_a55:List D:=[(.ref [(.ref [(.ifc 238 se36)] 0)] 0),se34]
def se_v55:V:=(.d (.tup [se33,(.int Go.IntKind.i64 (0))]))
def se_a56:List D:=[(.ref [(.ifc 238 se36)] 0),(.int Go.IntKind.i64 (0)),(.int Go.IntKind.i64 (1)),se0]
def se_v56:V:=(.d se79)
def se_a57:List D:=[(.ref [(.ref [(.ifc 238 se36)] 0)] 0),(.int Go.IntKind.i64 (0)),(.int Go.IntKind.i64 (4)),(.str [97,98])]
def se_v57:V:=(.d se2)
def se_a58:List D:=[(.ref [(.ref [(.ifc 238 se36)] 0)] 0),se34]
def se_v58:V:=(.d se2)
def se_a59:List D:=[(.ref [(.int Go.IntKind.i64 (4)),(.sl [] 0)] 0),se80]
def se_v59:V:=(.d se81)
def se_a60:List D:=[se41,se80]
def se_v60:V:=(.d (.tup [se18,(.int Go.IntKind.i64 (0))]))
def se_a61:List D:=[(.ref [(.ifc 238 se43)] 0),(.int Go.IntKind.i64 (0)),(.int Go.IntKind.i64 (1)),se3]
def se_v61:V:=(.d se82)
def se_a62:List D:=[(.ref [(.ref [(.ifc 238 se43)] 0)] 0),se46,se45,(.ref [(.int Go.IntKind.i64 (2)),(.sl [] 0)] 0)]
def se_v62:V:=(.d se5)
def se_a63:List D:=[(.ref [(.ref [(.ifc 238 se43)] 0)] 0),se46,se45]
def se_v63:V:=(.d se83)
def se_a64:List D:=[(.ref [(.ref [(.ifc 238 se43)] 0)] 0),se46,se45,(.ref [(.ref [(.ifc 238 se4)] 0)] 0),(.sl [] 0)]
def se_v64:V:=(.d se5)
def se_a65:List D:=[(.ref [(.ref [(.ifc 238 se68)] 0)] 0),(.int Go.IntKind.i64 (1)),(.int Go.IntKind.i64 (0))]
def se_v65:V:=(.d (.tup [se23,(.int Go.IntKind.i64 (0))]))
def se_a66:List D:=[(.ref [(.ref [(.ifc 238 se68)] 0)] 0),se84,(.int Go.IntKind.i64 (1)),(.int Go.IntKind.i64 (4)),(.int Go.IntKind.i64 (0))]
def se_v66:V:=(.d (.tup [se85,(.int Go.IntKind.i64 (0))]))
def se_a67:List D:=[(.ref [(.ref [(.ifc 238 se68)] 0)] 0),(.int Go.IntKind.i64 (1)),(.int Go.IntKind.i64 (4))]
def se_v67:V:=(.d (.tup [se85,(.int Go.IntKind.i64 (0))]))
def se_a68:List D:=[se86]
def se_v68:V:=(.d se87)
def se_a69:List D:=[se19,(.int Go.IntKind.i64 (0)),(.int Go.IntKind.i64 (2))]
def se_v69:V:=(.d (.tup [se14,(.int Go.IntKind.i64 (0))]))
def se_a70:List D:=[(.ref [(.ifc 238 se68)] 0),(.int Go.IntKind.i64 (0)),(.int Go.IntKind.i64 (1)),se15]
def se_v70:V:=(.d se88)
def se_a71:List D:=[se19,se89]
def se_v71:V:=(.d (.tup [se20,(.int Go.IntKind.i64 (0))]))
def se_a72:List D:=[se86]
def se_v72:V:=(.d se90)
def se_a73:List D:=[se71,se19,se46,se45]
def se_v73:V:=(.d (.tup [se20,se75,(.int Go.IntKind.i64 (0))]))
def se_a74:List D:=[se71,se34]
def se_v74:V:=(.d (.tup [se91,(.int Go.IntKind.i64 (0))]))
def seT1:List (FuncId × List D × V):=[(76, se_a0,se_v0),(131, se_a1,se_v1),(248, se_a2,se_v2),(134, se_a4,se_v4),(45, se_a6,se_v6),(56, se_a7,se_v7),(112, se_a8,se_v8),(32, se_a11,se_v11),(112, se_a12,se_v12),(45, se_a13,se_v13),(231, se_a14,se_v14),(231, se_a15,se_v15),(157, se_a16,se_v16),(300, se_a17,se_v17),(161, se_a20,se_v20),(162, se_a21,se_v21),(300, se_a22,se_v22),(349, se_a24,se_v24),(349, se_a25,se_v25),(371, se_a26,se_v26),(112, se_a29,se_v29),(112, se_a30,se_v30),(103, se_a32,se_v32),(248, se_a35,se_v35),(300, se_a39,se_v39),(308, se_a40,se_v40),(293, se_a42,se_v42),(292, se_a43,se_v43),(293, se_a45,se_v45),(292, se_a46,se_v46),(56, se_a51,se_v51),(110, se_a53,se_v53),(157, se_a55,se_v55),(300, se_a56,se_v56),(161, se_a59,se_v59),(162, se_a60,se_v60),(300, se_a61,se_v61),(371, se_a63,se_v63),(56, se_a65,se_v65),(103, se_a66,se_v66),(300, se_a70,se_v70),(308, se_a71,se_v71)]
noncomputable def seM1:Ctx:=memo X2 seT1
def seT2:List (FuncId × List D × V):=[(207, se_a3,se_v3),(109, se_a9,se_v9),(220, se_a18,se_v18),(347, se_a23,se_v23),(348, se_a27,se_v27),(351, se_a28,se_v28),(351, se_a31,se_v31),(56, se_a33,se_v33),(183, se_a36,se_v36),(220, se_a57,se_v57),(347, se_a62,se_v62),(348, se_a64,se_v64),(56, se_a67,se_v67)]
noncomputable def seM2:Ctx:=memo seM1 seT2
def seT3:List (FuncId × List D × V):=[(79, se_a5,se_v5),(31, se_a10,se_v10),(160, se_a19,se_v19),(305, se_a34,se_v34),(207, se_a37,se_v37),(213, se_a44,se_v44),(109, se_a47,se_v47),(160, se_a58,se_v58),(305, se_a68,se_v68),(306, se_a69,se_v69)]
noncomputable def seM3:Ctx:=memo seM2 seT3
def seT4:List (FuncId × List D × V):=[(306, se_a38,se_v38),(213, se_a48,se_v48),(31, se_a52,se_v52),(227, se_a72,se_v72)]
noncomputable def seM4:Ctx:=memo seM3 seT4
def seT5:List (FuncId × List D × V):=[(227, se_a41,se_v41),(11, se_a54,se_v54),(164, se_a73,se_v73)]
noncomputable def seM5:Ctx:=memo seM4 seT5
def seT6:List (FuncId × List D × V):=[(164, se_a49,se_v49),(94, se_a74,se_v74)]
noncomputable def seM6:Ctx:=memo seM5 seT6
def seT7:List (FuncId × List D × V):=[(94, se_a50,se_v50)]
noncomputable def seM7:Ctx:=memo seM6 seT7
end Go.Proofs.YtdbmhmembmgndaaGreatDoor.Pv
