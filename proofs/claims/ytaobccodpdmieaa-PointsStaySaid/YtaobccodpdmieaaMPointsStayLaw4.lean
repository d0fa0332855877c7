/- Lemmas for the law PointsStayLaw: texts of mine, merged. -/
import Derived.Test.YtaobccodpdmieaaChecked
import Derived.Below
import Derived.Carry
import Derived.ProofKit
import Derived.OpenShut
import Derived.Deep.Slices
import Derived.SizedLaws
import Derived.Lib.SplitLaws
import Derived.Test.YtaobccodpdmieaaMPointsStayLaw3
set_option linter.unusedSimpArgs false
set_option linter.unusedVariables false
set_option maxHeartbeats 4000000
namespace Go.Proofs.Ytaobccodpdmieaa.Pv
open Go
def callNone:CallF:=⟨fun _ _=>none,fun _ _ _=>none⟩
theorem valOp_nocall {X:Ctx} {call:CallF} {ρ:Operand→V} {h:List Ob} {o:Oper} {v:V} (hv:valOp X callNone ρ h o = some v):valOp X call ρ h o = some v:=by
  unfold valOp at hv ⊢
  cases hop:o.op <;> simp only [hop] at hv ⊢ <;> try exact hv
  rename_i c
  cases hc:c.callee with
  | value f =>
    simp only [hc] at hv
    split at hv
    · split at hv
      · simp [callNone] at hv
      · cases hv
    · cases hv
  | invoke r m=>simp [hc] at hv
  | builtin b=>cases b <;> simp only [hc] at hv ⊢ <;> exact hv
theorem stepOp_nocall {X:Ctx} {call:CallF} {base:Nat} {o:Oper} {st st':St} (ho:(∀ c f,o.op = .call c→c.callee ≠ .value f)) (h:stepOp X callNone base o st = some st'):stepOp X call base o st = some st':=by
  unfold stepOp at h ⊢
  have hv:valOp X call (st.get X) st.h o = valOp X callNone (st.get X) st.h o:=by
    unfold valOp
    cases hop:o.op <;> try rfl
    rename_i c
    cases hc:c.callee with
    | value f=>exact (ho c _ hop hc).elim
    | invoke r m=>simp only [hc]
    | builtin b=>cases b <;> simp only [hc]
  rw [hv]
  split
  · rename_i v hvv
    rw [hvv] at h
    exact h
  · rename_i hvv
    rw [hvv] at h
    simp only at h ⊢
    cases hop:o.op <;> simp only [hop] at h ⊢ <;> try exact h
    rename_i c
    cases hc:c.callee with
    | value f=>exact (ho c _ hop hc).elim
    | invoke r m=>simp [hc] at h
    | builtin b=>cases b <;> simp only [hc] at h ⊢ <;> first | exact h | cases h
end Go.Proofs.Ytaobccodpdmieaa.Pv
namespace Go.Proofs.Ytaobccodpdmieaa.Pv.G
open Go Pv
abbrev Fact:=CallF→Prop
inductive What where
  | b (x:Bool)
  | v (x:V)
  | c (x:V) (h:List Ob)
  | l (e:Ex) (st:St)
structure T where
  n:Nat
  ask:Bool
  os:List (Nat × What)
  cs:List Fact
inductive Info where
  | b (v:V)
  | v (x:Option V)
  | load (t:TypeId) (p:V) (h:List Ob)
  | iaddr (t:TypeId) (x i:V)
  | index (t:TypeId) (x i:V)
  | slice (t:TypeId) (x:V) (lo hi mx:Option V)
  | field (t:TypeId) (x:V) (f:Nat)
  | bin (op:BinOp) (t:TypeId) (x y:V)
  | append (t u:TypeId) (s x:V)
  | conv (s t:TypeId) (x:V)
  | look (t:TypeId) (es:Option (List (D × D))) (k:V) (ok:Bool)
  | call (f:FuncId) (args:List V)
  | calli (f:FuncId) (args:List V) (h:List Ob)
  | l (base N:Nat) (keep:List Nat) (b:AC) (st:St)
inductive Out (α:Type) where
  | ok (a:α) (t:T)
  | stop (i:Info) (n:Nat) (k:Option What→Out α)
  | bad (why n:Nat)
def Out.bind {α β:Type} (o:Out α) (f:α→T→Out β):Out β :=
  match o with
  | .ok a t=>f a t
  | .stop i n k=>.stop i n fun w=>(k w).bind f
  | .bad w n=>.bad w n
theorem Out.bind_ok {α β:Type} {o:Out α} {f:α→T→Out β} {b:β} {t':T} (h:o.bind f = .ok b t'):∃ a t,o = .ok a t∧f a t = .ok b t':=by
  cases o with
  | ok a t=>exact ⟨a,t,rfl,h⟩
  | _=>simp [Out.bind] at h
def T.next (t:T):T:={ n:=t.n + 1,ask:=t.ask,os:=t.os,cs:=t.cs }
def T.add (t:T) (c:Fact):T:={ n:=t.n,ask:=t.ask,os:=t.os,cs:=c :: t.cs }
def T.told (t:T):Option (What × T) :=
  match t.os with
  | (m,w) :: os=>if m == t.n then some (w,{ n:=t.n + 1,ask:=t.ask,os:=os,cs:=t.cs }) else none
  | []=>none
def All (Q:Fact→Prop):List Fact→Prop
  | []=>True
  | c :: cs=>Q c∧All Q cs
def ev {α:Type} (t:T) (i:Info) (dflt:T→Out α) (use:What→T→Out α):Out α :=
  match t.told with
  | some (w,t')=>use w t'
  | none=>if t.ask then .stop i t.n fun
      | none=>dflt t.next
      | some w=>use w t.next
    else dflt t.next
theorem ev_ok {α:Type} {t t'':T} {i:Info} {dflt:T→Out α} {use:What→T→Out α} {a:α} (h:ev t i dflt use = .ok a t''):(∃ w t',t'.cs = t.cs∧use w t' = .ok a t'')∨(∃ t',t'.cs = t.cs∧dflt t' = .ok a t''):=by
  unfold ev at h
  split at h
  · rename_i w t' ht
    refine .inl ⟨w,t',?_,h⟩
    unfold T.told at ht
    split at ht
    · split at ht
      · simp only [Option.some.injEq,Prod.mk.injEq] at ht;rw [← ht.2]
      · cases ht
    · cases ht
  · split at h
    · cases h
    · exact .inr ⟨t.next,rfl,h⟩
section
variable {call:CallF} {Q:Fact→Prop} (hQ:∀ c,Q c→c call)
def boolG (v:V) (t:T):Out Bool :=
  ev t (.b v)
    (fun t=>match v with
      | .d (.bool b)=>match b with
        | true=>.ok true t
        | false=>.ok false t
      | _=>.bad 3 t.n)
    (fun w t=>match w with
      | .b x=>match v with
        | .d (.bool b)=>.ok x (t.add fun _=>b = x)
        | _=>.bad 1 t.n
      | _=>.bad 2 t.n)
include hQ in
theorem boolG_sound {v:V} {t t':T} {x:Bool} (h:boolG v t = .ok x t') (hc:All Q t'.cs):v = .d (.bool x)∧All Q t.cs:=by
  unfold boolG at h
  rcases ev_ok h with ⟨w,t1,ht,h⟩ | ⟨t1,ht,h⟩
  · split at h
    · split at h
      · simp only [Out.ok.injEq] at h
        obtain ⟨rfl,rfl⟩:=h
        simp only [T.add] at hc
        exact ⟨by rw [hQ _ hc.1],by rw [← ht];exact hc.2⟩
      · cases h
    · cases h
  · split at h
    · split at h <;>
      · simp only [Out.ok.injEq] at h
        obtain ⟨rfl,rfl⟩:=h
        exact ⟨rfl,by rw [← ht];exact hc⟩
    · cases h
abbrev CallG:=FuncId→List V→List Ob→T→Out (V × List Ob)
structure CallOf (call:CallF) (B:FuncId→List V→List Ob→Option (V × List Ob)):Prop where
  p:∀ g args v h',args.all V.pure = true→B g args [] = some (v,h')→v.pure = true→call.p g args = some v
  q:∀ g args v h',args.all V.pure = true→B g args [] = some (v,h')→v.pure = false→call.p g args = none∧∀ h,call.i g args h = some (v.shift h.length,h ++ h'.map (Ob.shift h.length))
  i:∀ g args v h h',args.all V.pure = false→B g args h = some (v,h')→call.i g args h = some (if v.pure then (v,h'.take h.length) else (v,h'))
def calleeG (ρ:Operand→V) (o:Oper):Option (FuncId × List V) :=
  match o.op with
  | .call c=>match c.callee with
    | .value f=>match calleeOf (ρ f) with
      | some (g,a,b)=>some (g,a ++ copies ρ c.args ++ b)
      | none=>none
    | _=>none
  | _=>none
theorem calleeG_val {X:Ctx} {ρ:Operand→V} {h:List Ob} {o:Oper} {g:FuncId} {args:List V} (hc:calleeG ρ o = some (g,args)):valOp X call ρ h o = if args.all V.pure then call.p g args else none:=by
  unfold calleeG at hc
  split at hc
  · rename_i c hop
    split at hc
    · rename_i f hf
      split at hc
      · rename_i g' a b hce
        simp only [Option.some.injEq,Prod.mk.injEq] at hc
        obtain ⟨rfl,rfl⟩:=hc
        unfold valOp
        rw [hop]
        simp only [hf,hce]
      · cases hc
    · cases hc
  · cases hc
theorem calleeG_step {X:Ctx} {base:Nat} {o:Oper} {st:St} {g:FuncId} {args:List V} (hc:calleeG (st.get X) o = some (g,args)) (hn:valOp X call (st.get X) st.h o = none) :
    stepOp X call base o st = (call.i g args st.h).map fun r=>{ s:=st.s,h:=r.2,og:=[]:St }.put o.dst r.1:=by
  unfold calleeG at hc
  split at hc
  · rename_i c hop
    split at hc
    · rename_i f hf
      split at hc
      · rename_i g' a b hce
        simp only [Option.some.injEq,Prod.mk.injEq] at hc
        obtain ⟨rfl,rfl⟩:=hc
        unfold stepOp
        rw [hn]
        simp only [hop,hf,hce]
      · cases hc
    · cases hc
  · cases hc
def one1 (a:V):Operand→V:=fun _=>a
def two2 (a b:V):Operand→V
  | .tmp 0=>a
  | _=>b
def four4 (a b c d:V):Operand→V
  | .tmp 0=>a
  | .tmp 1=>b
  | .tmp 2=>c
  | _=>d
def loadV (X:Ctx) (h:List Ob) (t:TypeId) (p:V):Option V:=loadOp X (one1 p) h t (.tmp 0)
def iaddrV (X:Ctx) (t:TypeId) (x i:V):Option V:=indexAddrOp X (two2 x i) t (.tmp 0) (.tmp 1)
def indexV (X:Ctx) (t:TypeId) (x i:V):Option V :=
  match X.P.underlying t,x,i with
  | some (.array n e),.d (.agg cs),.d (.int _ k) =>
    match sizeT X.P e with
    | some z=>if 0≤k∧k < n then (partD X.P e cs (k.toNat * z)).map .d else none
    | none=>none
  | some .string,.d (.str s),.d (.int _ k) =>
    if 0≤k then (s[k.toNat]?).map fun b=>.d (.int .u8 b.toNat) else none
  | _,_,_=>none
def sliceV (X:Ctx) (t:TypeId) (x:V) (lo hi mx:Option V):Option V :=
  sliceOp X (four4 x (lo.getD und) (hi.getD und) (mx.getD und)) t (.tmp 0) (lo.map fun _=>.tmp 1) (hi.map fun _=>.tmp 2) (mx.map fun _=>.tmp 3)
def fieldV (X:Ctx) (t:TypeId) (x:V) (f:Nat):Option V :=
  match fieldT X.P t f,x with
  | some (off,ft),.d (.agg cs)=>(partD X.P ft cs off).map .d
  | some (off,ft),.agg vs=>partV X.P ft vs off
  | _,_=>none
theorem sliceV_eq {X:Ctx} {ρ:Operand→V} {t:TypeId} {x:Operand} {lo hi mx:Option Operand}:sliceV X t (ρ x) (lo.map ρ) (hi.map ρ) (mx.map ρ) = sliceOp X ρ t x lo hi mx:=by
  unfold sliceV sliceOp
  have b0:four4 (ρ x) ((lo.map ρ).getD und) ((hi.map ρ).getD und) ((mx.map ρ).getD und) (.tmp 0) = ρ x:=rfl
  have b1:∀ n,boundOf (four4 (ρ x) ((lo.map ρ).getD und) ((hi.map ρ).getD und) ((mx.map ρ).getD und)) n ((lo.map ρ).map fun _=>Operand.tmp 1) = boundOf ρ n lo:=fun n=>by cases lo <;> rfl
  have b2:∀ n,boundOf (four4 (ρ x) ((lo.map ρ).getD und) ((hi.map ρ).getD und) ((mx.map ρ).getD und)) n ((hi.map ρ).map fun _=>Operand.tmp 2) = boundOf ρ n hi:=fun n=>by cases hi <;> rfl
  have b3:∀ n,boundOf (four4 (ρ x) ((lo.map ρ).getD und) ((hi.map ρ).getD und) ((mx.map ρ).getD und)) n ((mx.map ρ).map fun _=>Operand.tmp 3) = boundOf ρ n mx:=fun n=>by cases mx <;> rfl
  have c2:((hi.map ρ).map fun _=>Operand.tmp 2).isSome = hi.isSome:=by cases hi <;> rfl
  have c3:((mx.map ρ).map fun _=>Operand.tmp 3).isSome = mx.isSome:=by cases mx <;> rfl
  have c4:((mx.map ρ).map fun _=>Operand.tmp 3).isNone = mx.isNone:=by cases mx <;> rfl
  simp only [b0,b1,b2,b3,c2,c3,c4]
  cases mx with
  | none=>rfl
  | some m=>simp only [Option.map_some];rfl
def binV (X:Ctx) (op:BinOp) (t:TypeId) (x y:V):Option V:=valOp X callNone (two2 x y) [] ⟨none,.binOp op t (.tmp 0) (.tmp 1) t,t, "", #[],none⟩
theorem binV_eq {X:Ctx} {ρ:Operand→V} {h:List Ob} {o:Oper} {op:BinOp} {t u:TypeId} {x y:Operand} (ho:o.op = .binOp op t x y u) (hop:(match op with | .eql | .neq=>false | _=>true) = true):binV X op t (ρ x) (ρ y) = valOp X callNone ρ h o:=by
  have e1:two2 (ρ x) (ρ y) (.tmp 0) = ρ x:=rfl
  have e2:two2 (ρ x) (ρ y) (.tmp 1) = ρ y:=rfl
  have e0:∀ (f g:Operand→Value),g (.tmp 0) = f x→g (.tmp 1) = f y→execOp g ⟨none,.binOp op t (.tmp 0) (.tmp 1) t,t, "", #[],none⟩ = execOp f o:=by
    intro f g h1 h2
    unfold execOp
    rw [ho]
    simp only [h1,h2]
    cases op <;> first | rfl | cases hop
  unfold binV valOp
  rw [ho]
  simp only [e1,e2]
  have e3:pureOp X (two2 (ρ x) (ρ y)) ⟨none,.binOp op t (.tmp 0) (.tmp 1) t,t, "", #[],none⟩ = pureOp X ρ o:=by
    unfold pureOp
    rw [e0 (fun z=>(((ρ z).toD).bind D.toVal).getD undef) _ (by rw [e1]) (by rw [e2]),ho]
    simp only [Op.operands]
    congr 1
  rw [e3]
def askV (X:Ctx) (ρ:Operand→V) (h:List Ob) (o:Oper):Option V :=
  match o.op with
  | .load t p=>loadV X h t (ρ p)
  | .indexAddr t x i=>iaddrV X t (ρ x) (ρ i)
  | .index t x i=>indexV X t (ρ x) (ρ i)
  | .slice t x lo hi mx=>sliceV X t (ρ x) (lo.map ρ) (hi.map ρ) (mx.map ρ)
  | .field t x f=>fieldV X t (ρ x) f
  | .binOp op t x y _=>match op with
    | .eql | .neq=>valOp X callNone ρ h o
    | _=>binV X op t (ρ x) (ρ y)
  | _=>valOp X callNone ρ h o
theorem askV_eq {X:Ctx} {ρ:Operand→V} {h:List Ob} {o:Oper}:askV X ρ h o = valOp X callNone ρ h o:=by
  by_cases hb:∃ op t x y u,o.op = .binOp op t x y u
  · obtain ⟨op,t,x,y,u,ho⟩:=hb
    unfold askV
    rw [ho]
    simp only
    split
    · rfl
    · rfl
    · rename_i h1 h2
      refine binV_eq ho ?_
      cases op <;> first | rfl | exact (h1 rfl).elim | exact (h2 rfl).elim
  · unfold askV valOp
    cases ho:o.op <;> try rfl
    · exact (hb ⟨_,_,_,_,_,ho⟩).elim
    · exact sliceV_eq
def worth (o:Oper):Bool :=
  match o.op with
  | .load .. | .indexAddr .. | .index .. | .slice .. | .field .. | .convert .. | .binOp .. => true
  | .call c=>match c.callee with
    | .builtin .len=>true
    | _=>false
  | _=>false
def infoOf (X:Ctx) (ρ:Operand→V) (h:List Ob) (o:Oper):Info :=
  match o.op with
  | .load t p=>.load t (ρ p) h
  | .indexAddr t x i=>.iaddr t (ρ x) (ρ i)
  | .index t x i=>.index t (ρ x) (ρ i)
  | .slice t x lo hi mx=>.slice t (ρ x) (lo.map ρ) (hi.map ρ) (mx.map ρ)
  | .field t x f=>.field t (ρ x) f
  | .binOp op t x y _=>.bin op t (ρ x) (ρ y)
  | _=>.v (valOp X callNone ρ h o)
def valG (X:Ctx) (cg:CallG) (ρ:Operand→V) (h:List Ob) (o:Oper) (t:T):Out V :=
  match o.op with
  | .pick c a b=>(boolG (ρ c) t).bind fun x t=>.ok (ρ (if x then a else b)).copy t
  | _ =>
    match calleeG ρ o with
    | some (g,args) =>
      if args.all V.pure then
        ev t (.call g args)
          (fun t=>(cg g args [] t).bind fun r t=>if r.1.pure then .ok r.1 t else .bad 5 t.n)
          (fun w t=>match w with
            | .v x=>.ok x (t.add fun call=>call.p g args = some x)
            | _=>.bad 4 t.n)
      else .bad 6 t.n
    | none =>
      if worth o then
        ev t (infoOf X ρ h o)
          (fun t=>match valOp X callNone ρ h o with
            | some v=>.ok v t
            | none=>.bad 8 t.n)
          (fun w t=>match w with
            | .v x=>.ok x (t.add fun _=>askV X ρ h o = some x)
            | _=>.bad 7 t.n)
      else match valOp X callNone ρ h o with
        | some v=>.ok v t
        | none=>.bad 9 t.n
variable {B:FuncId→List V→List Ob→Option (V × List Ob)} (hB:CallOf call B) {cg:CallG} (hcg:∀ g args h t r t',cg g args h t = .ok r t' → All Q t'.cs→B g args h = some r∧All Q t.cs)
include hQ hB hcg in
theorem valG_sound {X:Ctx} {ρ:Operand→V} {h:List Ob} {o:Oper} {t t':T} {v:V} (hv:valG X cg ρ h o t = .ok v t') (hc:All Q t'.cs):valOp X call ρ h o = some v∧All Q t.cs:=by
  unfold valG at hv
  split at hv
  · rename_i c a b hop
    obtain ⟨x,t1,h1,h2⟩:=Out.bind_ok hv
    simp only [Out.ok.injEq] at h2
    obtain ⟨rfl,rfl⟩:=h2
    obtain ⟨k1,k2⟩:=boolG_sound hQ h1 hc
    refine ⟨?_,k2⟩
    unfold valOp
    rw [hop]
    simp only [k1]
  · split at hv
    · rename_i g args hcal
      split at hv
      · rename_i hp
        have key:∀ u,call.p g args = some u→valOp X call ρ h o = some u:=fun u hu=>by rw [calleeG_val hcal,if_pos hp,hu]
        rcases ev_ok hv with ⟨w,t1,ht,hv⟩ | ⟨t1,ht,hv⟩
        · split at hv
          · simp only [Out.ok.injEq] at hv
            obtain ⟨rfl,rfl⟩:=hv
            simp only [T.add] at hc
            exact ⟨key _ (hQ _ hc.1),by rw [← ht];exact hc.2⟩
          · cases hv
        · obtain ⟨r,t2,h1,h2⟩:=Out.bind_ok hv
          split at h2
          · rename_i hpu
            simp only [Out.ok.injEq] at h2
            obtain ⟨rfl,rfl⟩:=h2
            obtain ⟨k1,k2⟩:=hcg _ _ _ _ _ _ h1 hc
            exact ⟨key _ (hB.p _ _ _ r.2 hp k1 hpu),by rw [← ht];exact k2⟩
          · cases h2
      · cases hv
    · split at hv
      · rcases ev_ok hv with ⟨w,t1,ht,hv⟩ | ⟨t1,ht,hv⟩
        · split at hv
          · simp only [Out.ok.injEq] at hv
            obtain ⟨rfl,rfl⟩:=hv
            simp only [T.add] at hc
            exact ⟨valOp_nocall (askV_eq.symm.trans (hQ _ hc.1)),by rw [← ht];exact hc.2⟩
          · cases hv
        · split at hv
          · rename_i u hu
            simp only [Out.ok.injEq] at hv
            obtain ⟨rfl,rfl⟩:=hv
            exact ⟨valOp_nocall hu,by rw [← ht];exact hc⟩
          · cases hv
      · split at hv
        · rename_i u hu
          simp only [Out.ok.injEq] at hv
          obtain ⟨rfl,rfl⟩:=hv
          exact ⟨valOp_nocall hu,hc⟩
        · cases hv
def isEff (o:Oper):Bool :=
  match o.op with
  | .assign _ | .alloc _ | .box .. | .store .. => true
  | .call c=>match c.callee with
    | .builtin .append=>true
    | _=>false
  | _=>false
def appArgs (o:Oper):Option (TypeId × TypeId × Operand × Operand) :=
  match o.op with
  | .call c=>match c.callee with
    | .builtin .append=>match c.args.toList,c.argTypes.toList with
      | [s,x],[t,u]=>some (t,u,s,x)
      | _,_=>none
    | _=>none
  | _=>none
def appTarget (X:Ctx) (st:St) (s:Operand):Option (V × St) :=
  match st.get X s with
  | .d .nilsl=>some (.d .nilsl,st)
  | .full c n=>some (.full c n,st)
  | .tail E c n=>match s with
    | .tmp ts=>some (.tail E c n,locCopy st (.slot ts))
    | _=>none
  | _=>match ogOf st s with
    | some l=>match locGet st l with
      | some (.tail E c n)=>some (.tail E c n,locCopy st l)
      | _=>none
    | none=>none
def appendV (X:Ctx) (t u:TypeId) (s x:V):Option V :=
  match elemT X.P t,(elemT X.P t).bind (X.P.info? ·),srcOf X.P u x with
  | some E,some i,some (cs,m) =>
    if i.size != 0 && cs.length == m * i.size && cs.all D.one && (zeroT X.P E).any (fun z=>z.cells.length == i.size) then
      let go:=fun (c:List D) (n:Nat)=>if (n + m) * i.bytes≤bigLen∧n + m≤bigLen then some (V.tail E (c ++ cs) (n + m)) else none
      match s with
      | .d .nilsl=>if m = 0 then some (.d .nilsl) else go [] 0
      | .full c n=>if m = 0 then some (.full c n) else if c.length = n * i.size∧c.all D.one then go c n else none
      | .tail E' c n=>if E' = E∧c.length = n * i.size then go c n else none
      | _=>none
    else none
  | _,_,_=>none
theorem appendV_op {X:Ctx} {st st':St} {t u:TypeId} {s x:Operand} {sv v:V} (h1:appTarget X st s = some (sv,st')) (h2:appendV X t u sv (st.get X x) = some v):appendOp X st t u s x = some (st',v):=by
  unfold appendV at h2
  unfold appendOp
  split at h2
  · rename_i E i cs m e1 e2 e3
    rw [e2,e3,e1]
    simp only
    split at h2
    · rename_i hg
      rw [if_pos hg]
      simp only at h2 ⊢
      unfold appTarget at h1
      split at h1
      · rename_i hs
        simp only [Option.some.injEq,Prod.mk.injEq] at h1
        obtain ⟨rfl,rfl⟩:=h1
        simp only [hs]
        simp only at h2
        split at h2
        · rename_i hm
          rw [if_pos hm]
          rw [Option.some.injEq] at h2
          rw [h2]
        · rename_i hm
          rw [if_neg hm,h2]
          rfl
      · rename_i c n hs
        simp only [Option.some.injEq,Prod.mk.injEq] at h1
        obtain ⟨rfl,rfl⟩:=h1
        simp only [hs]
        simp only at h2
        split at h2
        · rename_i hm
          rw [if_pos hm]
          rw [Option.some.injEq] at h2
          rw [h2]
        · rename_i hm
          rw [if_neg hm]
          split at h2
          · rename_i hk
            rw [if_pos hk,h2]
            rfl
          · cases h2
      · rename_i E' c n hs
        split at h1
        · rename_i ts
          simp only [Option.some.injEq,Prod.mk.injEq] at h1
          obtain ⟨rfl,rfl⟩:=h1
          simp only [hs]
          simp only at h2
          split at h2
          · rename_i hk
            rw [if_pos hk,h2]
            rfl
          · cases h2
        · cases h1
      · rename_i n1 n2 n3
        split at h1
        · rename_i l hl
          split at h1
          · rename_i E' c n hg2
            simp only [Option.some.injEq,Prod.mk.injEq] at h1
            obtain ⟨rfl,rfl⟩:=h1
            simp only at h2
            split
            · rename_i hs;exact (n1 hs).elim
            · rename_i c n hs;exact (n2 _ _ hs).elim
            · rename_i hs;exact (n3 _ _ _ hs).elim
            · simp only [hl,hg2]
              split at h2
              · rename_i hk
                rw [if_pos hk,h2]
                rfl
              · cases h2
          · cases h1
        · cases h1
    · cases h2
  · cases h2
theorem appArgs_step {X:Ctx} {call:CallF} {base:Nat} {o:Oper} {st st':St} {t u:TypeId} {s x:Operand} {v:V} (ha:appArgs o = some (t,u,s,x)) (h:appendOp X st t u s x = some (st',v)):stepOp X call base o st = some (st'.put o.dst v):=by
  unfold appArgs at ha
  split at ha
  · rename_i c hop
    split at ha
    · rename_i hcal
      split at ha
      · rename_i s' x' t' u' h1 h2
        simp only [Option.some.injEq,Prod.mk.injEq] at ha
        obtain ⟨rfl,rfl,rfl,rfl⟩:=ha
        have hv:valOp X call (st.get X) st.h o = none:=by
          unfold valOp
          rw [hop]
          simp only [hcal]
        unfold stepOp
        rw [hv]
        simp only [hop,hcal,h1,h2,h]
        rfl
      · cases ha
    · cases ha
  · cases ha
def stepG (X:Ctx) (cg:CallG) (base:Nat) (o:Oper) (st:St) (t:T):Out St :=
  match appArgs o with
  | some (ty,u,s,x)=>match appTarget X st s with
    | some (sv,st')=>ev t (.append ty u sv (st.get X x))
        (fun t=>match appendV X ty u sv (st.get X x) with
          | some v=>.ok (st'.put o.dst v) t
          | none=>.bad 32 t.n)
        (fun w t=>match w with
          | .v y=>.ok (st'.put o.dst y) (t.add fun _=>appendV X ty u sv (st.get X x) = some y)
          | _=>.bad 31 t.n)
    | none=>.bad 33 t.n
  | none =>
  if isEff o then
    match stepOp X callNone base o st with
    | some st' => .ok st' t
    | none=>.bad 10 t.n
  else
    match calleeG (st.get X) o with
    | some (g,args) =>
      if args.all V.pure then
        ev t (.call g args)
          (fun t=>(cg g args [] t).bind fun r t =>
            if r.1.pure then .ok (st.put o.dst r.1) t
            else .ok ({ s:=st.s,h:=st.h ++ r.2.map (Ob.shift st.h.length),og:=[]:St }.put o.dst (r.1.shift st.h.length)) t)
          (fun w t=>match w with
            | .v x=>.ok (st.put o.dst x) (t.add fun call=>call.p g args = some x)
            | .c x h' => .ok ({ s:=st.s,h:=h',og:=[]:St }.put o.dst x) (t.add fun call=>(args.all V.pure = true→call.p g args = none)∧call.i g args st.h = some (x,h'))
            | _=>.bad 13 t.n)
      else
        ev t (.calli g args st.h)
          (fun t=>(cg g args st.h t).bind fun r t =>
            if r.1.pure then .ok ({ s:=st.s,h:=r.2.take st.h.length,og:=[]:St }.put o.dst r.1) t
            else .ok ({ s:=st.s,h:=r.2,og:=[]:St }.put o.dst r.1) t)
          (fun w t=>match w with
            | .c x h' => .ok ({ s:=st.s,h:=h',og:=[]:St }.put o.dst x) (t.add fun call=>(args.all V.pure = true→call.p g args = none)∧call.i g args st.h = some (x,h'))
            | _=>.bad 14 t.n)
    | none=>(valG X cg (st.get X) st.h o t).bind fun v t =>
      match o.op with
      | .move (.tmp u)=>.ok (setOg (st.put o.dst v) o.dst (.slot u)) t
      | .load ty p=>match isAggT X.P ty,st.get X p with
        | false,.obj id off=>.ok (setOg (st.put o.dst v) o.dst (.cell id off)) t
        | _,_=>.ok (st.put o.dst v) t
      | _=>.ok (st.put o.dst v) t
theorem isEff_nocall {o:Oper} (h:isEff o = true):∀ c f,o.op = .call c→c.callee ≠ .value f:=by
  intro c f hop hf
  unfold isEff at h
  rw [hop] at h
  simp [hf] at h
theorem calleeG_nomove {ρ:Operand→V} {o:Oper} {g:FuncId} {args:List V} (hc:calleeG ρ o = some (g,args)):(∀ u,o.op ≠ .move u)∧(∀ t p,o.op ≠ .load t p):=by
  unfold calleeG at hc
  split at hc
  · rename_i c hop;constructor <;> · intros;rw [hop];simp
  · cases hc
include hQ hB hcg in
theorem stepG_sound {X:Ctx} {base:Nat} {o:Oper} {st st':St} {t t':T} (h:stepG X cg base o st t = .ok st' t') (hc:All Q t'.cs):stepOp X call base o st = some st' ∧ All Q t.cs:=by
  unfold stepG at h
  split at h
  · rename_i ty u s x ha
    split at h
    · rename_i sv s1 hs1
      rcases ev_ok h with ⟨w,t1,ht,h⟩ | ⟨t1,ht,h⟩
      · split at h
        · simp only [Out.ok.injEq] at h
          obtain ⟨rfl,rfl⟩:=h
          simp only [T.add] at hc
          exact ⟨appArgs_step ha (appendV_op hs1 (hQ _ hc.1)),by rw [← ht];exact hc.2⟩
        · cases h
      · split at h
        · rename_i v hv
          simp only [Out.ok.injEq] at h
          obtain ⟨rfl,rfl⟩:=h
          exact ⟨appArgs_step ha (appendV_op hs1 hv),by rw [← ht];exact hc⟩
        · cases h
    · cases h
  rename_i hna
  split at h
  · rename_i he
    have ho:=isEff_nocall he
    split at h
    · rename_i u hu
      simp only [Out.ok.injEq] at h
      obtain ⟨rfl,rfl⟩:=h
      exact ⟨stepOp_nocall ho hu,hc⟩
    · cases h
  · rename_i he
    split at h
    · rename_i g args hcal
      have hput:∀ x,valOp X call (st.get X) st.h o = some x→stepOp X call base o st = some (st.put o.dst x):=by
        intro x hx
        obtain ⟨n1,n2⟩:=calleeG_nomove hcal
        unfold stepOp
        rw [hx]
        simp only
        split
        · rename_i u hop;exact (n1 _ hop).elim
        · rename_i u p hop;exact (n2 _ _ hop).elim
        · rfl
      have hcalli:∀ x h',(args.all V.pure = true→call.p g args = none)→call.i g args st.h = some (x,h')→stepOp X call base o st = some ({ s:=st.s,h:=h',og:=[]:St }.put o.dst x):=by
        intro x h' h1 h2
        have hn:valOp X call (st.get X) st.h o = none:=by
          rw [calleeG_val hcal]
          split
          · rename_i hp;exact h1 hp
          · rfl
        rw [calleeG_step hcal hn,h2]
        rfl
      split at h
      · rename_i hp
        rcases ev_ok h with ⟨w,t1,ht,h⟩ | ⟨t1,ht,h⟩
        · split at h
          · simp only [Out.ok.injEq] at h
            obtain ⟨rfl,rfl⟩:=h
            simp only [T.add] at hc
            refine ⟨hput _ ?_,by rw [← ht];exact hc.2⟩
            rw [calleeG_val hcal,if_pos hp]
            exact hQ _ hc.1
          · simp only [Out.ok.injEq] at h
            obtain ⟨rfl,rfl⟩:=h
            simp only [T.add] at hc
            obtain ⟨k1,k2⟩:=hQ _ hc.1
            exact ⟨hcalli _ _ k1 k2,by rw [← ht];exact hc.2⟩
          · cases h
        · obtain ⟨r,t2,h1,h2⟩:=Out.bind_ok h
          split at h2
          · rename_i hpu
            simp only [Out.ok.injEq] at h2
            obtain ⟨rfl,rfl⟩:=h2
            obtain ⟨k1,k2⟩:=hcg _ _ _ _ _ _ h1 hc
            refine ⟨hput _ ?_,by rw [← ht];exact k2⟩
            rw [calleeG_val hcal,if_pos hp]
            exact hB.p _ _ _ r.2 hp k1 hpu
          · rename_i hpu
            simp only [Out.ok.injEq] at h2
            obtain ⟨rfl,rfl⟩:=h2
            obtain ⟨k1,k2⟩:=hcg _ _ _ _ _ _ h1 hc
            obtain ⟨k3,k4⟩:=hB.q _ _ _ r.2 hp k1 (by simpa using hpu)
            exact ⟨hcalli _ _ (fun _=>k3) (k4 _),by rw [← ht];exact k2⟩
      · rename_i hp
        have hp':args.all V.pure = false:=by simpa using hp
        rcases ev_ok h with ⟨w,t1,ht,h⟩ | ⟨t1,ht,h⟩
        · split at h
          · simp only [Out.ok.injEq] at h
            obtain ⟨rfl,rfl⟩:=h
            simp only [T.add] at hc
            obtain ⟨k1,k2⟩:=hQ _ hc.1
            exact ⟨hcalli _ _ k1 k2,by rw [← ht];exact hc.2⟩
          · cases h
        · obtain ⟨r,t2,h1,h2⟩:=Out.bind_ok h
          split at h2
          · rename_i hpu
            simp only [Out.ok.injEq] at h2
            obtain ⟨rfl,rfl⟩:=h2
            obtain ⟨k1,k2⟩:=hcg _ _ _ _ _ _ h1 hc
            have k3:=hB.i _ _ _ _ r.2 hp' k1
            rw [if_pos hpu] at k3
            exact ⟨hcalli _ _ (fun h=>absurd h hp) k3,by rw [← ht];exact k2⟩
          · rename_i hpu
            simp only [Out.ok.injEq] at h2
            obtain ⟨rfl,rfl⟩:=h2
            obtain ⟨k1,k2⟩:=hcg _ _ _ _ _ _ h1 hc
            have k3:=hB.i _ _ _ _ r.2 hp' k1
            rw [if_neg hpu] at k3
            exact ⟨hcalli _ _ (fun h=>absurd h hp) k3,by rw [← ht];exact k2⟩
    · obtain ⟨v,t1,hv,h⟩:=Out.bind_ok h
      unfold stepOp
      split at h
      · rename_i u hop
        simp only [Out.ok.injEq] at h
        obtain ⟨rfl,rfl⟩:=h
        obtain ⟨h1,h2⟩:=valG_sound hQ hB hcg hv hc
        rw [h1]
        simp only [hop]
        exact ⟨trivial,h2⟩
      · rename_i u p hop
        split at h
        · rename_i id off hag hp
          simp only [Out.ok.injEq] at h
          obtain ⟨rfl,rfl⟩:=h
          obtain ⟨h1,h2⟩:=valG_sound hQ hB hcg hv hc
          rw [h1]
          simp only [hop,hag,hp]
          exact ⟨trivial,h2⟩
        · rename_i hne
          simp only [Out.ok.injEq] at h
          obtain ⟨rfl,rfl⟩:=h
          obtain ⟨h1,h2⟩:=valG_sound hQ hB hcg hv hc
          rw [h1]
          simp only [hop]
          exact ⟨by first | trivial | (split <;> first | rfl | (rename_i hag hp;exact (hne _ _ hag hp).elim)),h2⟩
      · rename_i hn1 hn2
        simp only [Out.ok.injEq] at h
        obtain ⟨rfl,rfl⟩:=h
        obtain ⟨h1,h2⟩:=valG_sound hQ hB hcg hv hc
        rw [h1]
        refine ⟨?_,h2⟩
        cases hop:o.op <;> simp only
        · rename_i x
          cases x <;> simp only
          exact (hn1 _ hop).elim
        · exact (hn2 _ _ hop).elim
def guardG (X:Ctx) (ops:Array Oper) (st:St) (o:Oper) (t:T):Out Bool :=
  match o.guard with
  | none=>.ok true t
  | some (j,want)=>match (ops[j]?).bind (·.dst) with
    | none=>.bad 15 t.n
    | some u=>match st.get X (.tmp u) with
      | .d (.tup [])=>.ok false t
      | v=>(boolG v t).bind fun b t=>.ok (b == want) t
include hQ in
theorem guardG_sound {X:Ctx} {ops:Array Oper} {st:St} {o:Oper} {t t':T} {b:Bool} (h:guardG X ops st o t = .ok b t') (hc:All Q t'.cs):guardOf X ops st o = some b∧All Q t.cs:=by
  unfold guardG at h
  unfold guardOf
  cases hg:o.guard with
  | none =>
    rw [hg] at h
    simp only [Out.ok.injEq] at h
    obtain ⟨rfl,rfl⟩:=h
    exact ⟨rfl,hc⟩
  | some jw =>
    obtain ⟨j,want⟩:=jw
    rw [hg] at h
    simp only at h ⊢
    cases ht:(ops[j]?).bind (·.dst) with
    | none=>rw [ht] at h;cases h
    | some u =>
      rw [ht] at h
      simp only at h ⊢
      split at h
      · rename_i hv
        simp only [Out.ok.injEq] at h
        obtain ⟨rfl,rfl⟩:=h
        rw [hv]
        exact ⟨rfl,hc⟩
      · obtain ⟨x,t1,h1,h2⟩:=Out.bind_ok h
        simp only [Out.ok.injEq] at h2
        obtain ⟨rfl,rfl⟩:=h2
        obtain ⟨k1,k2⟩:=boolG_sound hQ h1 hc
        rw [k1]
        exact ⟨rfl,k2⟩
def stepNewG (X:Ctx) (base:Nat) (o:Oper) (st:St) (t:T):Out St :=
  match o.op with
  | .next it true=>match st.get X it with
    | .it id=>match st.h[id]? with
      | some (.iter s pos)=>(boolG (.d (.bool (decide (pos < s.length)))) t).bind fun b t =>
        match b with
        | true=>.ok ({ s:=st.s,h:=st.h.set id (.iter s (pos + (Utf8.decode ⟨s.toArray⟩ pos).2)),og:=ogBut id st.og:St }.put o.dst (.d (.tup [.bool true,.int .i64 pos,.int .i32 (Utf8.decode ⟨s.toArray⟩ pos).1]))) t
        | false=>.ok (st.put o.dst (.d (.tup [.bool false]))) t
      | _=>.bad 31 t.n
    | _=>.bad 32 t.n
  | .convert ty u x=>ev t (.conv ty u (st.get X x))
      (fun t=>match convV X ty u (st.get X x) with
        | some v=>.ok (st.put o.dst v) t
        | none=>.bad 35 t.n)
      (fun w t=>match w with
        | .v y=>.ok (st.put o.dst y) (t.add fun _=>convV X ty u (st.get X x) = some y)
        | _=>.bad 36 t.n)
  | .lookup ty x k ok=>ev t (.look ty (mapOf st.h (st.get X x)) (st.get X k) ok)
      (fun t=>match lookV X ty (mapOf st.h (st.get X x)) (st.get X k) ok with
        | some v=>.ok (st.put o.dst v) t
        | none=>.bad 37 t.n)
      (fun w t=>match w with
        | .v y=>.ok (st.put o.dst y) (t.add fun _=>lookV X ty (mapOf st.h (st.get X x)) (st.get X k) ok = some y)
        | _=>.bad 38 t.n)
  | _=>match stepNew X base st o with
    | some s=>.ok s t
    | none=>.bad 30 t.n
include hQ in
theorem stepNewG_sound {X:Ctx} {base:Nat} {o:Oper} {st st':St} {t t':T} (h:stepNewG X base o st t = .ok st' t') (hc:All Q t'.cs):stepNew X base st o = some st' ∧ All Q t.cs:=by
  unfold stepNewG at h
  split at h
  · rename_i it hop
    split at h
    · rename_i id hx
      split at h
      · rename_i s pos hh
        obtain ⟨b,t1,h1,h2⟩:=Out.bind_ok h
        have fin:∀ x:Bool,x = b→All Q t1.cs→decide (pos < s.length) = x∧All Q t.cs:=by
          intro x hx hc1
          subst hx
          obtain ⟨k1,k2⟩:=boolG_sound hQ h1 hc1
          exact ⟨by simpa using k1,k2⟩
        unfold stepNew
        simp only [hop,hx,hh]
        cases b with
        | true =>
          simp only [Out.ok.injEq] at h2
          obtain ⟨rfl,rfl⟩:=h2
          obtain ⟨k1,k2⟩:=fin true rfl hc
          rw [if_pos (of_decide_eq_true k1)]
          exact ⟨rfl,k2⟩
        | false =>
          simp only [Out.ok.injEq] at h2
          obtain ⟨rfl,rfl⟩:=h2
          obtain ⟨k1,k2⟩:=fin false rfl hc
          rw [if_neg (of_decide_eq_false k1)]
          exact ⟨rfl,k2⟩
      · cases h
    · cases h
  · rename_i ty u x hop
    have fin:∀ y,convV X ty u (st.get X x) = some y→stepNew X base st o = some (st.put o.dst y):=fun y hy=>by unfold stepNew;simp only [hop,hy,Option.map_some]
    rcases ev_ok h with ⟨w,t1,ht,h⟩ | ⟨t1,ht,h⟩
    · split at h
      · rename_i y
        simp only [Out.ok.injEq] at h
        obtain ⟨rfl,rfl⟩:=h
        simp only [T.add] at hc
        exact ⟨fin y (hQ _ hc.1),by rw [← ht];exact hc.2⟩
      · cases h
    · split at h
      · rename_i y hy
        simp only [Out.ok.injEq] at h
        obtain ⟨rfl,rfl⟩:=h
        exact ⟨fin y hy,by rw [← ht];exact hc⟩
      · cases h
  · rename_i ty x k ok hop
    have fin:∀ y,lookV X ty (mapOf st.h (st.get X x)) (st.get X k) ok = some y→stepNew X base st o = some (st.put o.dst y):=fun y hy=>by unfold stepNew;simp only [hop,mapGet,hy,Option.map_some]
    rcases ev_ok h with ⟨w,t1,ht,h⟩ | ⟨t1,ht,h⟩
    · split at h
      · rename_i y
        simp only [Out.ok.injEq] at h
        obtain ⟨rfl,rfl⟩:=h
        simp only [T.add] at hc
        exact ⟨fin y (hQ _ hc.1),by rw [← ht];exact hc.2⟩
      · cases h
    · split at h
      · rename_i y hy
        simp only [Out.ok.injEq] at h
        obtain ⟨rfl,rfl⟩:=h
        exact ⟨fin y hy,by rw [← ht];exact hc⟩
      · cases h
  · split at h
    · rename_i s hs
      simp only [Out.ok.injEq] at h
      obtain ⟨rfl,rfl⟩:=h
      exact ⟨hs,hc⟩
    · cases h
def stepAllG (X:Ctx) (cg:CallG) (base:Nat) (o:Oper) (st:St) (t:T):Out St :=
  match isNew X.P o with
  | true=>stepNewG X base o st t
  | false=>stepG X cg base o st t
include hQ hB hcg in
theorem stepAllG_sound {X:Ctx} {base:Nat} {o:Oper} {st st':St} {t t':T} (h:stepAllG X cg base o st t = .ok st' t') (hc:All Q t'.cs):stepAll X call base o st = some st' ∧ All Q t.cs:=by
  unfold stepAllG at h
  unfold stepAll
  split at h
  · rename_i hn
    rw [if_pos hn]
    exact stepNewG_sound hQ h hc
  · rename_i hn
    rw [if_neg (by simp [hn])]
    exact stepG_sound hQ hB hcg h hc
def runG (X:Ctx) (cg:CallG) (base N:Nat) (ops:Array Oper):List Oper→St→T→Out St
  | [],st,t=>.ok st t
  | o :: r,st,t =>
    if dstOk N o then
      (guardG X ops st o t).bind fun b t =>
        match b with
        | true=>(stepAllG X cg base o st t).bind fun st t=>runG X cg base N ops r st t
        | false=>runG X cg base N ops r (st.put o.dst undefV) t
    else .bad 16 t.n
include hQ hB hcg in
theorem runG_sound {X:Ctx} {base N:Nat} {ops:Array Oper}:∀ (l:List Oper) (st st':St) (t t':T),runG X cg base N ops l st t = .ok st' t' → All Q t'.cs→runOps X call base N ops l st = some st' ∧ All Q t.cs:=by
  intro l
  induction l with
  | nil =>
    intro st st' t t' h hc
    simp only [runG,Out.ok.injEq] at h
    obtain ⟨rfl,rfl⟩:=h
    exact ⟨rfl,hc⟩
  | cons o r ih =>
    intro st st' t t' h hc
    simp only [runG] at h
    simp only [runOps]
    split at h
    · rename_i hN
      rw [if_pos hN]
      obtain ⟨b,t1,h1,h2⟩:=Out.bind_ok h
      cases b with
      | true =>
        simp only at h2
        obtain ⟨s1,t2,h3,h4⟩:=Out.bind_ok h2
        obtain ⟨k1,k2⟩:=ih _ _ _ _ h4 hc
        obtain ⟨k3,k4⟩:=stepAllG_sound hQ hB hcg h3 k2
        obtain ⟨k5,k6⟩:=guardG_sound hQ h1 k4
        rw [k5]
        simp only [k3,k1]
        exact ⟨trivial,k6⟩
      | false =>
        simp only at h2
        obtain ⟨k1,k2⟩:=ih _ _ _ _ h2 hc
        obtain ⟨k5,k6⟩:=guardG_sound hQ h1 k2
        rw [k5]
        simp only [k1]
        exact ⟨trivial,k6⟩
    · cases h
def calleeI (ρ:Operand→V) (o:Oper):Option (FuncId × List V) :=
  match calleeG ρ o with
  | some (g,args)=>if args.all V.pure then none else some (g,args)
  | none=>none
theorem calleeI_A {ρ:Operand→V} {h0:List Ob} {o:Oper} {g:FuncId} {args:List V} {m:Nat} {v:V} {h1:List Ob} (hc:calleeI ρ o = some (g,args)) (hr:reach h0 args = some m) (hcall:call.i g args (h0.take m) = some (v,h1)) (hk:(v.pure && h1.length == m && m != 0) = true) :
    (∃ c,o.op = .call c)∧args.all V.pure = false∧callA call h0 ρ o = some (v,h1):=by
  unfold calleeI at hc
  split at hc
  · rename_i g' args' hcg
    split at hc
    · cases hc
    · rename_i hp
      simp only [Option.some.injEq,Prod.mk.injEq] at hc
      obtain ⟨rfl,rfl⟩:=hc
      have hp':args'.all V.pure = false:=by simpa using hp
      unfold calleeG at hcg
      split at hcg
      · rename_i c hop
        split at hcg
        · rename_i f hf
          split at hcg
          · rename_i g2 a b hce
            simp only [Option.some.injEq,Prod.mk.injEq] at hcg
            obtain ⟨rfl,rfl⟩:=hcg
            refine ⟨⟨c,hop⟩,hp',?_⟩
            unfold callA
            simp only [hop,hf,hce,hr,hcall]
            rw [if_neg (by rw [hp'];simp),if_pos hk]
          · cases hcg
        · cases hcg
      · cases hcg
  · cases hc
theorem calleeI_val {X:Ctx} {ρ:Operand→V} {h:List Ob} {o:Oper} {g:FuncId} {args:List V} (hc:calleeI ρ o = some (g,args)):valOp X call ρ h o = none:=by
  unfold calleeI at hc
  split at hc
  · rename_i g' args' hcg
    split at hc
    · cases hc
    · rename_i hp
      rw [calleeG_val hcg,if_neg hp]
  · cases hc
def recG (X:Ctx) (cg:CallG) (ops:Array Oper) (h0:List Ob) (o:Oper) (st:St) (t:T):Out Rec :=
  (guardG X ops st o t).bind fun b t =>
    match b with
    | false=>.ok ⟨undefV,none,[],[]⟩ t
    | true =>
      match o.op with
      | .alloc ty=>match zeroT X.P ty with
        | some z=>if z.cells.all D.one && st.h.length == h0.length then .ok ⟨.obj h0.length 0,none,[Ob.cells (openZero X.P ty z.cells)],[]⟩ t else .bad 17 t.n
        | none=>.bad 18 t.n
      | .assign x=>.ok ⟨(st.get X x).copy,none,[],[]⟩ t
      | .move (.tmp u)=>(valG X cg (st.get X) h0 o t).bind fun v t=>.ok ⟨v,some (.slot u),[],[]⟩ t
      | .load ty p=>(valG X cg (st.get X) h0 o t).bind fun v t =>
        match isAggT X.P ty,st.get X p with
        | false,.obj id off=>.ok ⟨v,some (.cell id off),[],[]⟩ t
        | _,_=>.ok ⟨v,none,[],[]⟩ t
      | _ =>
        match calleeI (st.get X) o with
        | some (g,args) =>
          if st.h.length == h0.length then
            match reach h0 args with
            | some m=>(ev t (.calli g args (h0.take m))
                (fun t=>(cg g args (h0.take m) t).bind fun r t=>if r.1.pure then .ok (r.1,r.2.take (h0.take m).length) t else .bad 40 t.n)
                (fun w t=>match w with
                  | .c x h' => .ok (x,h') (t.add fun call=>(args.all V.pure = true→call.p g args = none)∧call.i g args (h0.take m) = some (x,h'))
                  | _=>.bad 41 t.n)).bind fun r t=>if r.1.pure && r.2.length == m && m != 0 then .ok ⟨r.1,none,[],r.2⟩ t else .bad 42 t.n
            | none=>.bad 43 t.n
          else .bad 44 t.n
        | none=>(valG X cg (st.get X) h0 o t).bind fun v t=>.ok ⟨v,none,[],[]⟩ t
include hQ hB hcg in
theorem recG_sound {X:Ctx} {ops:Array Oper} {h0:List Ob} {o:Oper} {st:St} {r:Rec} {t t':T} (h:recG X cg ops h0 o st t = .ok r t') (hc:All Q t'.cs):recA X call ops h0 o st = some r∧All Q t.cs:=by
  unfold recG at h
  unfold recA
  obtain ⟨b,t1,hg,h⟩:=Out.bind_ok h
  cases b with
  | false =>
    simp only [Out.ok.injEq] at h
    obtain ⟨rfl,rfl⟩:=h
    obtain ⟨h1,h2⟩:=guardG_sound hQ hg hc
    rw [h1]
    exact ⟨rfl,h2⟩
  | true =>
    simp only at h
    have val:∀ (F:V→Rec),(valG X cg (st.get X) h0 o t1).bind (fun v t=>.ok (F v) t) = .ok r t' → ∃ v,valOp X call (st.get X) h0 o = some v∧r = F v∧All Q t1.cs:=by
      intro F hh
      obtain ⟨v,t2,hv,hh⟩:=Out.bind_ok hh
      simp only [Out.ok.injEq] at hh
      obtain ⟨rfl,rfl⟩:=hh
      obtain ⟨k1,k2⟩:=valG_sound hQ hB hcg hv hc
      exact ⟨v,k1,rfl,k2⟩
    split at h
    · rename_i ty hop
      split at h
      · rename_i z hz
        split at h
        · rename_i hcnd
          simp only [Out.ok.injEq] at h
          obtain ⟨rfl,rfl⟩:=h
          obtain ⟨h1,h2⟩:=guardG_sound hQ hg hc
          rw [h1]
          have hv:valOp X call (st.get X) h0 o = none:=by unfold valOp;rw [hop]
          simp only [hv,hop,hz]
          rw [if_pos hcnd]
          exact ⟨rfl,h2⟩
        · cases h
      · cases h
    · rename_i x hop
      simp only [Out.ok.injEq] at h
      obtain ⟨rfl,rfl⟩:=h
      obtain ⟨h1,h2⟩:=guardG_sound hQ hg hc
      rw [h1]
      have hv:valOp X call (st.get X) h0 o = none:=by unfold valOp;rw [hop]
      simp only [hv,hop]
      exact ⟨trivial,h2⟩
    · rename_i u hop
      obtain ⟨v,k1,k2,k3⟩:=val _ h
      obtain ⟨h1,h2⟩:=guardG_sound hQ hg k3
      rw [h1]
      simp only [k1,hop,k2]
      exact ⟨trivial,h2⟩
    · rename_i ty p hop
      obtain ⟨v,t2,hv,h⟩:=Out.bind_ok h
      have key:(match isAggT X.P ty,st.get X p with | false,.obj id off=>some (⟨v,some (.cell id off),[],[]⟩:Rec) | _,_=>some ⟨v,none,[],[]⟩) = some r∧t' = t2:=by
        split at h
        · rename_i id off hag hp
          simp only [Out.ok.injEq] at h
          obtain ⟨rfl,rfl⟩:=h
          exact ⟨by simp only [hag,hp],rfl⟩
        · rename_i hne
          simp only [Out.ok.injEq] at h
          obtain ⟨rfl,rfl⟩:=h
          refine ⟨?_,rfl⟩
          first
            | rfl
            | (split
               · rename_i hag hp;exact (hne _ _ hag hp).elim
               · rfl)
      obtain ⟨k1,rfl⟩:=key
      obtain ⟨k2,k3⟩:=valG_sound hQ hB hcg hv hc
      obtain ⟨h1,h2⟩:=guardG_sound hQ hg k3
      rw [h1]
      simp only [k2,hop]
      exact ⟨k1,h2⟩
    · rename_i hn0 hn1 hn2 hn3
      split at h
      · rename_i g args hci
        split at h
        · rename_i hlen
          split at h
          · rename_i m hm
            obtain ⟨vr,t2,h5,h6⟩:=Out.bind_ok h
            split at h6
            · rename_i hk
              simp only [Out.ok.injEq] at h6
              obtain ⟨rfl,rfl⟩:=h6
              have fin:call.i g args (h0.take m) = some (vr.1,vr.2)→All Q t1.cs→recA X call ops h0 o st = some ⟨vr.1,none,[],vr.2⟩ ∧ All Q t.cs:=by
                intro k1 k2
                obtain ⟨⟨c,hop⟩,_,k3⟩:=calleeI_A hci hm k1 hk
                obtain ⟨h1,h2⟩:=guardG_sound hQ hg k2
                refine ⟨?_,h2⟩
                unfold recA
                rw [h1]
                simp only [calleeI_val (X:=X) (call:=call) (h:=h0) hci,hop,hlen,if_true,k3,Option.map_some]
              have hpf:args.all V.pure = false:=by
                unfold calleeI at hci
                split at hci
                · split at hci
                  · cases hci
                  · rename_i hp
                    simp only [Option.some.injEq,Prod.mk.injEq] at hci
                    obtain ⟨rfl,rfl⟩:=hci
                    simpa using hp
                · cases hci
              have:=fin
              unfold recA at this
              rcases ev_ok h5 with ⟨w,t3,ht,h5⟩ | ⟨t3,ht,h5⟩
              · split at h5
                · simp only [Out.ok.injEq] at h5
                  obtain ⟨rfl,rfl⟩:=h5
                  simp only [T.add] at hc
                  exact this (hQ _ hc.1).2 (by rw [← ht];exact hc.2)
                · cases h5
              · obtain ⟨r2,t4,h7,h8⟩:=Out.bind_ok h5
                split at h8
                · rename_i hpu
                  simp only [Out.ok.injEq] at h8
                  obtain ⟨rfl,rfl⟩:=h8
                  obtain ⟨k1,k2⟩:=hcg _ _ _ _ _ _ h7 hc
                  have k3:=hB.i _ _ _ _ r2.2 hpf k1
                  rw [if_pos hpu] at k3
                  exact this k3 (by rw [← ht];exact k2)
                · cases h8
            · cases h6
          · cases h
        · cases h
      · obtain ⟨v,k1,k2,k3⟩:=val _ h
        obtain ⟨h1,h2⟩:=guardG_sound hQ hg k3
        rw [h1]
        simp only [k1]
        refine ⟨?_,h2⟩
        subst k2
        cases hop:o.op <;> simp only
def runAG (X:Ctx) (cg:CallG) (N:Nat) (ops:Array Oper) (h0:List Ob):List Oper→Bk→St→T→Out St
  | [],_,st,t=>.ok st t
  | o :: r,q,st,t =>
    if dstOk N o then (recG X cg ops h0 o st t).bind fun rc t=>match beside ops (st.get X) o rc q with
      | some q=>runAG X cg N ops h0 r q (rc.on o.dst st) t
      | none=>.bad 45 t.n
    else .bad 19 t.n
include hQ hB hcg in
theorem runAG_sound {X:Ctx} {N:Nat} {ops:Array Oper} {h0:List Ob}:∀ (l:List Oper) (q:Bk) (st st':St) (t t':T),runAG X cg N ops h0 l q st t = .ok st' t' → All Q t'.cs→runA X call N ops h0 l q st = some st' ∧ All Q t.cs:=by
  intro l
  induction l with
  | nil =>
    intro q st st' t t' h hc
    simp only [runAG,Out.ok.injEq] at h
    obtain ⟨rfl,rfl⟩:=h
    exact ⟨rfl,hc⟩
  | cons o r ih =>
    intro q st st' t t' h hc
    simp only [runAG] at h
    simp only [runA]
    split at h
    · rename_i hN
      rw [if_pos hN]
      obtain ⟨rc,t1,h1,h2⟩:=Out.bind_ok h
      split at h2
      · rename_i q1 hq1
        obtain ⟨k1,k2⟩:=ih _ _ _ _ _ h2 hc
        obtain ⟨k3,k4⟩:=recG_sound hQ hB hcg h1 k2
        rw [k3]
        simp only [hq1]
        exact ⟨k1,k4⟩
      · cases h2
    · cases h
def loopG (body:St→T→Out (Ex × St)) (keep:List Nat) (n:Nat):Nat→St→T→Out (Ex × St)
  | 0,_,t=>.bad 20 t.n
  | k + 1,st,t=>(body (clean keep n st) t).bind fun r t=>match r with
    | (.nrm,st)=>loopG body keep n k st t
    | r=>.ok r t
theorem loopG_sound {bodyG:St→T→Out (Ex × St)} {body:St→Option (Ex × St)} (hb:∀ (st:St) (r:Ex × St) (t t':T),bodyG st t = .ok r t' → All Q t'.cs→body st = some r∧All Q t.cs) {keep:List Nat} {n:Nat} :
    ∀ (k:Nat) (st:St) (r:Ex × St) (t t':T),loopG bodyG keep n k st t = .ok r t' → All Q t'.cs→loopN body keep n k st = some r∧All Q t.cs:=by
  intro k
  induction k with
  | zero=>intro st r t t' h;simp [loopG] at h
  | succ k ih =>
    intro st r t t' h hc
    simp only [loopG] at h
    simp only [loopN]
    obtain ⟨r1,t1,h1,h2⟩:=Out.bind_ok h
    split at h2
    · rename_i st1
      obtain ⟨k1,k2⟩:=ih _ _ _ _ h2 hc
      obtain ⟨k3,k4⟩:=hb _ _ _ _ h1 k2
      rw [k3]
      exact ⟨k1,k4⟩
    · rename_i hne
      simp only [Out.ok.injEq] at h2
      obtain ⟨rfl,rfl⟩:=h2
      obtain ⟨k3,k4⟩:=hb _ _ _ _ h1 hc
      rw [k3]
      refine ⟨?_,k4⟩
      obtain ⟨e,st1⟩:=r1
      cases e with
      | nrm=>exact (hne _ rfl).elim
      | exit i=>rfl
      | ret=>rfl
def execG (X:Ctx) (cg:CallG) (base N fuel:Nat):AC→St→T→Out (Ex × St)
  | .skip,st,t=>.ok (.nrm,st) t
  | .region ops keep,st,t =>
    (runG X cg base N ops ops.toList { st with og:=[] } t).bind fun st t=>.ok (.nrm,{ st with s:=keepS keep st.s,og:=[] }) t
  | .draw ops k keep,st,t =>
    if drawGo X ops then
      ((runAG X cg N ops st.h (ops.toList.take k) bk0 { st with og:=[] } t).bind fun st t=>runG X cg base N ops (ops.toList.drop k) st t).bind fun st t=>.ok (.nrm,{ st with s:=keepS keep st.s,og:=[] }) t
    else .bad 21 t.n
  | .seq a b,st,t=>(execG X cg base N fuel a st t).bind fun r t=>match r with
    | (.nrm,st)=>execG X cg base N fuel b st t
    | r=>.ok r t
  | .cond c a b,st,t=>(boolG (st.get X c) t).bind fun x t =>
    match x with
    | true=>execG X cg base N fuel a st t
    | false=>execG X cg base N fuel b st t
  | .block id b,st,t=>(execG X cg base N fuel b st t).bind fun r t=>match r with
    | (.exit i,st)=>.ok (if i = id then .nrm else .exit i,st) t
    | r=>.ok r t
  | .loop keep b,st,t=>ev t (.l base N keep b st)
      (fun t=>loopG (fun st t=>execG X cg base N fuel b st t) keep st.h.length fuel st t)
      (fun w t=>match w with
        | .l e st' => .ok (e,st') (t.add fun call=>loopN (fun st=>exec X call base N fuel b st) keep st.h.length fuel st = some (e,st'))
        | _=>.bad 22 t.n)
  | .exit id,st,t=>.ok (.exit id,st) t
  | .ret,st,t=>.ok (.ret,st) t
  | .bad,_,t=>.bad 23 t.n
include hQ hB hcg in
theorem execG_sound {X:Ctx} {base N fuel:Nat}:∀ (c:AC) (st:St) (r:Ex × St) (t t':T),execG X cg base N fuel c st t = .ok r t' → All Q t'.cs→exec X call base N fuel c st = some r∧All Q t.cs:=by
  intro c
  induction c with
  | skip=>intro st r t t' h hc;simp only [execG,Out.ok.injEq] at h;obtain ⟨rfl,rfl⟩:=h;exact ⟨rfl,hc⟩
  | region ops keep =>
    intro st r t t' h hc
    simp only [execG] at h
    obtain ⟨st1,t1,h1,h2⟩:=Out.bind_ok h
    simp only [Out.ok.injEq] at h2
    obtain ⟨rfl,rfl⟩:=h2
    obtain ⟨h3,h4⟩:=runG_sound hQ hB hcg _ _ _ _ _ h1 hc
    simp only [exec,h3]
    exact ⟨trivial,h4⟩
  | draw ops k keep =>
    intro st r t t' h hc
    simp only [execG] at h
    split at h
    · rename_i hm
      obtain ⟨st1,t1,h1,h2⟩:=Out.bind_ok h
      obtain ⟨st2,t2,h3,h4⟩:=Out.bind_ok h1
      simp only [Out.ok.injEq] at h2
      obtain ⟨rfl,rfl⟩:=h2
      obtain ⟨h5,h6⟩:=runG_sound hQ hB hcg _ _ _ _ _ h4 hc
      obtain ⟨h7,h8⟩:=runAG_sound hQ hB hcg _ _ _ _ _ _ h3 h6
      simp only [exec,runDraw]
      rw [if_pos hm,h7]
      simp only [h5]
      exact ⟨trivial,h8⟩
    · cases h
  | seq x y ihx ihy =>
    intro st r t t' h hc
    simp only [execG] at h
    simp only [exec]
    obtain ⟨r1,t1,h1,h2⟩:=Out.bind_ok h
    split at h2
    · obtain ⟨k1,k2⟩:=ihy _ _ _ _ h2 hc
      obtain ⟨h3,h4⟩:=ihx _ _ _ _ h1 k2
      rw [h3]
      exact ⟨k1,h4⟩
    · rename_i hne
      simp only [Out.ok.injEq] at h2
      obtain ⟨rfl,rfl⟩:=h2
      obtain ⟨h3,h4⟩:=ihx _ _ _ _ h1 hc
      rw [h3]
      refine ⟨?_,h4⟩
      obtain ⟨e,st1⟩:=r1
      cases e with
      | nrm=>exact (hne _ rfl).elim
      | exit i=>rfl
      | ret=>rfl
  | cond c x y ihx ihy =>
    intro st r t t' h hc
    simp only [execG] at h
    simp only [exec]
    obtain ⟨b,t1,h1,h2⟩:=Out.bind_ok h
    cases b with
    | true =>
      obtain ⟨k1,k2⟩:=ihx _ _ _ _ h2 hc
      obtain ⟨h3,h4⟩:=boolG_sound hQ h1 k2
      rw [h3]
      exact ⟨k1,h4⟩
    | false =>
      obtain ⟨k1,k2⟩:=ihy _ _ _ _ h2 hc
      obtain ⟨h3,h4⟩:=boolG_sound hQ h1 k2
      rw [h3]
      exact ⟨k1,h4⟩
  | block id b ih =>
    intro st r t t' h hc
    simp only [execG] at h
    simp only [exec]
    obtain ⟨r1,t1,h1,h2⟩:=Out.bind_ok h
    split at h2
    · simp only [Out.ok.injEq] at h2
      obtain ⟨rfl,rfl⟩:=h2
      obtain ⟨h3,h4⟩:=ih _ _ _ _ h1 hc
      rw [h3]
      exact ⟨rfl,h4⟩
    · rename_i hne
      simp only [Out.ok.injEq] at h2
      obtain ⟨rfl,rfl⟩:=h2
      obtain ⟨h3,h4⟩:=ih _ _ _ _ h1 hc
      rw [h3]
      refine ⟨?_,h4⟩
      obtain ⟨e,st1⟩:=r1
      cases e with
      | nrm=>rfl
      | exit i=>exact (hne _ _ rfl).elim
      | ret=>rfl
  | loop keep b ih =>
    intro st r t t' h hc
    simp only [execG] at h
    simp only [exec]
    rcases ev_ok h with ⟨w,t1,ht,h⟩ | ⟨t1,ht,h⟩
    · split at h
      · simp only [Out.ok.injEq] at h
        obtain ⟨rfl,rfl⟩:=h
        simp only [T.add] at hc
        exact ⟨hQ _ hc.1,by rw [← ht];exact hc.2⟩
      · cases h
    · obtain ⟨h3,h4⟩:=loopG_sound (fun st r t t' h hc=>ih st r t t' h hc) _ _ _ t1 _ h hc
      exact ⟨h3,by rw [← ht];exact h4⟩
  | exit id=>intro st r t t' h hc;simp only [execG,Out.ok.injEq] at h;obtain ⟨rfl,rfl⟩:=h;exact ⟨rfl,hc⟩
  | ret=>intro st r t t' h hc;simp only [execG,Out.ok.injEq] at h;obtain ⟨rfl,rfl⟩:=h;exact ⟨rfl,hc⟩
  | bad=>intro st r t t' h hc;simp [execG] at h
def funG (X:Ctx) (cg:CallG) (fuel:Nat) (f:FuncId) (args:List V) (h:List Ob) (t:T):Out (V × List Ob) :=
  match xiOf X f args h with
  | some (some r)=>.ok r t
  | some none=>.bad 35 t.n
  | none =>
  match X.ext f,X.P.funcs[f]? with
  | none,some fn=>match fn.body with
    | some c=>if fn.name == "runtime.NumGoroutine" then .bad 24 t.n else
      (execG X cg h.length fn.ntmps fuel (annotFn fn c) { s:=argEnv 0 (args.map V.copy),h:=h,og:=[] } t).bind fun r t =>
        match r with
        | (.exit _,_)=>.bad 25 t.n
        | (_,st)=>match results X fn st with
          | some r=>.ok r t
          | none=>.bad 26 t.n
    | none=>.bad 27 t.n
  | some F,_=>match toDs args with
    | some ds=>match F ds with
      | some v=>.ok (v,[]) t
      | none=>.bad 33 t.n
    | none=>.bad 34 t.n
  | _,_=>.bad 28 t.n
def bodyC (X:Ctx) (call:CallF) (fuel:Nat) (f:FuncId) (args:List V) (h:List Ob):Option (V × List Ob) :=
  match xiOf X f args h with
  | some r=>r
  | none =>
  match X.ext f,X.P.funcs[f]? with
  | none,some fn=>match fn.body with
    | some c=>if fn.name == "runtime.NumGoroutine" then none else bodyOn X call fuel fn c (args.map V.copy) h
    | none=>none
  | some F,_=>match toDs args with
    | some ds=>(F ds).map fun v=>(v,[])
    | none=>none
  | _,_=>none
theorem toDs_pure:∀ {vs:List V} {ds:List D},toDs vs = some ds→vs.all V.pure = true
  | [],_,_=>rfl
  | v :: vs,ds,h=>by
    simp only [toDs] at h
    split at h
    · rename_i d ds' hd hds
      simp only [List.all_cons,Bool.and_eq_true]
      exact ⟨by cases v <;> simp [V.toD] at hd <;> rfl,toDs_pure hds⟩
    · cases h
include hQ hB hcg in
theorem funG_sound {X:Ctx} {fuel:Nat} {f:FuncId} {args:List V} {h:List Ob} {r:V × List Ob} {t t':T} (hh:funG X cg fuel f args h t = .ok r t') (hc:All Q t'.cs):bodyC X call fuel f args h = some r∧All Q t.cs:=by
  unfold funG at hh
  cases hxi:xiOf X f args h with
  | some o =>
    rw [hxi] at hh
    cases o with
    | none=>cases hh
    | some r0 =>
      simp only [Out.ok.injEq] at hh
      obtain ⟨rfl,rfl⟩:=hh
      refine ⟨?_,hc⟩
      unfold bodyC
      rw [hxi]
  | none =>
  rw [hxi] at hh
  simp only at hh
  split at hh
  · rename_i fn hx hfn
    split at hh
    · rename_i c hb
      split at hh
      · cases hh
      · rename_i hn
        unfold bodyC
        simp only [hxi,hx,hfn,hb]
        rw [if_neg hn]
        obtain ⟨r1,t1,h1,h2⟩:=Out.bind_ok hh
        obtain ⟨e,st⟩:=r1
        have fin:(match results X fn st with | some r=>Out.ok r t1 | none=>.bad 26 t1.n) = .ok r t' → results X fn st = some r∧t1 = t':=by
          intro h3
          split at h3
          · rename_i u hu
            simp only [Out.ok.injEq] at h3
            obtain ⟨rfl,rfl⟩:=h3
            exact ⟨hu,rfl⟩
          · cases h3
        unfold bodyOn
        cases e with
        | exit i=>simp at h2
        | nrm =>
          obtain ⟨h3,rfl⟩:=fin h2
          obtain ⟨k1,k2⟩:=execG_sound hQ hB hcg _ _ _ _ _ h1 hc
          rw [k1]
          exact ⟨h3,k2⟩
        | ret =>
          obtain ⟨h3,rfl⟩:=fin h2
          obtain ⟨k1,k2⟩:=execG_sound hQ hB hcg _ _ _ _ _ h1 hc
          rw [k1]
          exact ⟨h3,k2⟩
    · cases hh
  · rename_i F hx
    split at hh
    · rename_i ds hds
      split at hh
      · rename_i v hv
        simp only [Out.ok.injEq] at hh
        obtain ⟨rfl,rfl⟩:=hh
        refine ⟨?_,hc⟩
        unfold bodyC
        simp only [hxi]
        split
        · rename_i h1 h2;rw [hx] at h1;cases h1
        · rename_i F' h1;rw [hx] at h1;cases h1;simp only [hds,hv,Option.map_some]
        · simp_all
      · cases hh
    · cases hh
  · cases hh
end
def callG (X:Ctx) (fuel:Nat):Nat→CallG
  | 0=>fun _ _ _ t=>.bad 29 t.n
  | k + 1=>fun f args h t=>funG X (callG X fuel k) fuel f args h t
theorem callOf_succ (X:Ctx) (fuel k:Nat):CallOf (callN X fuel (k + 1)) (bodyC X (callN X fuel k) fuel):=by
  have rp:∀ g args v h',args.all V.pure = true→bodyC X (callN X fuel k) fuel g args [] = some (v,h')→runP X (callN X fuel k) fuel g args = some (v,h'):=by
    intro g args v h' hap hh
    unfold bodyC at hh
    rw [show xiOf X g args [] = none by unfold xiOf;rw [if_pos hap]] at hh
    simp only at hh
    unfold runP
    split at hh
    · rename_i fn hx hfn
      simp only [hx,hfn]
      split at hh
      · rename_i c hb
        simp only [hb]
        split at hh
        · cases hh
        · rename_i hn
          rw [if_neg hn]
          exact hh
      · cases hh
    · rename_i F hx
      simp only [hx]
      exact hh
    · cases hh
  refine ⟨fun g args v h' hp hh hv=>?_,fun g args v h' hp hh hv=>⟨?_,fun h=>?_⟩,fun g args v h h' hp hh=>?_⟩
  · simp only [callN,rp _ _ _ _ hp hh,hv,if_true]
  · simp [callN,rp _ _ _ _ hp hh,hv]
  · simp only [callN,rp _ _ _ _ hp hh,hp,if_true]
  · simp only [callN,hp]
    unfold runI
    unfold bodyC at hh
    cases hxi:xiOf X g args h with
    | some o =>
      rw [hxi] at hh
      simp only at hh
      subst hh
      unfold xiOf at hxi
      rw [if_neg (by rw [hp];simp)] at hxi
      split at hxi
      · cases hxi
      · simp only [Option.some.injEq] at hxi
        split at hxi
        · split at hxi
          · rename_i hvl
            simp only [Option.some.injEq,Prod.mk.injEq] at hxi
            obtain ⟨rfl,rfl⟩:=hxi
            simp only [Bool.and_eq_true,beq_iff_eq] at hvl
            rw [if_pos hvl.1,List.take_of_length_le (by omega)]
            simp
          · cases hxi
        · cases hxi
    | none =>
    rw [hxi] at hh
    simp only at hh
    simp only [Bool.false_eq_true,if_false]
    split at hh
    · rename_i fn hx hfn
      simp only [hfn,hx]
      split at hh
      · rename_i c hb
        simp only [hb]
        split at hh
        · cases hh
        · rename_i hn
          simp only [hn,hh]
          simp
          split <;> rfl
      · cases hh
    · rename_i F hx
      split at hh
      · rename_i ds hds
        rw [toDs_pure hds] at hp
        cases hp
      · cases hh
    · cases hh
def FUEL:Nat:=2 ^ 60
def Ev (X:Ctx) (c:Fact):Prop:=∃ K,∀ k,K≤k→c (callN X FUEL k)
def Evs (X:Ctx) (cs:List Fact):Prop:=All (Ev X) cs
def Ans (X:Ctx) (f:FuncId) (args:List V) (v:V):Prop:=Ev X fun call=>call.p f args = some v
def AnsB (X:Ctx) (f:FuncId) (args:List V) (h:List Ob) (v:V) (h':List Ob):Prop:=Ev X fun call=>bodyC X call FUEL f args h = some (v,h')
theorem Ev.pure {X:Ctx} {q:Prop} (h:q):Ev X fun _=>q:=⟨0,fun _ _=>h⟩
theorem Evs.all {X:Ctx}:∀ {cs:List Fact},Evs X cs→∃ K,All (fun c=>∀ k,K≤k→c (callN X FUEL k)) cs
  | [],_=>⟨0,trivial⟩
  | c :: cs,h=>by
    obtain ⟨⟨K1,h1⟩,h2⟩:=h
    obtain ⟨K2,h3⟩:=Evs.all h2
    have mono:∀ {cs:List Fact},All (fun c=>∀ k,K2≤k→c (callN X FUEL k)) cs→All (fun c=>∀ k,K1 + K2≤k→c (callN X FUEL k)) cs:=by
      intro cs
      induction cs with
      | nil=>intro _;trivial
      | cons d ds ih=>intro h;exact ⟨fun k hk=>h.1 k (by omega),ih h.2⟩
    exact ⟨K1 + K2,fun k hk=>h1 k (by omega),mono h3⟩
theorem callG_sound {X:Ctx} {K:Nat}:∀ d j,K≤j→∀ g args h t r t',callG X FUEL d g args h t = .ok r t' → All (fun c=>∀ k,K≤k→c (callN X FUEL k)) t'.cs→bodyC X (callN X FUEL (j + d)) FUEL g args h = some r∧All (fun c=>∀ k,K≤k→c (callN X FUEL k)) t.cs:=by
  intro d
  induction d with
  | zero=>intro j _ g args h t r t' hh;simp [callG] at hh
  | succ d ih =>
    intro j hj g args h t r t' hh hc
    simp only [callG] at hh
    have e:j + (d + 1) = (j + d) + 1:=by omega
    rw [e]
    exact funG_sound (fun c hq=>hq _ (by omega)) (callOf_succ X FUEL (j + d)) (fun g args h t r t' h1 h2=>ih j hj g args h t r t' h1 h2) hh hc
theorem pathB {X:Ctx} (d:Nat) {f:FuncId} {args:List V} {h h':List Ob} {os:List (Nat × What)} {n:Nat} {ask:Bool} {v:V} {cs:List Fact} (hc:Evs X cs) (hr:callG X FUEL d f args h ⟨0,false,os,[]⟩ = .ok (v,h') ⟨n,ask,[],cs⟩):AnsB X f args h v h':=by
  obtain ⟨K,hK⟩:=hc.all
  refine ⟨K + d,fun k hk=>?_⟩
  have:=callG_sound d (k - d) (K:=K) (by omega) f args h _ _ _ hr hK
  rw [show k - d + d = k by omega] at this
  exact this.1
theorem AnsB.ans {X:Ctx} {f:FuncId} {args:List V} {v:V} {h':List Ob} (h:AnsB X f args [] v h') (hp:args.all V.pure = true) (hv:v.pure = true):Ans X f args v:=by
  obtain ⟨K,h⟩:=h
  refine ⟨K + 1,fun k hk=>?_⟩
  obtain ⟨k,rfl⟩:∃ j,k = j + 1:=⟨k - 1,by omega⟩
  exact (callOf_succ X FUEL k).p _ _ _ _ hp (h k (by omega)) hv
theorem path {X:Ctx} (d:Nat) {f:FuncId} {args:List V} {h':List Ob} (os:List (Nat × What)) {n:Nat} {ask:Bool} {v:V} {cs:List Fact} (hc:Evs X cs) (hr:callG X FUEL d f args [] ⟨0,false,os,[]⟩ = .ok (v,h') ⟨n,ask,[],cs⟩) (hp:args.all V.pure = true) (hv:v.pure = true):Ans X f args v :=
  (pathB d hc hr).ans hp hv
def outV (o:Out (V × List Ob)):Option (V × List (Nat × What) × List Fact) :=
  match o with
  | .ok r t=>some (r.1,t.os,t.cs)
  | _=>none
def outR (o:Out (Ex × St)):Option ((Ex × St) × List (Nat × What) × List Fact) :=
  match o with
  | .ok r t=>some (r,t.os,t.cs)
  | _=>none
theorem pV {X:Ctx} {f:FuncId} {args:List V} {v:V} (d:Nat) (os:List (Nat × What)) {cs:List Fact} (hc:Evs X cs) (hr:outV (callG X FUEL d f args [] ⟨0,false,os,[]⟩) = some (v,[],cs)) (hp:args.all V.pure = true) (hv:v.pure = true):Ans X f args v:=by
  unfold outV at hr
  split at hr
  · rename_i r t e
    obtain ⟨v',h'⟩:=r
    obtain ⟨n,a,os',cs'⟩:=t
    simp only [Option.some.injEq,Prod.mk.injEq] at hr
    obtain ⟨rfl,rfl,rfl⟩:=hr
    exact path d os hc e hp hv
  · cases hr
theorem nilE {X:Ctx}:Evs X []:=trivial
theorem cP {X:Ctx} {q:Prop} {cs:List Fact} (h:q) (t:Evs X cs):Evs X ((fun _=>q) :: cs):=⟨Ev.pure h,t⟩
theorem cC {X:Ctx} {f:FuncId} {args:List V} {v:V} {cs:List Fact} (h:Ans X f args v) (t:Evs X cs):Evs X ((fun call=>call.p f args = some v) :: cs):=⟨h,t⟩
theorem cE {X:Ctx} {c:Fact} {cs:List Fact} (h:Ev X c) (t:Evs X cs):Evs X (c :: cs):=⟨h,t⟩
theorem Ans.to {X:Ctx} {f:FuncId} {args:List V} {v v':V} (h:Ans X f args v) (e:v = v'):Ans X f args v':=e ▸ h
theorem AnsB.calli {X:Ctx} {f:FuncId} {args:List V} {h:List Ob} {v:V} {h':List Ob} (hb:AnsB X f args h v h') (hp:args.all V.pure = false):Ev X fun call=>(args.all V.pure = true→call.p f args = none)∧call.i f args h = some (if v.pure then (v,h'.take h.length) else (v,h')):=by
  obtain ⟨K,hb⟩:=hb
  refine ⟨K + 1,fun k hk=>?_⟩
  obtain ⟨k,rfl⟩:∃ j,k = j + 1:=⟨k - 1,by omega⟩
  exact ⟨fun h=>(by rw [hp] at h;cases h),(callOf_succ X FUEL k).i _ _ _ _ _ hp (hb k (by omega))⟩
theorem AnsB.new {X:Ctx} {f:FuncId} {args:List V} {v:V} {h':List Ob} (hb:AnsB X f args [] v h') (hp:args.all V.pure = true) (hv:v.pure = false) (h:List Ob):Ev X fun call=>(args.all V.pure = true→call.p f args = none)∧call.i f args h = some (v.shift h.length,h ++ h'.map (Ob.shift h.length)):=by
  obtain ⟨K,hb⟩:=hb
  refine ⟨K + 1,fun k hk=>?_⟩
  obtain ⟨k,rfl⟩:∃ j,k = j + 1:=⟨k - 1,by omega⟩
  obtain ⟨h1,h2⟩:=(callOf_succ X FUEL k).q _ _ _ _ hp (hb k (by omega)) hv
  exact ⟨fun _=>h1,h2 h⟩
def Lp (X:Ctx) (base N:Nat) (keep:List Nat) (b:AC) (n m:Nat) (st:St) (r:Ex × St):Prop:=Ev X fun call=>loopN (fun st=>exec X call base N FUEL b st) keep n m st = some r
def Rd (X:Ctx) (base N:Nat) (b:AC) (st:St) (r:Ex × St):Prop:=Ev X fun call=>exec X call base N FUEL b st = some r
theorem pathR {X:Ctx} (d:Nat) {base N:Nat} {b:AC} {st:St} {r:Ex × St} (os:List (Nat × What)) {n:Nat} {ask:Bool} {cs:List Fact} (hc:Evs X cs) (hr:execG X (callG X FUEL d) base N FUEL b st ⟨0,false,os,[]⟩ = .ok r ⟨n,ask,[],cs⟩):Rd X base N b st r:=by
  obtain ⟨K,hK⟩:=hc.all
  refine ⟨K + d + 1,fun k hk=>?_⟩
  obtain ⟨k,rfl⟩:∃ j,k = j + 1:=⟨k - 1,by omega⟩
  have h1:k = k - d + d:=by omega
  refine (execG_sound (Q:=fun c=>∀ k,K≤k→c (callN X FUEL k)) (fun c hq=>hq _ (by omega)) (callOf_succ X FUEL k) (fun g args h t r t' e1 e2=>?_) b st r _ _ hr hK).1
  rw [h1]
  exact callG_sound d (k - d) (K:=K) (by omega) g args h t r t' e1 e2
theorem pR {X:Ctx} {base N:Nat} {b:AC} {st:St} {r:Ex × St} (d:Nat) (os:List (Nat × What)) {cs:List Fact} (hc:Evs X cs) (hr:outR (execG X (callG X FUEL d) base N FUEL b st ⟨0,false,os,[]⟩) = some (r,[],cs)):Rd X base N b st r:=by
  unfold outR at hr
  split at hr
  · rename_i r t e
    obtain ⟨n,a,os',cs'⟩:=t
    simp only [Option.some.injEq,Prod.mk.injEq] at hr
    obtain ⟨rfl,rfl,rfl⟩:=hr
    exact pathR d os hc e
  · cases hr
def RdC (X:Ctx) (base N:Nat) (keep:List Nat) (b:AC) (n:Nat) (st st':St):Prop:=Ev X fun call=>∃ st1,exec X call base N FUEL b st = some (.nrm,st1)∧clean keep n st1 = st'
def LpC (X:Ctx) (base N:Nat) (keep:List Nat) (b:AC) (n m:Nat) (st:St) (r:Ex × St):Prop:=Ev X fun call=>(match exec X call base N FUEL b st with | some (.nrm,st1)=>loopN (fun st=>exec X call base N FUEL b st) keep n m st1 | r=>r) = some r
def outC (keep:List Nat) (n:Nat) (o:Out (Ex × St)):Option (St × List (Nat × What) × List Fact) :=
  match o with
  | .ok (.nrm,st) t=>some (clean keep n st,t.os,t.cs)
  | _=>none
theorem pC {X:Ctx} {base N:Nat} {keep:List Nat} {b:AC} {n:Nat} {st st':St} (d:Nat) (os:List (Nat × What)) {cs:List Fact} (hc:Evs X cs) (hr:outC keep n (execG X (callG X FUEL d) base N FUEL b st ⟨0,false,os,[]⟩) = some (st',[],cs)):RdC X base N keep b n st st':=by
  unfold outC at hr
  split at hr
  · rename_i st1 t e
    obtain ⟨k,a,os',cs'⟩:=t
    simp only [Option.some.injEq,Prod.mk.injEq] at hr
    obtain ⟨h1,rfl,rfl⟩:=hr
    obtain ⟨K,h⟩:=pathR d os hc e
    exact ⟨K,fun k hk=>⟨st1,h k hk,h1⟩⟩
  · cases hr
theorem RdC.to {X:Ctx} {base N:Nat} {keep:List Nat} {b:AC} {n:Nat} {st st' st'':St} (h:RdC X base N keep b n st st') (e:st' = st''):RdC X base N keep b n st st'':=e ▸ h
theorem Rd.to {X:Ctx} {base N:Nat} {b:AC} {st:St} {r r':Ex × St} (h:Rd X base N b st r) (e:r = r'):Rd X base N b st r':=e ▸ h
theorem LpC.next {X:Ctx} {base N:Nat} {keep:List Nat} {b:AC} {n m:Nat} {st st':St} {r:Ex × St} (h1:RdC X base N keep b n st st') (h2:LpC X base N keep b n m st' r):LpC X base N keep b n (m + 1) st r:=by
  obtain ⟨K1,h1⟩:=h1
  obtain ⟨K2,h2⟩:=h2
  refine ⟨K1 + K2,fun k hk=>?_⟩
  obtain ⟨st1,e1,e2⟩:=h1 k (by omega)
  have:=h2 k (by omega)
  simp only at this
  rw [← e2] at this
  simp only [e1]
  unfold loopN
  exact this
theorem LpC.last {X:Ctx} {base N:Nat} {keep:List Nat} {b:AC} {n m:Nat} {st st1:St} {e:Ex} (h1:Rd X base N b st (e,st1)) (he:e ≠ .nrm):LpC X base N keep b n m st (e,st1):=by
  obtain ⟨K1,h1⟩:=h1
  refine ⟨K1,fun k hk=>?_⟩
  have:=h1 k hk
  simp only at this
  simp only [this]
  cases e with
  | nrm=>exact (he rfl).elim
  | _=>rfl
theorem LpC.start {X:Ctx} {base N:Nat} {keep:List Nat} {b:AC} {n m:Nat} {st st':St} {r:Ex × St} (h:LpC X base N keep b n m st' r) (hc:clean keep n st = st'):Lp X base N keep b n (m + 1) st r:=by
  obtain ⟨K,h⟩:=h
  refine ⟨K,fun k hk=>?_⟩
  have:=h k hk
  simp only at this
  rw [← hc] at this
  unfold loopN
  exact this
def loopsOf:AC→List (List Nat × AC)
  | .seq a b=>loopsOf a ++ loopsOf b
  | .cond _ a b=>loopsOf a ++ loopsOf b
  | .block _ b=>loopsOf b
  | .loop k b=>(k,b) :: loopsOf b
  | _=>[]
def acOf (X:Ctx) (f:FuncId):AC :=
  match X.P.funcs[f]? with
  | some fn=>match fn.body with
    | some c=>annotFn fn c
    | none=>.bad
  | none=>.bad
def ntOf (X:Ctx) (f:FuncId):Nat :=
  match X.P.funcs[f]? with
  | some fn=>fn.ntmps
  | none=>0
def lpKeep (X:Ctx) (f i:Nat):List Nat:=((loopsOf (acOf X f)).getD i ([],.bad)).1
def lpBody (X:Ctx) (f i:Nat):AC:=((loopsOf (acOf X f)).getD i ([],.bad)).2
theorem Lp.next {X:Ctx} {base N:Nat} {keep:List Nat} {b:AC} {n m:Nat} {st st1:St} {r:Ex × St} (h1:Rd X base N b (clean keep n st) (.nrm,st1)) (h2:Lp X base N keep b n m st1 r):Lp X base N keep b n (m + 1) st r:=by
  obtain ⟨K1,h1⟩:=h1
  obtain ⟨K2,h2⟩:=h2
  exact ⟨K1 + K2,fun k hk=>by simp only [loopN,h1 k (by omega)];exact h2 k (by omega)⟩
theorem Lp.last {X:Ctx} {base N:Nat} {keep:List Nat} {b:AC} {n m:Nat} {st st1:St} {e:Ex} (h1:Rd X base N b (clean keep n st) (e,st1)) (he:e ≠ .nrm):Lp X base N keep b n (m + 1) st (e,st1):=by
  obtain ⟨K1,h1⟩:=h1
  refine ⟨K1,fun k hk=>?_⟩
  have:=h1 k (by omega)
  simp only at this
  simp only [loopN,this]
  cases e with
  | nrm=>exact (he rfl).elim
  | _=>rfl
theorem AnsB.to {X:Ctx} {f:FuncId} {args:List V} {h:List Ob} {v:V} {h':List Ob} {v2:V} {h2:List Ob} (hb:AnsB X f args h v h') (e:(v,h') = (v2,h2)):AnsB X f args h v2 h2:=by
  cases e
  exact hb
end Go.Proofs.Ytaobccodpdmieaa.Pv.G
namespace Go.Proofs.Ytaobccodpdmieaa.Pv
open Go
noncomputable def X0:Ctx:=⟨Try.prog,fun _=>none,fun _=>none,fun t=>t == 70, [],fun _=>none,fun _ t=>t == 101⟩
theorem ext0_ok:ExtOk X0:=fun f F h=>by cases h
theorem ext0_iok:ExtIOk X0:=fun f F h=>by cases h
theorem ext0_pure:ExtPure X0:=fun f F h=>by cases h
theorem glob0 (W:World) (g:Gh):GlobOk X0 W g:=⟨fun _=>0,fun i cs hi=>by rcases hi with hi | ⟨hi,_⟩ <;> cases hi⟩
open Go Go.ChangeShapes Go.WideShapes Go.RowKit
theorem Keep.below {g g':Gh} {w w':World} (k:Keep g w g' w'):Below w.heap.size w w':=⟨k.os,k.tape,k.output,k.size,k.block⟩
def fullE (W:World):Nat→Nat:=fun b=>match W.heap[b]? with
 | some (.cells c _ _)=>c.size
 | _=>0
def topG (W:World):Gh:={ μ:=[],e:=fullE W,own:=fun b=>if b < W.heap.size then .fgn else .free,pin:=⟨[],fun _=>False⟩ }
theorem post_of_below {H:Type} {enc:TypeId × Value→H} {P:Program} {f:Func} {s:ChangeSpec} {apart fresh handsOn again:Bool} {W W':World} {args:Array Value} {v:Value} {ds gs:List (DataW H)} {before pa pv:List MemPlace}
  (hW:DataW.Whole enc P f.params.toList s.vars apart W args.toList ds gs before)
  (hres:∀ (b:Nat) (sp:Nat→Bool) (hd:Bool),DataW.TrodAll enc P W' b sp hd f.resultTypes.toList (v.resultList f.resultTypes.size) (s.fn H (ds ++ gs)).results [])
  (hargs:∀ sp:Nat→Bool,(∀ p ∈ before,sp p.block = true)→DataW.TrodAll enc P W' 0 sp true f.params.toList args.toList (s.fn H (ds ++ gs)).args pa)
  (hvars:∀ sp:Nat→Bool,(∀ p ∈ before,sp p.block = true)→DataW.TrodVars enc P W' sp s.vars (s.fn H (ds ++ gs)).vars pv)
  (hps:before = pa ++ pv) (hb:Below W.heap.size W W')
  (hok:∀ (j:Nat) (t:TypeId) (r:Value),f.resultTypes[j]? = some t→(v.resultList f.resultTypes.size)[j]? = some r→Value.okWide P W' .any 0 t r) :
  s.post enc P f apart fresh handsOn again W args v W':=by
 have hold:∀ p ∈ before,(fun b=>decide (b < W.heap.size)) p.block = true:=fun p hp=>by simpa using hW.lt p hp
 have hlt:=hW.lt
 refine ⟨ds,gs,before,[],pa,pv,hW,hres _ _ _,hargs _ hold,hvars _ hold,World.keptBut_mono (fun p hp=>⟨hp,?_⟩) (hb.frame (· ∈ before)),fun _=>?_⟩
 ·rw [hps,List.mem_append] at hp
  exact Or.inr hp
 ·obtain ⟨_,_,_,_,_,hz,hn⟩:=hW
  refine ⟨hok,_,_,([] ++ pa) ++ pv,⟨[] ++ pa,pv,trodAll_append (hargs _ (fun _ _=>rfl)) (hres _ _ _),hvars _ (fun _ _=>rfl),rfl,?_,?_⟩,?_⟩
  ·intro b off hp
   have hp':MemPlace.cell b off ∈ before:=by rw [hps];simpa using hp
   rw [hb.frozen (p:=⟨b,off,none⟩) (hlt _ hp')]
   exact hz b off hp'
  ·intro ha
   have:=hn ha
   rw [hps] at this
   simpa using this
  ·intro p hp _
   rw [hps]
   simpa using hp
section
variable {H:Type} {enc:TypeId × Value→H} {P:Program} {w:World} {base b0:Nat} {spare:Nat→Bool} {held:Bool}
end
open Go G
abbrev bt:G.What:=.b true
abbrev bf:G.What:=.b false
theorem wrapI (n:Int):IntKind.wrap .i64 n = (n + 9223372036854775808) % 18446744073709551616 - 9223372036854775808:=by
 simp [IntKind.wrap,IntKind.bits,IntKind.signed]
 split <;> omega
theorem wrapId (n:Int) (h1 : -9223372036854775808≤n) (h2:n≤9223372036854775807):IntKind.wrap .i64 n = n:=by rw [wrapI];omega
theorem tdivNn (n m:Int) (h:0≤n):Int.tdiv n m = n / m:=Int.tdiv_eq_ediv_of_nonneg h
inductive Ty where
 | int (k:IntKind)
 | bool
 | str
 | sl (e:Ty)
 | st (b:Ty)
 | nil
 | cons (a b:Ty)
@[reducible] def Ty.ty:Ty→Type
 | .int _=>Int
 | .bool=>Bool
 | .str=>List UInt8
 | .sl e=>List e.ty
 | .st b=>b.ty
 | .nil=>Unit
 | .cons a b=>a.ty × b.ty
def Ty.size:Ty→Nat
 | .int _ | .bool | .str | .sl _=>1
 | .st b=>b.size
 | .nil=>0
 | .cons a b=>a.size + b.size
def Ty.enc:(T:Ty)→T.ty→List D
 | .int k,n=>[.int k n]
 | .bool,b=>[.bool b]
 | .str,s=>[.str s]
 | .sl e,l=>[.sl (l.flatMap e.enc) l.length]
 | .st b,x=>b.enc x
 | .nil,_=>[]
 | .cons a b,x=>a.enc x.1 ++ b.enc x.2
def Ty.ok:(T:Ty)→T.ty→Prop
 | .int k,n=>(Lit.int k n).wf = true
 | .bool,_=>True
 | .str,s=>s.length≤reachBytes
 | .sl e,l=>l.length≤reachBytes∧∀ x ∈ l,e.ok x
 | .st b,x=>b.ok x
 | .nil,_=>True
 | .cons a b,x=>a.ok x.1∧b.ok x.2
def Ty.chk (P:Program):Ty→(TypeId→Bool) × (List Field→Nat→Bool)
 | .int k=>(fun t=>(match P.underlying t with | some (.int k')=>k' == k | _=>false) && P.cellsOf t == 1,fun _ _=>false)
 | .bool=>(fun t=>(match P.underlying t with | some .bool=>true | _=>false) && P.cellsOf t == 1,fun _ _=>false)
 | .str=>(fun t=>(match P.underlying t with | some .string=>true | _=>false) && P.cellsOf t == 1,fun _ _=>false)
 | .sl e=>(fun t=>(match P.underlying t with | some (.slice te)=>(e.chk P).1 te && P.cellsOf te == e.size && e.size != 0 && P.bytesOf te != 0 | _=>false) && P.cellsOf t == 1,fun _ _=>false)
 | .st b=>(fun t=>(match P.underlying t with | some (.struct fs)=>(b.chk P).2 fs.toList 0 | _=>false) && P.cellsOf t == b.size,fun _ _=>false)
 | .nil=>(fun _=>false,fun fs _=>fs.isEmpty)
 | .cons a b=>(fun _=>false,fun fs off=>match fs with
  | f :: fs=>f.offset == off && P.cellsOf f.type == a.size && (a.chk P).1 f.type && (b.chk P).2 fs (off + a.size)
  | []=>false)
theorem Ty.enc_length:∀ (T:Ty) (x:T.ty),(T.enc x).length = T.size
 | .int _,_ | .bool,_ | .str,_ | .sl _,_ | .nil,_=>rfl
 | .st b,x=>Ty.enc_length b x
 | .cons a b,x=>by simp only [Ty.enc,Ty.size,List.length_append,Ty.enc_length a,Ty.enc_length b]
theorem flat_len {α:Type} (f:α→List D) (z:Nat) (h:∀ x,(f x).length = z):∀ l:List α,(l.flatMap f).length = l.length * z
 | []=>by simp
 | x :: l=>by rw [List.flatMap_cons,List.length_append,h,flat_len f z h l,List.length_cons,Nat.add_mul];omega
section
variable {H:Type} {enc:TypeId × Value→H} {P:Program} {W:World} {spare:Nat→Bool} {held:Bool}
def OpenC (H:Type) (enc:TypeId × Value→H) (P:Program) (W:World) (spare:Nat→Bool) (held:Bool) (T:Ty):Prop :=
 (∀ t,(T.chk P).1 t = true→∀ fuel cs x,DataW.trod enc P W 0 spare held fuel t cs = some x→(∀ n ∈ x.1.weights P t,n≤reachBytes)→∃ y:T.ty,T.ok y∧PtD W (fullE W) cs (T.enc y)) ∧
 (∀ fs off,(T.chk P).2 fs off = true→∀ cs:List Value,off + T.size≤cs.length→(∀ f ∈ fs,∃ n x,DataW.trod enc P W 0 spare held n f.type ((cs.drop f.offset).take (P.cellsOf f.type)) = some x∧∀ n ∈ x.1.weights P f.type,n≤reachBytes) →
  ∃ y:T.ty,T.ok y∧PtD W (fullE W) ((cs.drop off).take T.size) (T.enc y))
theorem ptd_one {w:World} {e:Nat→Nat} {v:Value} {d:D} (h:RepD w e v d):PtD w e [v] [d]:=by
 refine ⟨rfl,fun j v' d' h1 h2=>?_⟩
 match j with
 | 0=>simp at h1 h2;subst h1;subst h2;exact h
 | j + 1=>simp at h1
theorem weights_mem_all {P:Program} {e:TypeId} {d:DataW H}:∀ {ds:List (DataW H)},d ∈ ds→∀ n ∈ d.weights P e,n ∈ DataW.weightsAll P e ds
 | x :: r,h,n,hn=>by
  simp only [DataW.weightsAll,List.mem_append]
  rcases List.mem_cons.1 h with rfl | h
  ·exact .inl hn
  ·exact .inr (weights_mem_all h n hn)
theorem openC:∀ T:Ty,OpenC H enc P W spare held T:=by
 intro T
 induction T with
 | int k =>
  refine ⟨fun t ht fuel cs x h hw=>?_,fun fs off h=>by simp [Ty.chk] at h⟩
  simp only [Ty.chk,Bool.and_eq_true] at ht
  obtain ⟨ht,_⟩:=ht
  split at ht
  ·rename_i k' hu
   have:k' = k:=by simpa using ht
   subst this
   obtain ⟨n,rfl,_,hwf⟩:=DataW.trod_int hu h
   exact ⟨n,hwf,ptd_one (.int _ _)⟩
  ·cases ht
 | bool =>
  refine ⟨fun t ht fuel cs x h hw=>?_,fun fs off h=>by simp [Ty.chk] at h⟩
  simp only [Ty.chk,Bool.and_eq_true] at ht
  obtain ⟨ht,_⟩:=ht
  split at ht
  ·rename_i hu
   obtain ⟨b,rfl,_⟩:=DataW.trod_bool hu h
   exact ⟨b,trivial,ptd_one (.bool _)⟩
  ·cases ht
 | str =>
  refine ⟨fun t ht fuel cs x h hw=>?_,fun fs off h=>by simp [Ty.chk] at h⟩
  simp only [Ty.chk,Bool.and_eq_true] at ht
  obtain ⟨ht,_⟩:=ht
  split at ht
  ·rename_i hu
   obtain ⟨s,rfl,rfl,_⟩:=DataW.trod_string hu h
   exact ⟨s.data.toList,hw _ (by simp [DataW.weights]),ptd_one (.str s.data.toList)⟩
  ·cases ht
 | sl e ih =>
  refine ⟨fun t ht fuel cs x h hw=>?_,fun fs off h=>by simp [Ty.chk] at h⟩
  simp only [Ty.chk,Bool.and_eq_true] at ht
  obtain ⟨ht,_⟩:=ht
  split at ht
  ·rename_i te hu
   simp only [Bool.and_eq_true,beq_iff_eq,bne_iff_ne,ne_eq] at ht
   obtain ⟨⟨⟨hte,hsz⟩,hs0⟩,hby⟩:=ht
   rcases Go.Deep.open_slice hu h with ⟨rfl,_⟩ | ⟨a,len,cap,m,n,Df,Pl,rfl,_,hlc,hcm,hm,hxx,hx⟩
   ·exact ⟨[],⟨by simp,by simp⟩,ptd_one (.sl0 none 0 fun _=>rfl)⟩
   ·have hlm:len≤m:=by rw [hm];split <;> omega
    have hwl:len≤reachBytes:=by
     subst hxx
     have h1:=hw ((((List.range len).map Df).length + ((List.range (m - len)).map fun j=>Df (len + j)).length) * P.bytesOf te) (by simp only [DataW.weights,hu];exact List.mem_cons_self ..)
     simp only [List.length_map,List.length_range] at h1
     have h2:len * 1≤(len + (m - len)) * P.bytesOf te:=Nat.mul_le_mul (Nat.le_add_right _ _) (Nat.pos_of_ne_zero hby)
     omega
    have hwe:∀ i,i < len→∀ n ∈ (Df i).weights P te,n≤reachBytes:=by
     subst hxx
     intro i hi n hn
     refine hw n ?_
     simp only [DataW.weights,hu]
     refine List.mem_cons_of_mem _ (List.mem_append_left _ ?_)
     exact weights_mem_all (List.mem_map.2 ⟨i,List.mem_range.2 hi,rfl⟩) n hn
    rw [hsz] at hx
    have one:∀ i,i < len→∃ (cs':List Value) (y:e.ty),e.ok y∧PtD W (fullE W) cs' (e.enc y)∧cs'.length = e.size∧∀ j v,cs'[j]? = some v→W.cell? ((a.add (i * e.size)).add j) = some v:=by
     intro i hi
     obtain ⟨cs',h1,h2⟩:=hx i (by omega)
     obtain ⟨y,h3,h4⟩:=ih.1 te hte n cs' _ h2 (hwe i hi)
     obtain ⟨_,h5,h6⟩:=World.cells?_some h1
     refine ⟨cs',y,h3,h4,h5,fun j v hj=>?_⟩
     have hlt:j < e.size:=by rw [← h5];exact (List.getElem?_eq_some_iff.1 hj).1
     rw [h6 j hlt,hj]
    by_cases h0:len = 0
    ·subst h0
     exact ⟨[],⟨by simp,by simp⟩,ptd_one (.sl0 _ _ (by simp))⟩
    ·have hspot:a.spot = none:=by
      obtain ⟨cs',y,_,_,h3,h4⟩:=one 0 (by omega)
      have hc0:∃ v,cs'[0]? = some v:=⟨cs'[0]'(by omega),List.getElem?_eq_getElem _⟩
      obtain ⟨v,hv⟩:=hc0
      have:=h4 0 v hv
      simp only [Nat.zero_mul,Addr.add,if_true] at this
      unfold World.cell? at this
      split at this
      ·split at this
       ·cases this
       ·rename_i hs;simpa using hs
      ·cases this
     obtain ⟨b,o,sp⟩:=a
     simp only at hspot
     subst hspot
     have all:∀ k,k≤len→∃ (l:List e.ty) (vals:List Value),l.length = k∧(∀ x ∈ l,e.ok x)∧PtD W (fullE W) vals (l.flatMap e.enc)∧vals.length = k * e.size∧∀ j v,vals[j]? = some v→W.cell? ⟨b,o + j,none⟩ = some v:=by
      intro k
      induction k with
      | zero=>intro _;exact ⟨[],[],rfl,by simp,⟨rfl,by simp⟩,by simp,by simp⟩
      | succ k ihk =>
       intro hk
       obtain ⟨l,vals,h1,h2,h3,h4,h5⟩:=ihk (by omega)
       obtain ⟨cs',y,k1,k2,k3,k4⟩:=one k (by omega)
       refine ⟨l ++ [y],vals ++ cs',by simp [h1],?_,?_,by rw [List.length_append,h4,k3,Nat.add_mul];omega,fun j v hj=>?_⟩
       ·intro x hx'
        rw [List.mem_append] at hx'
        rcases hx' with hx' | hx'
        ·exact h2 x hx'
        ·simp at hx';subst hx';exact k1
       ·rw [List.flatMap_append]
        simp only [List.flatMap_cons,List.flatMap_nil,List.append_nil]
        exact h3.append k2
       ·rw [List.getElem?_append] at hj
        split at hj
        ·exact h5 j v hj
        ·rename_i hlt
         rw [h4] at hj hlt
         have:=k4 _ v hj
         rw [Addr.add_lit,Addr.add_lit] at this
         rw [show o + j = o + k * e.size + (j - k * e.size) by omega]
         exact this
     obtain ⟨l,vals,h1,h2,h3,h4,h5⟩:=all len (Nat.le_refl _)
     have hpos:0 < len * e.size:=Nat.mul_pos (by omega) (by omega)
     refine ⟨l,⟨by rw [h1];exact hwl,h2⟩,ptd_one ?_⟩
     rw [h1]
     refine .sl b o len cap _ vals hlc h3.1 ?_ h5 h3.2
     rw [← h3.1,h4]
     have hl:∃ v,vals[len * e.size - 1]? = some v:=⟨vals[len * e.size - 1]'(by omega),List.getElem?_eq_getElem _⟩
     obtain ⟨v,hv⟩:=hl
     have hc:=h5 _ v hv
     unfold World.cell? at hc
     unfold fullE
     split at hc
     ·rename_i c _ _ hb
      simp only [hb]
      simp at hc
      have:=(Array.getElem?_eq_some_iff.1 hc).1
      omega
     ·cases hc
  ·cases ht
 | st b ih =>
  refine ⟨fun t ht fuel cs x h hw=>?_,fun fs off h=>by simp [Ty.chk] at h⟩
  simp only [Ty.chk,Bool.and_eq_true,beq_iff_eq] at ht
  obtain ⟨ht,hsz⟩:=ht
  split at ht
  ·rename_i fs hu
   obtain ⟨xs,n,_,hxx,hl,hlen,hx⟩:=DataW.trod_struct hu h
   obtain ⟨y,h1,h2⟩:=ih.2 fs.toList 0 ht cs (by omega) (fun f hf=>by
    obtain ⟨i,hi,rfl⟩:=List.mem_iff_getElem.1 hf
    have hi':i < fs.size:=by simpa using hi
    have:=hx i fs[i] (Array.getElem?_eq_getElem hi')
    rw [List.getElem?_eq_getElem (show i < xs.length by omega)] at this
    refine ⟨n,xs[i]'(by omega),by simpa using this,fun k hk=>hw k ?_⟩
    rw [hxx]
    simp only [DataW.weights,hu]
    refine DataW.weights_mem_each (j:=i) (t:=(fs[i]).type) (d:=(xs[i]'(by omega)).1) (by simp [hi']) (by simp [show i < xs.length by omega]) k ?_
    simpa using hk)
   refine ⟨y,h1,?_⟩
   rw [List.drop_zero,List.take_of_length_le (by omega)] at h2
   exact h2
  ·cases ht
 | nil =>
  refine ⟨fun t ht=>by simp [Ty.chk] at ht,fun fs off h cs _ _=>⟨(),trivial,?_⟩⟩
  simp only [Ty.size,List.take_zero]
  exact ⟨rfl,by simp⟩
 | cons a b iha ihb =>
  refine ⟨fun t ht=>by simp [Ty.chk] at ht,fun fs off h cs hcs hf=>?_⟩
  simp only [Ty.chk] at h
  split at h
  ·rename_i f fs
   simp only [Bool.and_eq_true,beq_iff_eq] at h
   obtain ⟨⟨⟨h1,h2⟩,h3⟩,h4⟩:=h
   simp only [Ty.size] at hcs
   obtain ⟨n,x,hx,hxw⟩:=hf f (List.mem_cons_self ..)
   obtain ⟨y,k1,k2⟩:=iha.1 _ h3 _ _ _ hx hxw
   obtain ⟨z,k3,k4⟩:=ihb.2 fs (off + a.size) h4 cs (by omega) (fun g hg=>hf g (List.mem_cons_of_mem _ hg))
   refine ⟨(y,z),⟨k1,k3⟩,?_⟩
   rw [h1,h2] at k2
   have:(cs.drop off).take (Ty.size (.cons a b)) = (cs.drop off).take a.size ++ (cs.drop (off + a.size)).take b.size:=by
    simp only [Ty.size]
    rw [List.take_add,List.drop_drop]
   rw [this]
   exact k2.append k4
  ·cases h
def Ty.argD:(T:Ty)→T.ty→D
 | .int k,n=>.int k n
 | .bool,b=>.bool b
 | .str,s=>.str s
 | .sl e,l=>.sl (l.flatMap e.enc) l.length
 | .st b,x=>.agg (b.enc x)
 | .nil,_=>.und
 | .cons _ _,_=>.und
theorem ptd_head {w:World} {e:Nat→Nat} {v:Value} {d:D} (h:PtD w e [v] [d]):RepD w e v d:=h.2 0 v d rfl rfl
theorem open_arg {T:Ty} {t:TypeId} {r:Reach} {b0:Nat} {v:Value} {d:DataW H} {ps:List MemPlace} (ht:(T.chk P).1 t = true) (hval:Value.okWide P W r b0 t v) (h:DataW.Trod enc P W 0 spare held t v d ps) (hwt:∀ n ∈ d.weights P t,n≤reachBytes) :
  ∃ y:T.ty,T.ok y∧∀ (X:Ctx) (q:Own),RepV X W (topG W) q v (.d (T.argD y)):=by
 obtain ⟨fuel,h⟩:=h
 obtain ⟨y,h1,h2⟩:=(openC T).1 t ht _ _ _ h hwt
 refine ⟨y,h1,fun X q=>.d _ _ _ ?_⟩
 show RepD W (fullE W) v (T.argD y)
 cases T with
 | int k =>
  simp only [Ty.chk,Bool.and_eq_true] at ht
  obtain ⟨ht,_⟩:=ht
  split at ht
  ·rename_i k' hu
   obtain ⟨n,rfl⟩:=okWide_int hu hval
   exact ptd_head h2
  ·cases ht
 | bool =>
  simp only [Ty.chk,Bool.and_eq_true] at ht
  obtain ⟨ht,_⟩:=ht
  split at ht
  ·rename_i hu
   obtain ⟨n,rfl⟩:=okWide_bool hu hval
   exact ptd_head h2
  ·cases ht
 | str =>
  simp only [Ty.chk,Bool.and_eq_true] at ht
  obtain ⟨ht,_⟩:=ht
  split at ht
  ·rename_i hu
   obtain ⟨n,rfl⟩:=okWide_string hu hval
   exact ptd_head h2
  ·cases ht
 | sl e =>
  simp only [Ty.chk,Bool.and_eq_true] at ht
  obtain ⟨ht,_⟩:=ht
  split at ht
  ·rename_i te hu
   obtain ⟨a,n,c,rfl⟩:=okWide_slice hu hval
   exact ptd_head h2
  ·cases ht
 | st b =>
  simp only [Ty.chk,Bool.and_eq_true] at ht
  obtain ⟨ht,_⟩:=ht
  split at ht
  ·rename_i fs hu
   obtain ⟨cs,rfl,_⟩:=okWide_struct hu hval
   exact .agg cs.toList _ h2.1 h2.2
  ·cases ht
 | nil=>simp [Ty.chk] at ht
 | cons a b=>simp [Ty.chk] at ht
end
def Ty.dflt:(T:Ty)→T.ty
 | .int _=>(0:Int)
 | .bool=>false
 | .str=>([]:List UInt8)
 | .sl e=>([]:List e.ty)
 | .st b=>b.dflt
 | .nil=>()
 | .cons a b=>(a.dflt,b.dflt)
def Ty.nth (e:Ty) (l:List e.ty) (k:Nat):e.ty:=l.getD k e.dflt
abbrev Ty.slD (e:Ty) (l:List e.ty):D:=.sl (l.flatMap e.enc) l.length
abbrev Ty.tailV (e:Ty) (E:TypeId) (l:List e.ty):V:=.tail E (l.flatMap e.enc) l.length
theorem flat_nth {α:Type} (f:α→List D) (z:Nat) (h:∀ x,(f x).length = z) (d:α):∀ (l:List α) (k:Nat),k < l.length→((l.flatMap f).drop (k * z)).take z = f (l.getD k d)
 | [],_,hk=>by simp at hk
 | x :: l,0,_=>by simp [List.flatMap_cons,← h x]
 | x :: l,k + 1,hk=>by
  have e:(k + 1) * z = (f x).length + k * z:=by rw [h x,Nat.add_mul];omega
  rw [List.flatMap_cons,e,← List.drop_drop,List.drop_left]
  rw [flat_nth f z h d l k (by simpa using hk)]
  rfl
theorem flat_get {α:Type} (f:α→List D) (z:Nat) (h:∀ x,(f x).length = z) (d:α) (l:List α) (k o:Nat) (hk:k < l.length) (ho:o < z):(l.flatMap f)[k * z + o]? = (f (l.getD k d))[o]?:=by
 have:=flat_nth f z h d l k hk
 rw [← this,List.getElem?_take,if_pos ho,List.getElem?_drop]
theorem toNatPred (k:Nat):((k:Int) - 1).toNat = k - 1:=by omega
theorem toNatSucc (k:Nat):((k:Int) + 1).toNat = k + 1:=by omega
theorem iaddrSl {X:Ctx} {t te:TypeId} {z:Nat} (ht:X.P.underlying t = some (.slice te)) (hz:sizeT X.P te = some z) {c:List D} {n:Nat} {K:IntKind} {i:Int} (h0:0≤i) (hi:i < n) (hl:c.length = n * z) :
  iaddrV X t (.d (.sl c n)) (.d (.int K i)) = some (.d (.ref c (i.toNat * z))):=by
 unfold iaddrV indexAddrOp
 simp only [two2,ht,hz,V.slice?]
 rw [if_pos h0,if_pos ⟨hi,hl⟩]
theorem loadAgg {X:Ctx} {h:List Ob} {t:TypeId} {e:Ty} (hz:sizeT X.P t = some e.size) (ha:aggT X.P t = some true) {l:List e.ty} {k:Nat} (hk:k < l.length) :
  loadV X h t (.d (.ref (l.flatMap e.enc) (k * e.size))) = some (.d (.agg (e.enc (e.nth l k)))):=by
 unfold loadV loadOp
 simp only [one1,partD,hz,ha]
 have hlen:=flat_len e.enc e.size e.enc_length l
 have hm:(k + 1) * e.size≤l.length * e.size:=Nat.mul_le_mul_right _ hk
 rw [Nat.add_mul] at hm
 rw [if_pos (by omega),flat_nth e.enc e.size e.enc_length e.dflt l k hk]
 rfl
theorem loadPart {X:Ctx} {h:List Ob} {t:TypeId} {e:Ty} {z1:Nat} (hz:sizeT X.P t = some z1) (ha:aggT X.P t = some true) {l:List e.ty} {k o:Nat} (hk:k < l.length) (ho:o + z1≤e.size) :
  loadV X h t (.d (.ref (l.flatMap e.enc) (k * e.size + o))) = some (.d (.agg (((e.enc (e.nth l k)).drop o).take z1))):=by
 unfold loadV loadOp
 simp only [one1,partD,hz,ha]
 have hlen:=flat_len e.enc e.size e.enc_length l
 have hm:(k + 1) * e.size≤l.length * e.size:=Nat.mul_le_mul_right _ hk
 rw [Nat.add_mul] at hm
 have key:(((l.flatMap e.enc).drop (k * e.size + o)).take z1) = ((e.enc (e.nth l k)).drop o).take z1:=by
  rw [Ty.nth,← flat_nth e.enc e.size e.enc_length e.dflt l k hk,List.drop_take,List.take_take,List.drop_drop,Nat.min_eq_left (by omega)]
 rw [if_pos (by omega),key]
 rfl
theorem loadCell {X:Ctx} {h:List Ob} {t:TypeId} {e:Ty} {z1:Nat} (hz:sizeT X.P t = some z1) (ha:aggT X.P t = some false) {l:List e.ty} {k o:Nat} (hk:k < l.length) (ho:o < e.size) :
  loadV X h t (.d (.ref (l.flatMap e.enc) (k * e.size + o))) = some (.d ((e.enc (e.nth l k)).getD o .und)):=by
 unfold loadV loadOp
 simp only [one1,partD,hz,ha]
 have hlt:o < (e.enc (e.nth l k)).length:=by rw [e.enc_length];exact ho
 have key:(e.enc (e.nth l k))[o]? = some ((e.enc (e.nth l k)).getD o .und):=by
  rw [List.getD_eq_getElem?_getD,List.getElem?_eq_getElem hlt];rfl
 rw [flat_get e.enc e.size e.enc_length e.dflt l k o hk ho]
 show Option.map V.d ((e.enc (e.nth l k))[o]?) = _
 rw [key]
 rfl
theorem appendOne {X:Ctx} {t E:TypeId} {e:Ty} {i:TypeInfo} (hE:elemT X.P t = some E) (hi:X.P.info? E = some i) (hsz:i.size = e.size) (h0:i.size ≠ 0) (hb:i.bytes≤4096) (hzz:(zeroT X.P E).any (fun z=>z.cells.length == i.size) = true)
  {l:List e.ty} (x:e.ty) (hone:(e.enc x).all D.one = true) (hl:l.length < 2 ^ 34) :
  appendV X t t (e.tailV E l) (.full (e.enc x) 1) = some (e.tailV E (l ++ [x])):=by
 have hs:srcOf X.P t (.full (e.enc x) 1) = some (e.enc x,1):=by
  unfold elemT at hE
  unfold srcOf
  split at hE
  ·rename_i hu
   rw [hu]
   rfl
  ·cases hE
 unfold appendV
 have hi':(elemT X.P t).bind (X.P.info? ·) = some i:=by rw [hE];exact hi
 rw [hi',hs,hE]
 simp only
 rw [if_pos (by simp only [Bool.and_eq_true];exact ⟨⟨⟨by simp [h0],by simp [e.enc_length,hsz]⟩,hone⟩,hzz⟩)]
 rw [if_pos ⟨trivial,by rw [flat_len e.enc e.size e.enc_length,hsz]⟩]
 have h1:(l.length + 1) * i.bytes≤(2 ^ 34 + 1) * 4096:=Nat.mul_le_mul (by omega) hb
 rw [if_pos ⟨by simp only [bigLen];omega,by simp only [bigLen];omega⟩]
 simp [Ty.tailV,List.flatMap_append]
theorem flat_take {α:Type} (f:α→List D) (z:Nat) (h:∀ x,(f x).length = z):∀ (l:List α) (k:Nat),(l.flatMap f).take (k * z) = (l.take k).flatMap f
 | [],k=>by simp
 | x :: l,0=>by simp
 | x :: l,k + 1=>by
  have e:(k + 1) * z = (f x).length + k * z:=by rw [h x,Nat.add_mul];omega
  rw [List.take_succ_cons,List.flatMap_cons,List.flatMap_cons,e,List.take_append,List.take_of_length_le (by omega),Nat.add_sub_cancel_left,flat_take f z h l k]
theorem flat_drop {α:Type} (f:α→List D) (z:Nat) (h:∀ x,(f x).length = z):∀ (l:List α) (k:Nat),(l.flatMap f).drop (k * z) = (l.drop k).flatMap f
 | [],k=>by simp
 | x :: l,0=>by simp
 | x :: l,k + 1=>by
  have e:(k + 1) * z = (f x).length + k * z:=by rw [h x,Nat.add_mul];omega
  rw [List.drop_succ_cons,List.flatMap_cons,e,← List.drop_drop,List.drop_left,flat_drop f z h l k]
theorem sliceSl {X:Ctx} {t te:TypeId} {e:Ty} (ht:X.P.underlying t = some (.slice te)) (hz:sizeT X.P te = some e.size) {l:List e.ty} {a b:Int} (h0:0≤a) (h1:a≤b) (h2:b≤l.length) :
  sliceV X t (.d (e.slD l)) (some (.d (.int .i64 a))) (some (.d (.int .i64 b))) none = some (.d (e.slD ((l.take b.toNat).drop a.toNat))):=by
 have hb:0≤b:=by omega
 have hlen:=flat_len e.enc e.size e.enc_length l
 unfold sliceV sliceOp
 simp only [four4,ht,Ty.slD,V.slice?,hz,boundOf,Option.getD_some,Option.map_some,Option.map_none,if_pos h0,if_pos hb]
 rw [if_pos ⟨by omega,by omega,hlen⟩,flat_take _ _ e.enc_length,flat_drop _ _ e.enc_length]
 have:b.toNat - a.toNat = ((l.take b.toNat).drop a.toNat).length:=by rw [List.length_drop,List.length_take];omega
 rw [this]
theorem appendList {X:Ctx} {t u E:TypeId} {e:Ty} {i:TypeInfo} (hE:elemT X.P t = some E) (hu:(elemT X.P u).isSome = true) (hi:X.P.info? E = some i) (hsz:i.size = e.size) (h0:i.size ≠ 0) (hb:i.bytes≤4096) (hzz:(zeroT X.P E).any (fun z=>z.cells.length == i.size) = true)
  (hone:∀ x,(e.enc x).all D.one = true) {l m:List e.ty} {x:V} (hx:x.slice? = some (m.flatMap e.enc,m.length)) (hl:l.length < 2 ^ 33) (hm:m.length < 2 ^ 33) :
  appendV X t u (e.tailV E l) x = some (e.tailV E (l ++ m)):=by
 have hs:srcOf X.P u x = some (m.flatMap e.enc,m.length):=by
  obtain ⟨e',he⟩:=Option.isSome_iff_exists.1 hu
  unfold elemT at he
  unfold srcOf
  split at he
  ·rename_i hu'
   rw [hu']
   exact hx
  ·cases he
 have hall:(m.flatMap e.enc).all D.one = true:=by
  rw [List.all_eq_true]
  intro d hd
  obtain ⟨y,_,hy⟩:=List.mem_flatMap.1 hd
  exact List.all_eq_true.1 (hone y) d hy
 unfold appendV
 have hi':(elemT X.P t).bind (X.P.info? ·) = some i:=by rw [hE];exact hi
 rw [hi',hs,hE]
 simp only
 rw [if_pos (by simp only [Bool.and_eq_true];exact ⟨⟨⟨by simp [h0],by simp [flat_len e.enc e.size e.enc_length,hsz]⟩,hall⟩,hzz⟩)]
 rw [if_pos ⟨trivial,by rw [flat_len e.enc e.size e.enc_length,hsz]⟩]
 have h1:(l.length + m.length) * i.bytes≤(2 ^ 34) * 4096:=Nat.mul_le_mul (by omega) hb
 rw [if_pos ⟨by simp only [bigLen];omega,by simp only [bigLen];omega⟩]
 simp [Ty.tailV,List.flatMap_append]
end Go.Proofs.Ytaobccodpdmieaa.Pv
namespace Go.Proofs.Ytaobccodpdmieaa.Pv.G
open Go
abbrev zi (n:Int):D:=.int .i64 n
abbrev zv (n:Int):V:=.d (.int .i64 n)
abbrev zd (e:Ty) (l:List e.ty):D:=.sl (l.flatMap e.enc) l.length
abbrev zs (e:Ty) (l:List e.ty):V:=.d (.sl (l.flatMap e.enc) l.length)
abbrev zt (E:TypeId) (e:Ty) (l:List e.ty):V:=.tail E (l.flatMap e.enc) l.length
abbrev zw (n:Int):Int:=IntKind.wrap .i64 n
abbrev zo (i j:Nat):V:=.obj i j
abbrev zc (l:List V):Ob:=.cells l
abbrev zb (b:Bool):V:=.d (.bool b)
end Go.Proofs.Ytaobccodpdmieaa.Pv.G
namespace Go.Proofs.Ytaobccodpdmieaa.Utf
open Go Pv
noncomputable abbrev XR:Ctx:=X0
end Go.Proofs.Ytaobccodpdmieaa.Utf
namespace Go.Proofs.Ytaobccodpdmieaa.Cmp
open Go
abbrev Str:=List UInt8
def by_ (t:Str) (k:Nat):Nat:=(t.getD k 0).toNat
theorem by_lt (t:Str) (k:Nat):by_ t k < 256:=UInt8.toNat_lt _
def cont (t:Str) (k:Nat):Bool:=decide (k < t.length) && by_ t k / 64 == 2
def decL (t:Str):Nat × Nat :=
 if by_ t 0 < 128 then (by_ t 0,1)
 else if (by_ t 0 / 32 == 6 && cont t 1) = true then
  if (by_ t 0 % 32) * 64 + by_ t 1 % 64 ≥ 128 then ((by_ t 0 % 32) * 64 + by_ t 1 % 64,2) else (65533,1)
 else if (by_ t 0 / 16 == 14 && cont t 1 && cont t 2) = true then
  if (decide ((by_ t 0 % 16) * 4096 + (by_ t 1 % 64) * 64 + by_ t 2 % 64 ≥ 2048) && Utf8.valid (((by_ t 0 % 16) * 4096 + (by_ t 1 % 64) * 64 + by_ t 2 % 64:Nat):Int)) = true then ((by_ t 0 % 16) * 4096 + (by_ t 1 % 64) * 64 + by_ t 2 % 64,3) else (65533,1)
 else if (by_ t 0 / 8 == 30 && cont t 1 && cont t 2 && cont t 3) = true then
  if (decide ((by_ t 0 % 8) * 262144 + (by_ t 1 % 64) * 4096 + (by_ t 2 % 64) * 64 + by_ t 3 % 64 ≥ 65536) && Utf8.valid (((by_ t 0 % 8) * 262144 + (by_ t 1 % 64) * 4096 + (by_ t 2 % 64) * 64 + by_ t 3 % 64:Nat):Int)) = true then ((by_ t 0 % 8) * 262144 + (by_ t 1 % 64) * 4096 + (by_ t 2 % 64) * 64 + by_ t 3 % 64,4) else (65533,1)
 else (65533,1)
theorem get_drop (s:Str) (i k:Nat):((⟨s.toArray⟩:ByteArray).get! (i + k)).toNat = by_ (s.drop i) k:=by
 unfold by_
 congr 1
 show (s.toArray)[i + k]! = _
 rw [List.getD_eq_getElem?_getD,List.getElem?_drop]
 simp only [getElem!_def,List.getElem?_toArray]
 cases s[i + k]? <;> rfl
theorem cont_drop (s:Str) (i k:Nat):(decide (i + k < (⟨s.toArray⟩:ByteArray).size) && by_ (s.drop i) k / 64 == 2) = cont (s.drop i) k:=by
 unfold cont
 have:(i + k < (⟨s.toArray⟩:ByteArray).size) ↔ k < (s.drop i).length:=by
  have:(⟨s.toArray⟩:ByteArray).size = s.length:=by simp [ByteArray.size]
  rw [this,List.length_drop];omega
 simp only [this]
theorem decode_drop (s:Str) (i:Nat):Utf8.decode ⟨s.toArray⟩ i = decL (s.drop i):=by
 unfold Utf8.decode decL
 simp only [get_drop,cont_drop,Utf8.runeError]
def goodR (r:Int):Bool:=decide (0≤r) && decide (r≤1114111) && (decide (r < 55296) || decide (r > 57343))
def sizeR (r:Int):Int:=if goodR r then (if r < 128 then 1 else if r < 2048 then 2 else if r < 65536 then 3 else 4) else 0
def bI (t:Str) (k:Nat):Int:=(by_ t k:Int)
def num (t:Str):Nat→Int
 | 1=>bI t 0
 | 2=>64 * (bI t 0 - 192) + bI t 1 - 128
 | 3=>64 * (64 * (bI t 0 - 224) + bI t 1 - 128) + bI t 2 - 128
 | _=>64 * (64 * (64 * (bI t 0 - 240) + bI t 1 - 128) + bI t 2 - 128) + bI t 3 - 128
def encR (r:Int):Str:=(Utf8.encode r).data.toList
def okN (t:Str) (n:Nat):Bool:=decide (n≤t.length) && (sizeR (num t n) == n && encR (num t n) == t.take n)
def refStep (t:Str):Int × Int :=
 if okN t 1 then (num t 1,1) else if okN t 2 then (num t 2,2) else if okN t 3 then (num t 3,3) else if okN t 4 then (num t 4,4) else (65533,1)
theorem ofNat_inj {x b:Nat} (hx:x < 256) (hb:b < 256):UInt8.ofNat x = UInt8.ofNat b ↔ x = b:=by
 constructor
 ·intro h
  have:=congrArg UInt8.toNat h
  rw [UInt8.toNat_ofNat',UInt8.toNat_ofNat'] at this
  omega
 ·intro h;rw [h]
theorem by_ofNat (t:Str) (k:Nat) (hk:k < t.length):t[k]? = some (UInt8.ofNat (by_ t k)):=by
 unfold by_
 rw [List.getD_eq_getElem?_getD,List.getElem?_eq_getElem hk]
 simp
theorem take1 {t:Str} (h:1≤t.length):t.take 1 = [UInt8.ofNat (by_ t 0)]:=by
 apply List.ext_getElem?
 intro i
 match i with
 | 0=>rw [List.getElem?_take_of_lt (by omega),by_ofNat t 0 (by omega)];rfl
 | i + 1=>rw [List.getElem?_eq_none (by rw [List.length_take];omega)];rfl
theorem take2 {t:Str} (h:2≤t.length):t.take 2 = [UInt8.ofNat (by_ t 0),UInt8.ofNat (by_ t 1)]:=by
 apply List.ext_getElem?
 intro i
 match i with
 | 0=>rw [List.getElem?_take_of_lt (by omega),by_ofNat t 0 (by omega)];rfl
 | 1=>rw [List.getElem?_take_of_lt (by omega),by_ofNat t 1 (by omega)];rfl
 | i + 2=>rw [List.getElem?_eq_none (by rw [List.length_take];omega)];rfl
theorem take3 {t:Str} (h:3≤t.length):t.take 3 = [UInt8.ofNat (by_ t 0),UInt8.ofNat (by_ t 1),UInt8.ofNat (by_ t 2)]:=by
 apply List.ext_getElem?
 intro i
 match i with
 | 0=>rw [List.getElem?_take_of_lt (by omega),by_ofNat t 0 (by omega)];rfl
 | 1=>rw [List.getElem?_take_of_lt (by omega),by_ofNat t 1 (by omega)];rfl
 | 2=>rw [List.getElem?_take_of_lt (by omega),by_ofNat t 2 (by omega)];rfl
 | i + 3=>rw [List.getElem?_eq_none (by rw [List.length_take];omega)];rfl
theorem take4 {t:Str} (h:4≤t.length):t.take 4 = [UInt8.ofNat (by_ t 0),UInt8.ofNat (by_ t 1),UInt8.ofNat (by_ t 2),UInt8.ofNat (by_ t 3)]:=by
 apply List.ext_getElem?
 intro i
 match i with
 | 0=>rw [List.getElem?_take_of_lt (by omega),by_ofNat t 0 (by omega)];rfl
 | 1=>rw [List.getElem?_take_of_lt (by omega),by_ofNat t 1 (by omega)];rfl
 | 2=>rw [List.getElem?_take_of_lt (by omega),by_ofNat t 2 (by omega)];rfl
 | 3=>rw [List.getElem?_take_of_lt (by omega),by_ofNat t 3 (by omega)];rfl
 | i + 4=>rw [List.getElem?_eq_none (by rw [List.length_take];omega)];rfl
theorem valid_goodR (r:Int):Utf8.valid r = goodR r:=by
 unfold Utf8.valid goodR
 rw [Bool.eq_iff_iff]
 simp only [Bool.and_eq_true,Bool.or_eq_true,decide_eq_true_eq]
 omega
theorem enc1 {r:Int} (h0:0≤r) (h1:r < 128):encR r = [UInt8.ofNat r.toNat]:=by
 have hv:Utf8.valid r = true:=by rw [valid_goodR];unfold goodR;simp;omega
 unfold encR Utf8.encode
 simp only [hv,if_true]
 rw [if_pos (by omega)]
theorem enc2 {r:Int} (h0:128≤r) (h1:r < 2048):encR r = [UInt8.ofNat (192 + r.toNat / 64),UInt8.ofNat (128 + r.toNat % 64)]:=by
 have hv:Utf8.valid r = true:=by rw [valid_goodR];unfold goodR;simp;omega
 unfold encR Utf8.encode
 simp only [hv,if_true]
 rw [if_neg (by omega),if_pos (by omega)]
theorem enc3 {r:Int} (h0:2048≤r) (h1:r < 65536) (hg:goodR r = true):encR r = [UInt8.ofNat (224 + r.toNat / 4096),UInt8.ofNat (128 + r.toNat / 64 % 64),UInt8.ofNat (128 + r.toNat % 64)]:=by
 have hv:Utf8.valid r = true:=by rw [valid_goodR];exact hg
 unfold encR Utf8.encode
 simp only [hv,if_true]
 rw [if_neg (by omega),if_neg (by omega),if_pos (by omega)]
theorem enc4 {r:Int} (h0:65536≤r) (hg:goodR r = true):encR r = [UInt8.ofNat (240 + r.toNat / 262144),UInt8.ofNat (128 + r.toNat / 4096 % 64),UInt8.ofNat (128 + r.toNat / 64 % 64),UInt8.ofNat (128 + r.toNat % 64)]:=by
 have hv:Utf8.valid r = true:=by rw [valid_goodR];exact hg
 unfold encR Utf8.encode
 simp only [hv,if_true]
 rw [if_neg (by omega),if_neg (by omega),if_neg (by omega)]
theorem good_iff (r:Int):goodR r = true ↔ (0≤r∧r≤1114111∧(r < 55296∨r > 57343)):=by
 unfold goodR
 simp only [Bool.and_eq_true,Bool.or_eq_true,decide_eq_true_eq]
 omega
theorem size1_iff (r:Int):sizeR r = 1 ↔ (0≤r∧r < 128):=by
 unfold sizeR
 by_cases h:goodR r = true
 ·rw [if_pos h]
  rw [good_iff] at h
  constructor
  ·intro e;split at e
   ·omega
   ·split at e
    ·omega
    ·split at e <;> omega
  ·intro e;rw [if_pos e.2]
 ·rw [if_neg h]
  rw [good_iff] at h
  omega
theorem size2_iff (r:Int):sizeR r = 2 ↔ (128≤r∧r < 2048):=by
 unfold sizeR
 by_cases h:goodR r = true
 ·rw [if_pos h]
  rw [good_iff] at h
  constructor
  ·intro e;split at e
   ·omega
   ·split at e
    ·omega
    ·split at e <;> omega
  ·intro e;rw [if_neg (by omega),if_pos e.2]
 ·rw [if_neg h]
  rw [good_iff] at h
  omega
theorem size3_iff (r:Int):sizeR r = 3 ↔ (2048≤r∧r < 65536∧goodR r = true):=by
 unfold sizeR
 by_cases h:goodR r = true
 ·rw [if_pos h]
  constructor
  ·intro e;split at e
   ·omega
   ·split at e
    ·omega
    ·split at e
     ·exact ⟨by omega,by omega,h⟩
     ·omega
  ·intro e;rw [if_neg (by omega),if_neg (by omega),if_pos e.2.1]
 ·rw [if_neg h]
  constructor
  ·omega
  ·intro e;exact (h e.2.2).elim
theorem size4_iff (r:Int):sizeR r = 4 ↔ (65536≤r∧goodR r = true):=by
 unfold sizeR
 by_cases h:goodR r = true
 ·rw [if_pos h]
  constructor
  ·intro e;split at e
   ·omega
   ·split at e
    ·omega
    ·split at e
     ·omega
     ·exact ⟨by omega,h⟩
  ·intro e;rw [if_neg (by omega),if_neg (by omega),if_neg (by omega)]
 ·rw [if_neg h]
  constructor
  ·omega
  ·intro e;exact (h e.2).elim
theorem ok1 {t:Str} (h:t ≠ []):okN t 1 = decide (by_ t 0 < 128):=by
 have hl:1≤t.length:=by cases t with | nil=>exact (h rfl).elim | cons=>simp
 have hb:=by_lt t 0
 unfold okN
 rw [Bool.eq_iff_iff]
 simp only [Bool.and_eq_true,decide_eq_true_eq,beq_iff_eq,num,bI]
 rw [show ((1:Nat):Int) = 1 from rfl,size1_iff]
 constructor
 ·intro ⟨_,h2,_⟩;omega
 ·intro h2
  refine ⟨hl,⟨by omega,by omega⟩,?_⟩
  rw [enc1 (by omega) (by omega),take1 hl]
  simp
theorem ok2 (t:Str):okN t 2 = (by_ t 0 / 32 == 6 && cont t 1 && decide ((by_ t 0 % 32) * 64 + by_ t 1 % 64 ≥ 128))∧(okN t 2 = true→num t 2 = ((by_ t 0 % 32) * 64 + by_ t 1 % 64:Nat)):=by
 have b0:=by_lt t 0
 have b1:=by_lt t 1
 have key:okN t 2 = true ↔ 2≤t.length∧by_ t 0 / 32 = 6∧by_ t 1 / 64 = 2∧(by_ t 0 % 32) * 64 + by_ t 1 % 64 ≥ 128:=by
  unfold okN
  simp only [Bool.and_eq_true,decide_eq_true_eq,beq_iff_eq]
  rw [show ((2:Nat):Int) = 2 from rfl,size2_iff]
  constructor
  ·intro ⟨hl,hz,he⟩
   rw [enc2 hz.1 hz.2,take2 hl] at he
   simp only [num,bI] at he hz
   simp only [List.cons.injEq,and_true] at he
   rw [ofNat_inj (by omega) b0,ofNat_inj (by omega) b1] at he
   omega
  ·intro ⟨hl,h0,h1,h2⟩
   have hz:128≤num t 2∧num t 2 < 2048:=by simp only [num,bI];omega
   refine ⟨hl,hz,?_⟩
   rw [enc2 hz.1 hz.2,take2 hl]
   simp only [num,bI] at *
   simp only [List.cons.injEq,and_true]
   rw [ofNat_inj (by omega) b0,ofNat_inj (by omega) b1]
   omega
 refine ⟨?_,fun h=>?_⟩
 ·rw [Bool.eq_iff_iff,key]
  unfold cont
  simp only [Bool.and_eq_true,decide_eq_true_eq,beq_iff_eq]
  omega
 ·have:=key.1 h
  simp only [num,bI]
  omega
theorem ok3 (t:Str):okN t 3 = (by_ t 0 / 16 == 14 && cont t 1 && cont t 2 && (decide ((by_ t 0 % 16) * 4096 + (by_ t 1 % 64) * 64 + by_ t 2 % 64 ≥ 2048) && goodR (((by_ t 0 % 16) * 4096 + (by_ t 1 % 64) * 64 + by_ t 2 % 64:Nat):Int))) ∧
  (okN t 3 = true→num t 3 = ((by_ t 0 % 16) * 4096 + (by_ t 1 % 64) * 64 + by_ t 2 % 64:Nat)):=by
 have b0:=by_lt t 0
 have b1:=by_lt t 1
 have b2:=by_lt t 2
 have key:okN t 3 = true ↔ 3≤t.length∧by_ t 0 / 16 = 14∧by_ t 1 / 64 = 2∧by_ t 2 / 64 = 2∧(by_ t 0 % 16) * 4096 + (by_ t 1 % 64) * 64 + by_ t 2 % 64 ≥ 2048∧goodR (((by_ t 0 % 16) * 4096 + (by_ t 1 % 64) * 64 + by_ t 2 % 64:Nat):Int) = true:=by
  unfold okN
  simp only [Bool.and_eq_true,decide_eq_true_eq,beq_iff_eq]
  rw [show ((3:Nat):Int) = 3 from rfl,size3_iff]
  constructor
  ·intro ⟨hl,hz,he⟩
   rw [enc3 hz.1 hz.2.1 hz.2.2,take3 hl] at he
   obtain ⟨z1,z2,z3⟩:=hz
   rw [good_iff] at z3 ⊢
   simp only [num,bI] at he z1 z2 z3
   simp only [List.cons.injEq,and_true] at he
   rw [ofNat_inj (by omega) b0,ofNat_inj (by omega) b1,ofNat_inj (by omega) b2] at he
   omega
  ·intro ⟨hl,h0,h1,h2,h3,h4⟩
   rw [good_iff] at h4
   have hz:2048≤num t 3∧num t 3 < 65536∧(num t 3 < 55296∨num t 3 > 57343):=by simp only [num,bI];omega
   have hg:goodR (num t 3) = true:=by rw [good_iff];omega
   refine ⟨hl,⟨hz.1,hz.2.1,hg⟩,?_⟩
   rw [enc3 hz.1 hz.2.1 hg,take3 hl]
   simp only [num,bI] at *
   simp only [List.cons.injEq,and_true]
   rw [ofNat_inj (by omega) b0,ofNat_inj (by omega) b1,ofNat_inj (by omega) b2]
   omega
 refine ⟨?_,fun h=>?_⟩
 ·rw [Bool.eq_iff_iff,key]
  unfold cont
  simp only [Bool.and_eq_true,decide_eq_true_eq,beq_iff_eq]
  constructor
  ·intro ⟨q0,q1,q2,q3,q4,q5⟩;exact ⟨⟨⟨q1,by omega,q2⟩,by omega,q3⟩,q4,q5⟩
  ·intro ⟨⟨⟨q1,q6,q2⟩,q7,q3⟩,q4,q5⟩;exact ⟨by omega,q1,q2,q3,q4,q5⟩
 ·have:=key.1 h
  simp only [num,bI]
  omega
theorem ok4 (t:Str):okN t 4 = (by_ t 0 / 8 == 30 && cont t 1 && cont t 2 && cont t 3 && (decide ((by_ t 0 % 8) * 262144 + (by_ t 1 % 64) * 4096 + (by_ t 2 % 64) * 64 + by_ t 3 % 64 ≥ 65536) && goodR (((by_ t 0 % 8) * 262144 + (by_ t 1 % 64) * 4096 + (by_ t 2 % 64) * 64 + by_ t 3 % 64:Nat):Int))) ∧
  (okN t 4 = true→num t 4 = ((by_ t 0 % 8) * 262144 + (by_ t 1 % 64) * 4096 + (by_ t 2 % 64) * 64 + by_ t 3 % 64:Nat)):=by
 have b0:=by_lt t 0
 have b1:=by_lt t 1
 have b2:=by_lt t 2
 have b3:=by_lt t 3
 have key:okN t 4 = true ↔ 4≤t.length∧by_ t 0 / 8 = 30∧by_ t 1 / 64 = 2∧by_ t 2 / 64 = 2∧by_ t 3 / 64 = 2∧(by_ t 0 % 8) * 262144 + (by_ t 1 % 64) * 4096 + (by_ t 2 % 64) * 64 + by_ t 3 % 64 ≥ 65536∧goodR (((by_ t 0 % 8) * 262144 + (by_ t 1 % 64) * 4096 + (by_ t 2 % 64) * 64 + by_ t 3 % 64:Nat):Int) = true:=by
  unfold okN
  simp only [Bool.and_eq_true,decide_eq_true_eq,beq_iff_eq]
  rw [show ((4:Nat):Int) = 4 from rfl,size4_iff]
  constructor
  ·intro ⟨hl,hz,he⟩
   rw [enc4 hz.1 hz.2,take4 hl] at he
   obtain ⟨z1,z3⟩:=hz
   rw [good_iff] at z3 ⊢
   simp only [num,bI] at he z1 z3
   simp only [List.cons.injEq,and_true] at he
   rw [ofNat_inj (by omega) b0,ofNat_inj (by omega) b1,ofNat_inj (by omega) b2,ofNat_inj (by omega) b3] at he
   omega
  ·intro ⟨hl,h0,h1,h2,h3,h4,h5⟩
   rw [good_iff] at h5
   have hz:65536≤num t 4∧num t 4≤1114111:=by simp only [num,bI];omega
   have hg:goodR (num t 4) = true:=by rw [good_iff];omega
   refine ⟨hl,⟨hz.1,hg⟩,?_⟩
   rw [enc4 hz.1 hg,take4 hl]
   simp only [num,bI] at *
   simp only [List.cons.injEq,and_true]
   rw [ofNat_inj (by omega) b0,ofNat_inj (by omega) b1,ofNat_inj (by omega) b2,ofNat_inj (by omega) b3]
   omega
 refine ⟨?_,fun h=>?_⟩
 ·rw [Bool.eq_iff_iff,key]
  unfold cont
  simp only [Bool.and_eq_true,decide_eq_true_eq,beq_iff_eq]
  constructor
  ·intro ⟨q0,q1,q2,q3,q6,q4,q5⟩;exact ⟨⟨⟨⟨q1,by omega,q2⟩,by omega,q3⟩,by omega,q6⟩,q4,q5⟩
  ·intro ⟨⟨⟨⟨q1,_,q2⟩,_,q3⟩,q8,q6⟩,q4,q5⟩;exact ⟨by omega,q1,q2,q3,q6,q4,q5⟩
 ·have:=key.1 h
  simp only [num,bI]
  omega
theorem step_eq {t:Str} (h:t ≠ []):refStep t = (((decL t).1:Int),((decL t).2:Int)):=by
 unfold refStep decL
 rw [ok1 h]
 by_cases h1:by_ t 0 < 128
 ·rw [if_pos (by simpa using h1),if_pos h1];rfl
 rw [if_neg (by simpa using h1),if_neg h1]
 obtain ⟨e2,n2⟩:=ok2 t
 obtain ⟨e3,n3⟩:=ok3 t
 obtain ⟨e4,n4⟩:=ok4 t
 simp only [valid_goodR]
 by_cases c2:(by_ t 0 / 32 == 6 && cont t 1) = true
 ·rw [if_pos c2]
  have f3:okN t 3 = false:=by
   rw [e3]
   simp only [Bool.and_eq_true,beq_iff_eq] at c2
   have:(by_ t 0 / 16 == 14) = false:=by rw [beq_eq_false_iff_ne];omega
   rw [this];rfl
  have f4:okN t 4 = false:=by
   rw [e4]
   simp only [Bool.and_eq_true,beq_iff_eq] at c2
   have:(by_ t 0 / 8 == 30) = false:=by rw [beq_eq_false_iff_ne];omega
   rw [this];rfl
  rw [f3,f4]
  by_cases d2:(by_ t 0 % 32) * 64 + by_ t 1 % 64 ≥ 128
  ·have f2:okN t 2 = true:=by rw [e2,c2];simpa using d2
   rw [if_pos f2,if_pos d2,n2 f2];rfl
  ·have f2:okN t 2 = false:=by rw [e2,c2];simpa using d2
   rw [f2,if_neg d2];rfl
 ·rw [if_neg c2]
  have f2:okN t 2 = false:=by
   rw [e2]
   simp only [Bool.not_eq_true] at c2
   rw [c2];rfl
  rw [f2]
  simp only [Bool.false_eq_true,if_false]
  by_cases c3:(by_ t 0 / 16 == 14 && cont t 1 && cont t 2) = true
  ·rw [if_pos c3]
   have f4:okN t 4 = false:=by
    rw [e4]
    simp only [Bool.and_eq_true,beq_iff_eq] at c3
    have:(by_ t 0 / 8 == 30) = false:=by rw [beq_eq_false_iff_ne];omega
    rw [this];rfl
   rw [f4,e3,c3]
   by_cases d3:(decide ((by_ t 0 % 16) * 4096 + (by_ t 1 % 64) * 64 + by_ t 2 % 64 ≥ 2048) && goodR (((by_ t 0 % 16) * 4096 + (by_ t 1 % 64) * 64 + by_ t 2 % 64:Nat):Int)) = true
   ·rw [if_pos d3,d3]
    have f3:okN t 3 = true:=by rw [e3,c3,d3];rfl
    rw [n3 f3];rfl
   ·rw [if_neg d3]
    simp only [Bool.not_eq_true] at d3
    rw [d3];rfl
  ·rw [if_neg c3]
   have f3:okN t 3 = false:=by
    rw [e3]
    simp only [Bool.not_eq_true] at c3
    rw [c3];rfl
   rw [f3]
   simp only [Bool.false_eq_true,if_false]
   by_cases c4:(by_ t 0 / 8 == 30 && cont t 1 && cont t 2 && cont t 3) = true
   ·rw [if_pos c4,e4,c4]
    by_cases d4:(decide ((by_ t 0 % 8) * 262144 + (by_ t 1 % 64) * 4096 + (by_ t 2 % 64) * 64 + by_ t 3 % 64 ≥ 65536) && goodR (((by_ t 0 % 8) * 262144 + (by_ t 1 % 64) * 4096 + (by_ t 2 % 64) * 64 + by_ t 3 % 64:Nat):Int)) = true
    ·rw [if_pos d4,d4]
     have f4:okN t 4 = true:=by rw [e4,c4,d4];rfl
     rw [n4 f4];rfl
    ·rw [if_neg d4]
     simp only [Bool.not_eq_true] at d4
     rw [d4];rfl
   ·rw [if_neg c4]
    have f4:okN t 4 = false:=by
     rw [e4]
     simp only [Bool.not_eq_true] at c4
     rw [c4];rfl
    rw [f4];rfl
theorem decL_pos (t:Str):1≤(decL t).2∧(decL t).2≤4:=by
 unfold decL
 repeat' split
 all_goals simp
theorem decL_good (t:Str):goodR (((decL t).1:Nat):Int) = true:=by
 have b0:=by_lt t 0
 unfold decL
 simp only [valid_goodR]
 split
 ·rw [good_iff];dsimp only;omega
 ·split
  ·split
   ·rw [good_iff];dsimp only;omega
   ·decide
  ·split
   ·split
    ·rename_i h;simp only [Bool.and_eq_true] at h;exact h.2
    ·decide
   ·split
    ·split
     ·rename_i h;simp only [Bool.and_eq_true] at h;exact h.2
     ·decide
    ·decide
def decF:Nat→Str→List Int
 | 0,_=>[]
 | f + 1,t=>if t = [] then [] else ((decL t).1:Int) :: decF f (t.drop (decL t).2)
def dec (s:Str):List Int:=decF s.length s
theorem decF_fuel:∀ (f:Nat) (t:Str),t.length≤f→decF f t = dec t:=by
 intro f
 induction f using Nat.strongRecOn with
 | _ f ih =>
  intro t h
  unfold dec
  cases t with
  | nil=>cases f <;> rfl
  | cons c t =>
   cases f with
   | zero=>simp at h
   | succ f =>
    have hp:=decL_pos (c :: t)
    have hd:((c :: t).drop (decL (c :: t)).2).length≤t.length:=by rw [List.length_drop];simp;omega
    simp only [List.length_cons] at h ⊢
    rw [decF,decF,if_neg (by simp),if_neg (by simp)]
    rw [ih f (by omega) _ (by omega)]
    by_cases e:f = t.length
    ·subst e;rw [ih t.length (by omega) _ hd]
    ·rw [ih t.length (by omega) _ hd]
theorem dec_nil:dec [] = []:=rfl
theorem dec_cons {t:Str} (h:t ≠ []):dec t = ((decL t).1:Int) :: dec (t.drop (decL t).2):=by
 cases t with
 | nil=>exact (h rfl).elim
 | cons c t =>
  have hp:=decL_pos (c :: t)
  have hd:((c :: t).drop (decL (c :: t)).2).length≤t.length:=by rw [List.length_drop];simp;omega
  show decF (t.length + 1) (c :: t) = _
  rw [decF,if_neg (by simp),decF_fuel _ _ hd]
theorem dec_len:∀ (n:Nat) (t:Str),t.length≤n→(dec t).length≤t.length:=by
 intro n
 induction n with
 | zero=>intro t h;cases t with | nil=>simp [dec_nil] | cons=>simp at h
 | succ n ih =>
  intro t h
  cases t with
  | nil=>simp [dec_nil]
  | cons c t =>
   rw [dec_cons (by simp)]
   have hp:=decL_pos (c :: t)
   have hd:((c :: t).drop (decL (c :: t)).2).length≤t.length:=by rw [List.length_drop];simp;omega
   have:=ih _ (Nat.le_trans hd (by simpa using h))
   simp only [List.length_cons]
   omega
theorem dec_le (t:Str):(dec t).length≤t.length:=dec_len _ t (Nat.le_refl _)
def Goods (l:List Int):Prop:=∀ r ∈ l,goodR r = true
theorem dec_goods:∀ (n:Nat) (t:Str),t.length≤n→Goods (dec t):=by
 intro n
 induction n with
 | zero=>intro t h;cases t with | nil=>intro r hr;simp [dec_nil] at hr | cons=>simp at h
 | succ n ih =>
  intro t h
  cases t with
  | nil=>intro r hr;simp [dec_nil] at hr
  | cons c t =>
   rw [dec_cons (by simp)]
   have hp:=decL_pos (c :: t)
   have hd:((c :: t).drop (decL (c :: t)).2).length≤t.length:=by rw [List.length_drop];simp;omega
   intro r hr
   rcases List.mem_cons.1 hr with rfl | hr
   ·exact decL_good _
   ·exact ih _ (Nat.le_trans hd (by simpa using h)) r hr
theorem dec_good (t:Str):Goods (dec t):=dec_goods _ t (Nat.le_refl _)
def encAll (l:List Int):Str:=l.flatMap encR
theorem encAll_cons (r:Int) (l:List Int):encAll (r :: l) = encR r ++ encAll l:=rfl
theorem by_cons0 (x:UInt8) (t:Str):by_ (x :: t) 0 = x.toNat:=rfl
theorem ofNat_toNat {n:Nat} (h:n < 256):(UInt8.ofNat n).toNat = n:=by rw [UInt8.toNat_ofNat'];omega
theorem size_cases {r:Int} (h:goodR r = true):(0≤r∧r < 128)∨(128≤r∧r < 2048)∨(2048≤r∧r < 65536)∨(65536≤r∧r≤1114111):=by
 rw [good_iff] at h;omega
theorem decL_enc {r:Int} (h:goodR r = true) (u:Str):decL (encR r ++ u) = (r.toNat,(encR r).length):=by
 have hg:=h
 rw [good_iff] at hg
 rcases size_cases h with c | c | c | c
 ·rw [enc1 c.1 c.2]
  unfold decL
  simp only [List.cons_append,List.nil_append,by_cons0,ofNat_toNat (show r.toNat < 256 by omega)]
  rw [if_pos (by omega)];rfl
 ·rw [enc2 c.1 c.2]
  have e0:by_ ([UInt8.ofNat (192 + r.toNat / 64),UInt8.ofNat (128 + r.toNat % 64)] ++ u) 0 = 192 + r.toNat / 64:=ofNat_toNat (by omega)
  have e1:by_ ([UInt8.ofNat (192 + r.toNat / 64),UInt8.ofNat (128 + r.toNat % 64)] ++ u) 1 = 128 + r.toNat % 64:=ofNat_toNat (by omega)
  unfold decL cont
  rw [e0,e1]
  rw [if_neg (by omega),if_pos (by simp;omega),if_pos (by omega)]
  simp only [List.length_cons,List.length_nil,Prod.mk.injEq,and_true]
  omega
 ·rw [enc3 c.1 c.2 h]
  have e0:by_ ([UInt8.ofNat (224 + r.toNat / 4096),UInt8.ofNat (128 + r.toNat / 64 % 64),UInt8.ofNat (128 + r.toNat % 64)] ++ u) 0 = 224 + r.toNat / 4096:=ofNat_toNat (by omega)
  have e1:by_ ([UInt8.ofNat (224 + r.toNat / 4096),UInt8.ofNat (128 + r.toNat / 64 % 64),UInt8.ofNat (128 + r.toNat % 64)] ++ u) 1 = 128 + r.toNat / 64 % 64:=ofNat_toNat (by omega)
  have e2:by_ ([UInt8.ofNat (224 + r.toNat / 4096),UInt8.ofNat (128 + r.toNat / 64 % 64),UInt8.ofNat (128 + r.toNat % 64)] ++ u) 2 = 128 + r.toNat % 64:=ofNat_toNat (by omega)
  have en:(224 + r.toNat / 4096) % 16 * 4096 + (128 + r.toNat / 64 % 64) % 64 * 64 + (128 + r.toNat % 64) % 64 = r.toNat:=by omega
  have er:((r.toNat:Nat):Int) = r:=by omega
  unfold decL cont
  rw [e0,e1,e2,en]
  simp only [valid_goodR,er,h]
  rw [if_neg (by omega),if_neg (by simp;omega),if_pos (by simp;omega),if_pos (by simp;omega)]
  rfl
 ·rw [enc4 c.1 h]
  have e0:by_ ([UInt8.ofNat (240 + r.toNat / 262144),UInt8.ofNat (128 + r.toNat / 4096 % 64),UInt8.ofNat (128 + r.toNat / 64 % 64),UInt8.ofNat (128 + r.toNat % 64)] ++ u) 0 = 240 + r.toNat / 262144:=ofNat_toNat (by omega)
  have e1:by_ ([UInt8.ofNat (240 + r.toNat / 262144),UInt8.ofNat (128 + r.toNat / 4096 % 64),UInt8.ofNat (128 + r.toNat / 64 % 64),UInt8.ofNat (128 + r.toNat % 64)] ++ u) 1 = 128 + r.toNat / 4096 % 64:=ofNat_toNat (by omega)
  have e2:by_ ([UInt8.ofNat (240 + r.toNat / 262144),UInt8.ofNat (128 + r.toNat / 4096 % 64),UInt8.ofNat (128 + r.toNat / 64 % 64),UInt8.ofNat (128 + r.toNat % 64)] ++ u) 2 = 128 + r.toNat / 64 % 64:=ofNat_toNat (by omega)
  have e3:by_ ([UInt8.ofNat (240 + r.toNat / 262144),UInt8.ofNat (128 + r.toNat / 4096 % 64),UInt8.ofNat (128 + r.toNat / 64 % 64),UInt8.ofNat (128 + r.toNat % 64)] ++ u) 3 = 128 + r.toNat % 64:=ofNat_toNat (by omega)
  have en:(240 + r.toNat / 262144) % 8 * 262144 + (128 + r.toNat / 4096 % 64) % 64 * 4096 + (128 + r.toNat / 64 % 64) % 64 * 64 + (128 + r.toNat % 64) % 64 = r.toNat:=by omega
  have er:((r.toNat:Nat):Int) = r:=by omega
  unfold decL cont
  rw [e0,e1,e2,e3,en]
  simp only [valid_goodR,er,h]
  rw [if_neg (by omega),if_neg (by simp;omega),if_neg (by simp;omega),if_pos (by simp;omega),if_pos (by simp;omega)]
  rfl
theorem enc_ne {r:Int} (h:goodR r = true):encR r ≠ []:=by
 rcases size_cases h with c | c | c | c
 ·rw [enc1 c.1 c.2];simp
 ·rw [enc2 c.1 c.2];simp
 ·rw [enc3 c.1 c.2 h];simp
 ·rw [enc4 c.1 h];simp
theorem dec_enc1 {r:Int} (h:goodR r = true) (u:Str):dec (encR r ++ u) = r :: dec u:=by
 have hn:encR r ++ u ≠ []:=by simp [enc_ne h]
 rw [dec_cons hn,decL_enc h]
 have:=(good_iff r).1 h
 simp only [List.drop_left]
 congr 1
 omega
theorem dec_encAll {l:List Int} (h:Goods l) (u:Str):dec (encAll l ++ u) = l ++ dec u:=by
 induction l with
 | nil=>rfl
 | cons r l ih =>
  rw [encAll_cons,List.append_assoc,dec_enc1 (h r (by simp)),ih (fun x hx=>h x (by simp [hx]))]
  rfl
theorem dec_enc {l:List Int} (h:Goods l):dec (encAll l) = l:=by
 have:=dec_encAll h []
 simpa [dec_nil] using this
def clean (s:Str):Str:=encAll (dec s)
theorem dec_clean (s:Str):dec (clean s) = dec s:=dec_enc (dec_good s)
abbrev Ed:=Int × Int × Str
def put (l:List Int) (fr to:Int) (t:List Int):List Int:=l.take fr.toNat ++ t ++ l.drop to.toNat
def done (l:List Int):List Ed→List Int
 | []=>l
 | e :: es=>put (done l es) e.1 e.2.1 (dec e.2.2)
end Go.Proofs.Ytaobccodpdmieaa.Cmp
namespace Go.Proofs.Ytaobccodpdmieaa.Pv
open Go G
theorem SA:(∀ {α:Type} (a:α),(a = a) = True)∧(∀ p:Prop,(p∧True) = p)∧(∀ p:Prop,(True∧p) = p)∧(∀ b:Bool,(b && true) = b)∧(∀ b:Bool,(true && b) = b) ∧
  (∀ b:Bool,((!b) = true) = (b = false))∧(∀ b:Bool,((!b) = false) = (b = true))∧(∀ a b:Bool,((a && b) = true) = (a = true∧b = true))∧(∀ a b:Bool,((a && b) = false) ↔ (a = false∨b = false)) ∧
  (∀ (p:Prop) [Decidable p],(decide p = true) = p)∧(∀ (p:Prop) [Decidable p],(decide p = false) ↔ ¬ p) ∧
  (∀ {α:Type} [BEq α] [LawfulBEq α] (a b:α),(a == b) = true ↔ a = b)∧(∀ {α:Type} [BEq α] [LawfulBEq α] (a b:α),(a == b) = false ↔ a ≠ b) ∧
  (∀ {α:Type} [BEq α] [LawfulBEq α] (a b:α),(a != b) = true ↔ a ≠ b)∧(∀ {α:Type} [BEq α] [LawfulBEq α] (a b:α),(a != b) = false ↔ a = b) ∧
  (∀ {α:Type} (a b:α),(a ≠ b) = ¬ (a = b))∧(∀ a b:Prop,¬ (a∧b) ↔ (a→¬ b))∧(∀ n:Nat,((n:Int)).toNat = n) :=
 ⟨fun _=>by simp,fun _=>by simp,fun _=>by simp,fun _=>by simp,fun _=>by simp,fun _=>by simp,fun _=>by simp,fun _ _=>by simp,fun a b=>by cases a <;> cases b <;> simp,fun _ _=>by simp,fun _ _=>by simp,
  fun _ _=>by simp,fun _ _=>by simp,fun _ _=>by simp,fun _ _=>by simp,fun _ _=>rfl,fun _ _=>by simp,fun _=>by simp⟩
theorem SB:(∀ n:Int,-9223372036854775808≤n→n≤9223372036854775807→IntKind.wrap .i64 n = n)∧(∀ n:Int,0≤n→n≤255→IntKind.wrap .u8 n = n)∧(∀ c:UInt8,ByteArray.size ⟨#[c]⟩ = 1)∧(∀ l:List UInt8,ByteArray.size ⟨l.toArray⟩ = l.length) ∧
  (∀ {α:Type} (a:α) (l:List α),(a :: l).length = l.length + 1)∧(∀ {α:Type},([]:List α).length = 0)∧(∀ a b:Nat,((a:Int) + b).toNat = a + b)∧(∀ k:Nat,((k:Int) + 1).toNat = k + 1) ∧
  (∀ p:Prop,(p∨False) = p)∧(∀ p:Prop,(p∧True) = p)∧(∀ b:Bool,(b && true) = b)∧(∀ a b:Bool,((a && b) = true) = (a = true∧b = true))∧(∀ a b:Bool,((a && b) = false) ↔ (a = false∨b = false)) ∧
  (∀ {α:Type} [BEq α] [LawfulBEq α] (a b:α),(a == b) = true ↔ a = b)∧(∀ {α:Type} [BEq α] [LawfulBEq α] (a b:α),(a == b) = false ↔ a ≠ b)∧(∀ {α:Type} (a b:α),(a ≠ b) = ¬ (a = b))∧(∀ n:Nat,((n:Int)).toNat = n) :=
 ⟨wrapId,fun n h1 h2=>by simp [IntKind.wrap,IntKind.bits,IntKind.signed];omega,fun _=>rfl,fun l=>by simp [ByteArray.size],fun _ _=>rfl,rfl,fun _ _=>by omega,fun _=>by omega,
  fun _=>by simp,fun _=>by simp,fun _=>by simp,fun _ _=>by simp,fun a b=>by cases a <;> cases b <;> simp,fun _ _=>by simp,fun _ _=>by simp,fun _ _=>rfl,fun _=>by simp⟩
end Go.Proofs.Ytaobccodpdmieaa.Pv
