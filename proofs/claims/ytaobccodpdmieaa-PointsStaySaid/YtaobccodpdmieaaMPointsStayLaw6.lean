/- Lemmas for the law PointsStayLaw: texts of mine, merged. -/
import Derived.Test.YtaobccodpdmieaaMPointsStayLaw5
set_option linter.unusedVariables false
set_option linter.unusedSimpArgs false
set_option maxRecDepth 100000
set_option maxHeartbeats 4000000
namespace Go.Proofs.Ytaobccodpdmieaa.Lay
open Go Pv G Utf
theorem over:∀ (a b a2 b2:Int) (r:Bool) (e:overB a b a2 b2 = r),Ans XR FOver [.d (.agg [.int .i64 a,.int .i64 b]),.d (.agg [.int .i64 a2,.int .i64 b2])] (.d (.bool r)):=fun a b a2 b2 r e=>by
 subst e
 unfold overB
 by_cases h:a < b2
 ·rw [decide_eq_true h,Bool.true_and];exact over1 a b a2 b2 h
 ·rw [decide_eq_false h,Bool.false_and];exact over2 a b a2 b2 h
def Ov (ov:V):Prop:=ov = spanT.tailV 42 [] ∨ ∃ od,ov = .d od
def eqS (a b:Int) (y:Span):Bool:=spanEq a b y.1 y.2.1
def F1L (n:Int) (l:List Span) (i a b:Int) (ov:V) (pre:List Span) (x:Ex × St):Prop:=Lp XR 0 (ntOf XR FNewF) (lpKeep XR FNewF 1) (lpBody XR FNewF 1) 2 FUEL (stF1 n l i a b ov pre 0) x
def F1X (n:Int) (l:List Span) (i a b:Int) (ov:V) (pre:List Span):Prop:=F1L n l i a b ov pre (.exit 2,stF1x n l i a b ov pre)
def F1R (n:Int) (l:List Span) (i a b:Int) (ov:V) (pre:List Span) (y:Span):Prop:=F1L n l i a b ov pre (.ret,stF1r a b y.1 y.2.1)
theorem f1X (n:Int) (l:List Span) (i a b:Int) (ov:V) (hv:Ov ov) (pre:List Span) (hp:pre.length≤1000) (h:pre.any (eqS a b) = false):F1X n l i a b ov pre:=by
 rcases hv with rfl | ⟨od,rfl⟩
 ·exact Lp.run (fun k=>stF1 n l i a b (spanT.tailV 42 []) pre k) pre.length (by omega) (by kernel_rfl) (fun k hk=>f1T n l i a b pre k hp hk _ _ rfl (anyNo (e:=spanT) (eqS a b) h hk)) (f1xT n l i a b pre) (by simp)
 ·exact Lp.run (fun k=>stF1 n l i a b (.d od) pre k) pre.length (by omega) (by kernel_rfl) (fun k hk=>f1D n l i a b od pre k hp hk _ _ rfl (anyNo (e:=spanT) (eqS a b) h hk)) (f1xD n l i a b od pre) (by simp)
theorem f1R (n:Int) (l:List Span) (i a b:Int) (ov:V) (hv:Ov ov) (pre:List Span) (hp:pre.length≤1000) (h:pre.any (eqS a b) = true):∃ y,F1R n l i a b ov pre y:=by
 obtain ⟨k,hk,h1,h2⟩:=anyYes (e:=spanT) (eqS a b) h
 refine ⟨spanT.nth pre k,?_⟩
 rcases hv with rfl | ⟨od,rfl⟩
 ·exact Lp.run (fun k=>stF1 n l i a b (spanT.tailV 42 []) pre k) k (by omega) (by kernel_rfl) (fun j hj=>f1T n l i a b pre j hp (by omega) _ _ rfl (h2 j hj)) (f1rT n l i a b pre k hp hk _ _ rfl h1) (by simp)
 ·exact Lp.run (fun k=>stF1 n l i a b (.d od) pre k) k (by omega) (by kernel_rfl) (fun j hj=>f1D n l i a b od pre j hp (by omega) _ _ rfl (h2 j hj)) (f1rD n l i a b od pre k hp hk _ _ rfl h1) (by simp)
theorem f1Lx:∀ (n:Int) (l:List Span) (i a b:Int) (ov:V) (pre:List Span) (h:F1X n l i a b ov pre),Lp XR 0 (ntOf XR FNewF) (lpKeep XR FNewF 1) (lpBody XR FNewF 1) 2 FUEL ⟨[(0,.d (.int .i64 n)),(1,.d (spanT.slD l)),(4,.obj 0 0),(5,ov),(7,.obj 1 0),(25,.d (spanT.slD l)),(26,.d (.int .i64 (l.length:Int))),(27,.d (.int .i64 i)),(51,.d (spanT.slD pre)),(52,.d (.int .i64 (pre.length:Int))),(53,.d (.int .i64 0))],[resF,spO a b],[]⟩ (.exit 2,stF1x n l i a b ov pre):=fun _ _ _ _ _ _ _ h=>h
theorem f1Lr:∀ (n:Int) (l:List Span) (i a b:Int) (ov:V) (pre:List Span) (y:Span) (h:F1R n l i a b ov pre y),Lp XR 0 (ntOf XR FNewF) (lpKeep XR FNewF 1) (lpBody XR FNewF 1) 2 FUEL ⟨[(0,.d (.int .i64 n)),(1,.d (spanT.slD l)),(4,.obj 0 0),(5,ov),(7,.obj 1 0),(25,.d (spanT.slD l)),(26,.d (.int .i64 (l.length:Int))),(27,.d (.int .i64 i)),(51,.d (spanT.slD pre)),(52,.d (.int .i64 (pre.length:Int))),(53,.d (.int .i64 0))],[resF,spO a b],[]⟩ (.ret,stF1r a b y.1 y.2.1):=fun _ _ _ _ _ _ _ _ h=>h
def ltS (a b:Int) (y:Span):Bool:=decide (a < y.1) || (decide (a = y.1) && decide (b < y.2.1))
def F2Y (n:Int) (l:List Span) (i:Int) (a b:Int) (out nx:List Span) (put:Bool):Prop :=
 Lp XR 0 (ntOf XR FNewF) (lpKeep XR FNewF 2) (lpBody XR FNewF 2) 2 FUEL (stF2 n l i a b out [] false 0) (.exit 4,stF2x n l i a b out nx put)
theorem f2A (n:Int) (l:List Span) (i a b:Int) (out nx:List Span) (k:Nat) (ho:out.length≤1000) (hk:k < out.length) (hn:nx.length≤10000) (q:ltS a b (spanT.nth out k) = false) (nx2:List Span) (e2:nx ++ [spanT.nth out k] = nx2) :
  RdC XR 0 (ntOf XR FNewF) (lpKeep XR FNewF 2) (lpBody XR FNewF 2) 2 (stF2 n l i a b out nx false k) (stF2 n l i a b out nx2 false (k + 1)):=by
 obtain ⟨a2,b2,u,e⟩:∃ a2 b2,∃ u:Unit,spanT.nth out k = (a2,b2,u):=⟨_,_,_,rfl⟩
 rw [e] at q e2
 simp only [ltS,Bool.or_eq_false_iff,Bool.and_eq_false_iff,decide_eq_false_iff_not] at q
 obtain ⟨q1,q2⟩:=q
 by_cases h:a = a2
 ·exact f2A2 n l i a b out nx k ho hk hn a2 b2 e h (q2.resolve_left (fun k=>k h)) nx2 e2
 ·have h':a > a2:=by have q1':¬ a < a2:=q1;omega
  exact f2A1 n l i a b out nx k ho hk hn a2 b2 e h' nx2 e2
theorem f2B (n:Int) (l:List Span) (i a b:Int) (out nx:List Span) (k:Nat) (ho:out.length≤1000) (hk:k < out.length) (hn:nx.length≤10000) (q:ltS a b (spanT.nth out k) = true) (nx2:List Span) (e2:nx ++ [S2 a b] ++ [spanT.nth out k] = nx2) :
  RdC XR 0 (ntOf XR FNewF) (lpKeep XR FNewF 2) (lpBody XR FNewF 2) 2 (stF2 n l i a b out nx false k) (stF2 n l i a b out nx2 true (k + 1)):=by
 obtain ⟨a2,b2,u,e⟩:∃ a2 b2,∃ u:Unit,spanT.nth out k = (a2,b2,u):=⟨_,_,_,rfl⟩
 rw [e] at q e2
 simp only [ltS,Bool.or_eq_true,Bool.and_eq_true,decide_eq_true_eq] at q
 rcases q with q | ⟨q1,q2⟩
 ·exact f2B1 n l i a b out nx k ho hk hn a2 b2 e q _ nx2 rfl (by rw [List.length_append];simp;omega) e2
 ·exact f2B2 n l i a b out nx k ho hk hn a2 b2 e q1 q2 _ nx2 rfl (by rw [List.length_append];simp;omega) e2
theorem f2Y (n:Int) (l:List Span) (i a b:Int) (out:List Span) (ho:out.length≤1000) :
  (∃ nx,F2Y n l i a b out nx true∧nx = insB (ltS a b) (S2 a b) out)∨(∃ nx,F2Y n l i a b out nx false∧nx ++ [S2 a b] = insB (ltS a b) (S2 a b) out):=by
 cases h:out.any (ltS a b) with
 | false =>
  refine .inr ⟨out,?_,(insB_none _ _ _ h).symm⟩
  have hx2:Rd XR 0 (ntOf XR FNewF) (lpBody XR FNewF 2) (stF2 n l i a b out (out.take out.length) false out.length) (.exit 4,stF2x n l i a b out out false):=by rw [List.take_length];exact f2X n l i a b out out false
  exact Lp.run (fun k=>stF2 n l i a b out (out.take k) false k) out.length (by omega) (by kernel_rfl)
   (fun k hk=>f2A n l i a b out _ k ho hk (by rw [List.length_take];omega) (anyNo (e:=spanT) (ltS a b) h hk) _ (take_get spanT.dflt hk)) hx2 (by simp)
 | true =>
  obtain ⟨p,hp,h1,h2⟩:=anyYes (e:=spanT) (ltS a b) h
  refine .inl ⟨nxI p (S2 a b) out out.length,?_,?_⟩
  ·refine Lp.run (fun k=>stF2 n l i a b out (nxI p (S2 a b) out k) (decide (p < k)) k) out.length (by omega) (by kernel_rfl) (fun k hk=>?_) ?_ (by simp)
   ·have hl:=nxI_len (p:=p) (x:=S2 a b) (out:=out) (k:=k) (by omega)
    by_cases hlt:k < p
    ·rw [decide_eq_false (by omega),decide_eq_false (by omega)]
     exact f2A n l i a b out _ k ho hk (by omega) (h2 k hlt) _ (nxI_lt spanT.dflt hk hlt)
    ·by_cases heq:k = p
     ·subst heq
      rw [decide_eq_false (by omega),decide_eq_true (by omega)]
      exact f2B n l i a b out _ k ho hk (by omega) h1 _ (nxI_eq spanT.dflt hk)
     ·rw [decide_eq_true (by omega),decide_eq_true (by omega)]
      exact f2C n l i a b out _ k ho hk (by omega) _ _ rfl _ (nxI_gt spanT.dflt hk (by omega))
   ·have:=f2X n l i a b out (nxI p (S2 a b) out out.length) true
    rw [decide_eq_true hp]
    exact this
  ·rw [nxI_end hp]
   exact (insB_at _ _ spanT.dflt _ p hp h1 h2).symm
theorem f2Lp:∀ (n:Int) (l:List Span) (i a b:Int) (out nx:List Span) (put:Bool) (h:F2Y n l i a b out nx put),
 Lp XR 0 (ntOf XR FNewF) (lpKeep XR FNewF 2) (lpBody XR FNewF 2) 2 FUEL ⟨[(0,.d (.int .i64 n)),(1,.d (spanT.slD l)),(4,.obj 0 0),(7,.obj 1 0),(10,spanT.tailV 42 []),(11,.d (.bool false)),(25,.d (spanT.slD l)),(26,.d (.int .i64 (l.length:Int))),(27,.d (.int .i64 i)),(62,.d (spanT.slD out)),(63,.d (.int .i64 (out.length:Int))),(64,.d (.int .i64 0))],[resF,spO a b],[]⟩ (.exit 4,stF2x n l i a b out nx put):=fun _ _ _ _ _ _ _ _ h=>h
theorem f2Lp0:∀ (n:Int) (l:List Span) (i a b:Int) (nx:List Span) (hx:([]:List Span) = nx),
 Lp XR 0 (ntOf XR FNewF) (lpKeep XR FNewF 2) (lpBody XR FNewF 2) 2 FUEL ⟨[(0,.d (.int .i64 n)),(1,.d (spanT.slD l)),(4,.obj 0 0),(7,.obj 1 0),(10,spanT.tailV 42 []),(11,.d (.bool false)),(25,.d (spanT.slD l)),(26,.d (.int .i64 (l.length:Int))),(27,.d (.int .i64 i)),(62,.d (.sl [] 0)),(63,.d (.int .i64 0)),(64,.d (.int .i64 0))],[resF,spO a b],[]⟩
  (.exit 4,⟨[(0,.d (.int .i64 n)),(1,.d (spanT.slD l)),(4,.obj 0 0),(7,.obj 1 0),(10,spanT.tailV 42 nx),(11,.d (.bool false)),(25,.d (spanT.slD l)),(26,.d (.int .i64 (l.length:Int))),(27,.d (.int .i64 i)),(62,.d (.sl [] 0)),(63,.d (.int .i64 0)),(64,.d (.int .i64 0)),(65,.d (.bool false))],[resF,spO a b],[]⟩):=fun n l i a b nx hx=>by
 subst hx
 exact Lp.run0 (by kernel_rfl) (f2X n l i a b [] [] false) (by simp)
abbrev stF0 (n:Int) (l:List Span) (ov:V) (i:Int):St:=⟨[(0,.d (.int .i64 n)),(1,.d (spanT.slD l)),(4,.obj 0 0),(5,ov),(25,.d (spanT.slD l)),(26,.d (.int .i64 (l.length:Int))),(27,.d (.int .i64 i))],[resF],[]⟩
abbrev stF0x (n:Int) (l:List Span) (ov:V):St:=⟨[(0,.d (.int .i64 n)),(1,.d (spanT.slD l)),(4,.obj 0 0),(5,ov),(25,.d (spanT.slD l)),(26,.d (.int .i64 (l.length:Int))),(27,.d (.int .i64 (l.length:Int))),(28,.d (.bool false))],[resF],[]⟩
abbrev stF0r (a b:Int):St:=⟨[(4,.obj 0 0)],[.cells [.d (.int .i64 0),spanT.tailV 42 [],.d (.int .i64 1)],spO a b],[]⟩
theorem f0T (n:Int) (l:List Span) (i:Nat) (hl:l.length≤1000) (hi:i < l.length) (a b:Int) (e:spanT.nth l i = S2 a b) (q1:¬ a < 0) (q2:¬ a ≥ b) (q3:¬ b > n) (pre:List Span) (ep:l.take i = pre) (hp:pre.length≤1000) (q4:F1X n l i a b (spanT.tailV 42 []) pre) (nx:List Span) (hx:([]:List Span) = nx) (hn:nx.length≤1000) (out2:List Span) (eo:nx ++ [S2 a b] = out2):RdC XR 0 (ntOf XR FNewF) (lpKeep XR FNewF 0) (lpBody XR FNewF 0) 1 (stF0 n l (spanT.tailV 42 []) i) (stF0 n l (.d (spanT.slD out2)) (i + 1)):=by
 have hx0:(decide ((↑i:Int) < (↑l.length:Int))) = true:=decide_eq_true (by omega)
 have hx1:(decide (a < (0:Int))) = false:=decide_eq_false (by omega)
 have hx2:(decide (a ≥ b)) = false:=decide_eq_false (by omega)
 have hx3:(decide (b > n)) = false:=decide_eq_false (by omega)
 exact (pC (st':={ s:=[(0,(zv n)),(1,(zs spanT l)),(4,(zo 0 0)),(5,(zs spanT out2)),(25,(zs spanT l)),(26,(zv (↑l.length:Int))),(27,(zv (zw ((↑i:Int) + (1:Int)))))],h:=[(zc [(zv 0),(V.tail (nat_lit 42) [] 0),(zv 0)])],og:=[] }) 12 [(1,bt),(2,.v (V.d (D.ref (List.flatMap (Ty.enc spanT) l) (i * 2)))),(3,.v (V.d (D.agg [(zi a),(zi b)]))),(6,bf),(7,bf),(9,bf),(10,bf),(12,bf),(14,bf),(15,bf),(16,bf),(18,bf),(19,bf),(21,bf),(22,bf),(23,.v (V.d (Ty.slD spanT pre))),(25,.l (Ex.exit 2) (stF1x n l (↑i:Int) a b (V.tail (nat_lit 42) [] 0) pre)),(27,.l (Ex.exit 4) ({ s:=[(0,(zv n)),(1,(V.d (Ty.slD spanT l))),(4,(zo 0 0)),(7,(zo 1 0)),(10,(Ty.tailV spanT (42 : TypeId) nx)),(11,(zb false)),(25,(V.d (Ty.slD spanT l))),(26,(zv (↑l.length:Int))),(27,(zv ↑i)),(62,(V.d (D.sl [] 0))),(63,(zv 0)),(64,(zv 0)),(65,(zb false))],h:=[resF,(spO a b)],og:=[] })),(30,.v (Ty.tailV spanT (42 : TypeId) out2))] (cP (@appendSpan (nx) (a) (b) (by omega) (out2) eo) (cE (@f2Lp0 (n) (l) ((↑i:Int)) (a) (b) (nx) hx) (cE (@f1Lx (n) (l) ((↑i:Int)) (a) (b) (V.tail (nat_lit 42) [] 0) (pre) (by assumption)) (cP (@sliceSpan (l) (i) (by omega) (pre) ep) (cP hx3 (cP hx2 (cP hx2 (cP hx2 (cP hx2 (cP hx2 (cP hx1 (cP hx1 (cP hx1 (cP hx1 (cP hx1 (cP hx1 (cP (@loadSpanE (l) ([(zc [(zv 0),(V.tail (nat_lit 42) [] 0),(zv 0)])]) (i) hi (a) (b) e) (cP (@iaddrSpanN (l) (i) hi) (cP hx0 nilE))))))))))))))))))) (by kernel_rfl)).to (by subst_vars;simp (disch:=omega) [Ty.enc,wrapId,wrapI32,toNatPred,toNatSucc,Ty.slD, *])
theorem f0P (n:Int) (l:List Span) (out:List Span) (i:Nat) (hl:l.length≤1000) (hi:i < l.length) (a b:Int) (e:spanT.nth l i = S2 a b) (q1:¬ a < 0) (q2:¬ a ≥ b) (q3:¬ b > n) (pre:List Span) (ep:l.take i = pre) (hp:pre.length≤1000) (q4:F1X n l i a b (.d (spanT.slD out)) pre) (out2:List Span) (hy:F2Y n l i a b out out2 true):RdC XR 0 (ntOf XR FNewF) (lpKeep XR FNewF 0) (lpBody XR FNewF 0) 1 (stF0 n l (.d (spanT.slD out)) i) (stF0 n l (.d (spanT.slD out2)) (i + 1)):=by
 have hx0:(decide ((↑i:Int) < (↑l.length:Int))) = true:=decide_eq_true (by omega)
 have hx1:(decide (a < (0:Int))) = false:=decide_eq_false (by omega)
 have hx2:(decide (a ≥ b)) = false:=decide_eq_false (by omega)
 have hx3:(decide (b > n)) = false:=decide_eq_false (by omega)
 exact (pC (st':={ s:=[(0,(zv n)),(1,(zs spanT l)),(4,(zo 0 0)),(5,(zs spanT out2)),(25,(zs spanT l)),(26,(zv (↑l.length:Int))),(27,(zv (zw ((↑i:Int) + (1:Int)))))],h:=[(zc [(zv 0),(V.tail (nat_lit 42) [] 0),(zv 0)])],og:=[] }) 12 [(1,bt),(2,.v (V.d (D.ref (List.flatMap (Ty.enc spanT) l) (i * 2)))),(3,.v (V.d (D.agg [(zi a),(zi b)]))),(6,bf),(7,bf),(9,bf),(10,bf),(12,bf),(14,bf),(15,bf),(16,bf),(18,bf),(19,bf),(21,bf),(22,bf),(23,.v (V.d (Ty.slD spanT pre))),(25,.l (Ex.exit 2) (stF1x n l (↑i:Int) a b (zs spanT out) pre)),(27,.l (Ex.exit 4) (stF2x n l (↑i:Int) a b out out2 true))] (cE (@f2Lp (n) (l) ((↑i:Int)) (a) (b) (out) (out2) (true) hy) (cE (@f1Lx (n) (l) ((↑i:Int)) (a) (b) (zs spanT out) (pre) q4) (cP (@sliceSpan (l) (i) (by omega) (pre) ep) (cP hx3 (cP hx2 (cP hx2 (cP hx2 (cP hx2 (cP hx2 (cP hx1 (cP hx1 (cP hx1 (cP hx1 (cP hx1 (cP hx1 (cP (@loadSpanE (l) ([(zc [(zv 0),(V.tail (nat_lit 42) [] 0),(zv 0)])]) (i) hi (a) (b) e) (cP (@iaddrSpanN (l) (i) hi) (cP hx0 nilE)))))))))))))))))) (by kernel_rfl)).to (by simp (disch:=omega) [wrapId, *])
theorem f0N (n:Int) (l:List Span) (out:List Span) (i:Nat) (hl:l.length≤1000) (hi:i < l.length) (a b:Int) (e:spanT.nth l i = S2 a b) (q1:¬ a < 0) (q2:¬ a ≥ b) (q3:¬ b > n) (pre:List Span) (ep:l.take i = pre) (hp:pre.length≤1000) (q4:F1X n l i a b (.d (spanT.slD out)) pre) (nx:List Span) (hy:F2Y n l i a b out nx false) (hn:nx.length≤1000000) (out2:List Span) (eo:nx ++ [S2 a b] = out2):RdC XR 0 (ntOf XR FNewF) (lpKeep XR FNewF 0) (lpBody XR FNewF 0) 1 (stF0 n l (.d (spanT.slD out)) i) (stF0 n l (.d (spanT.slD out2)) (i + 1)):=by
 have hx0:(decide ((↑i:Int) < (↑l.length:Int))) = true:=decide_eq_true (by omega)
 have hx1:(decide (a < (0:Int))) = false:=decide_eq_false (by omega)
 have hx2:(decide (a ≥ b)) = false:=decide_eq_false (by omega)
 have hx3:(decide (b > n)) = false:=decide_eq_false (by omega)
 exact (pC (st':={ s:=[(0,(zv n)),(1,(zs spanT l)),(4,(zo 0 0)),(5,(zs spanT out2)),(25,(zs spanT l)),(26,(zv (↑l.length:Int))),(27,(zv (zw ((↑i:Int) + (1:Int)))))],h:=[(zc [(zv 0),(V.tail (nat_lit 42) [] 0),(zv 0)])],og:=[] }) 12 [(1,bt),(2,.v (V.d (D.ref (List.flatMap (Ty.enc spanT) l) (i * 2)))),(3,.v (V.d (D.agg [(zi a),(zi b)]))),(6,bf),(7,bf),(9,bf),(10,bf),(12,bf),(14,bf),(15,bf),(16,bf),(18,bf),(19,bf),(21,bf),(22,bf),(23,.v (V.d (Ty.slD spanT pre))),(25,.l (Ex.exit 2) (stF1x n l (↑i:Int) a b (zs spanT out) pre)),(27,.l (Ex.exit 4) (stF2x n l (↑i:Int) a b out nx false)),(30,.v (Ty.tailV spanT (42 : TypeId) out2))] (cP (@appendSpan (nx) (a) (b) hn (out2) eo) (cE (@f2Lp (n) (l) ((↑i:Int)) (a) (b) (out) (nx) (false) hy) (cE (@f1Lx (n) (l) ((↑i:Int)) (a) (b) (zs spanT out) (pre) q4) (cP (@sliceSpan (l) (i) (by omega) (pre) ep) (cP hx3 (cP hx2 (cP hx2 (cP hx2 (cP hx2 (cP hx2 (cP hx1 (cP hx1 (cP hx1 (cP hx1 (cP hx1 (cP hx1 (cP (@loadSpanE (l) ([(zc [(zv 0),(V.tail (nat_lit 42) [] 0),(zv 0)])]) (i) hi (a) (b) e) (cP (@iaddrSpanN (l) (i) hi) (cP hx0 nilE))))))))))))))))))) (by kernel_rfl)).to (by simp (disch:=omega) [wrapId, *])
theorem f0aT (n:Int) (l:List Span) (i:Nat) (hl:l.length≤1000) (hi:i < l.length) (a b:Int) (e:spanT.nth l i = S2 a b) (q1:a < 0):Rd XR 0 (ntOf XR FNewF) (lpBody XR FNewF 0) (stF0 n l (spanT.tailV 42 []) i) (.ret,stF0r a b):=by
 have hx0:(decide ((↑i:Int) < (↑l.length:Int))) = true:=decide_eq_true (by omega)
 have hx1:(decide (a < (0:Int))) = true:=decide_eq_true (by omega)
 exact pR 12 [(1,bt),(2,.v (V.d (D.ref (List.flatMap (Ty.enc spanT) l) (i * 2)))),(3,.v (V.d (D.agg [(zi a),(zi b)]))),(6,bt),(7,bt),(8,bt),(9,bt),(10,bt),(11,bt)] (cP hx1 (cP hx1 (cP hx1 (cP hx1 (cP hx1 (cP hx1 (cP (@loadSpanE (l) ([(zc [(zv 0),(V.tail (nat_lit 42) [] 0),(zv 0)])]) (i) hi (a) (b) e) (cP (@iaddrSpanN (l) (i) hi) (cP hx0 nilE))))))))) (by kernel_rfl)
theorem f0bT (n:Int) (l:List Span) (i:Nat) (hl:l.length≤1000) (hi:i < l.length) (a b:Int) (e:spanT.nth l i = S2 a b) (q1:¬ a < 0) (q2:a ≥ b):Rd XR 0 (ntOf XR FNewF) (lpBody XR FNewF 0) (stF0 n l (spanT.tailV 42 []) i) (.ret,stF0r a b):=by
 have hx0:(decide ((↑i:Int) < (↑l.length:Int))) = true:=decide_eq_true (by omega)
 have hx1:(decide (a < (0:Int))) = false:=decide_eq_false (by omega)
 have hx2:(decide (a ≥ b)) = true:=decide_eq_true (by omega)
 exact pR 12 [(1,bt),(2,.v (V.d (D.ref (List.flatMap (Ty.enc spanT) l) (i * 2)))),(3,.v (V.d (D.agg [(zi a),(zi b)]))),(6,bf),(7,bf),(9,bf),(10,bf),(12,bf),(14,bf),(15,bt),(16,bt),(17,bt),(18,bt),(19,bt)] (cP hx2 (cP hx2 (cP hx2 (cP hx2 (cP hx2 (cP hx1 (cP hx1 (cP hx1 (cP hx1 (cP hx1 (cP hx1 (cP (@loadSpanE (l) ([(zc [(zv 0),(V.tail (nat_lit 42) [] 0),(zv 0)])]) (i) hi (a) (b) e) (cP (@iaddrSpanN (l) (i) hi) (cP hx0 nilE)))))))))))))) (by kernel_rfl)
theorem f0cT (n:Int) (l:List Span) (i:Nat) (hl:l.length≤1000) (hi:i < l.length) (a b:Int) (e:spanT.nth l i = S2 a b) (q1:¬ a < 0) (q2:¬ a ≥ b) (q3:b > n):Rd XR 0 (ntOf XR FNewF) (lpBody XR FNewF 0) (stF0 n l (spanT.tailV 42 []) i) (.ret,stF0r a b):=by
 have hx0:(decide ((↑i:Int) < (↑l.length:Int))) = true:=decide_eq_true (by omega)
 have hx1:(decide (a < (0:Int))) = false:=decide_eq_false (by omega)
 have hx2:(decide (a ≥ b)) = false:=decide_eq_false (by omega)
 have hx3:(decide (b > n)) = true:=decide_eq_true (by omega)
 exact pR 12 [(1,bt),(2,.v (V.d (D.ref (List.flatMap (Ty.enc spanT) l) (i * 2)))),(3,.v (V.d (D.agg [(zi a),(zi b)]))),(6,bf),(7,bf),(9,bf),(10,bf),(12,bf),(14,bf),(15,bf),(16,bf),(18,bf),(19,bf),(21,bf),(22,bt)] (cP hx3 (cP hx2 (cP hx2 (cP hx2 (cP hx2 (cP hx2 (cP hx1 (cP hx1 (cP hx1 (cP hx1 (cP hx1 (cP hx1 (cP (@loadSpanE (l) ([(zc [(zv 0),(V.tail (nat_lit 42) [] 0),(zv 0)])]) (i) hi (a) (b) e) (cP (@iaddrSpanN (l) (i) hi) (cP hx0 nilE))))))))))))))) (by kernel_rfl)
theorem f0xT (n:Int) (l:List Span):Rd XR 0 (ntOf XR FNewF) (lpBody XR FNewF 0) (stF0 n l (spanT.tailV 42 []) l.length) (.exit 0,stF0x n l (spanT.tailV 42 [])):=by
 have hx0:(decide ((↑l.length:Int) < (↑l.length:Int))) = false:=decide_eq_false (by omega)
 exact (pR (r:=((Ex.exit 0),{ s:=[(0,(zv n)),(1,(zs spanT l)),(4,(zo 0 0)),(5,(V.tail (nat_lit 42) [] 0)),(25,(zs spanT l)),(26,(zv (↑l.length:Int))),(27,(zv (↑l.length:Int))),(28,(zb (decide ((↑l.length:Int) < (↑l.length:Int)))))],h:=[(zc [(zv 0),(V.tail (nat_lit 42) [] 0),(zv 0)])],og:=[] })) 12 [(1,bf)] (cP hx0 nilE) (by kernel_rfl)).to (by simp (disch:=omega) [wrapId, *])
theorem f0aD (n:Int) (l:List Span) (out:List Span) (i:Nat) (hl:l.length≤1000) (hi:i < l.length) (a b:Int) (e:spanT.nth l i = S2 a b) (q1:a < 0):Rd XR 0 (ntOf XR FNewF) (lpBody XR FNewF 0) (stF0 n l (.d (spanT.slD out)) i) (.ret,stF0r a b):=by
 have hx0:(decide ((↑i:Int) < (↑l.length:Int))) = true:=decide_eq_true (by omega)
 have hx1:(decide (a < (0:Int))) = true:=decide_eq_true (by omega)
 exact pR 12 [(1,bt),(2,.v (V.d (D.ref (List.flatMap (Ty.enc spanT) l) (i * 2)))),(3,.v (V.d (D.agg [(zi a),(zi b)]))),(6,bt),(7,bt),(8,bt),(9,bt),(10,bt),(11,bt)] (cP hx1 (cP hx1 (cP hx1 (cP hx1 (cP hx1 (cP hx1 (cP (@loadSpanE (l) ([(zc [(zv 0),(V.tail (nat_lit 42) [] 0),(zv 0)])]) (i) hi (a) (b) e) (cP (@iaddrSpanN (l) (i) hi) (cP hx0 nilE))))))))) (by kernel_rfl)
theorem f0bD (n:Int) (l:List Span) (out:List Span) (i:Nat) (hl:l.length≤1000) (hi:i < l.length) (a b:Int) (e:spanT.nth l i = S2 a b) (q1:¬ a < 0) (q2:a ≥ b):Rd XR 0 (ntOf XR FNewF) (lpBody XR FNewF 0) (stF0 n l (.d (spanT.slD out)) i) (.ret,stF0r a b):=by
 have hx0:(decide ((↑i:Int) < (↑l.length:Int))) = true:=decide_eq_true (by omega)
 have hx1:(decide (a < (0:Int))) = false:=decide_eq_false (by omega)
 have hx2:(decide (a ≥ b)) = true:=decide_eq_true (by omega)
 exact pR 12 [(1,bt),(2,.v (V.d (D.ref (List.flatMap (Ty.enc spanT) l) (i * 2)))),(3,.v (V.d (D.agg [(zi a),(zi b)]))),(6,bf),(7,bf),(9,bf),(10,bf),(12,bf),(14,bf),(15,bt),(16,bt),(17,bt),(18,bt),(19,bt)] (cP hx2 (cP hx2 (cP hx2 (cP hx2 (cP hx2 (cP hx1 (cP hx1 (cP hx1 (cP hx1 (cP hx1 (cP hx1 (cP (@loadSpanE (l) ([(zc [(zv 0),(V.tail (nat_lit 42) [] 0),(zv 0)])]) (i) hi (a) (b) e) (cP (@iaddrSpanN (l) (i) hi) (cP hx0 nilE)))))))))))))) (by kernel_rfl)
theorem f0cD (n:Int) (l:List Span) (out:List Span) (i:Nat) (hl:l.length≤1000) (hi:i < l.length) (a b:Int) (e:spanT.nth l i = S2 a b) (q1:¬ a < 0) (q2:¬ a ≥ b) (q3:b > n):Rd XR 0 (ntOf XR FNewF) (lpBody XR FNewF 0) (stF0 n l (.d (spanT.slD out)) i) (.ret,stF0r a b):=by
 have hx0:(decide ((↑i:Int) < (↑l.length:Int))) = true:=decide_eq_true (by omega)
 have hx1:(decide (a < (0:Int))) = false:=decide_eq_false (by omega)
 have hx2:(decide (a ≥ b)) = false:=decide_eq_false (by omega)
 have hx3:(decide (b > n)) = true:=decide_eq_true (by omega)
 exact pR 12 [(1,bt),(2,.v (V.d (D.ref (List.flatMap (Ty.enc spanT) l) (i * 2)))),(3,.v (V.d (D.agg [(zi a),(zi b)]))),(6,bf),(7,bf),(9,bf),(10,bf),(12,bf),(14,bf),(15,bf),(16,bf),(18,bf),(19,bf),(21,bf),(22,bt)] (cP hx3 (cP hx2 (cP hx2 (cP hx2 (cP hx2 (cP hx2 (cP hx1 (cP hx1 (cP hx1 (cP hx1 (cP hx1 (cP hx1 (cP (@loadSpanE (l) ([(zc [(zv 0),(V.tail (nat_lit 42) [] 0),(zv 0)])]) (i) hi (a) (b) e) (cP (@iaddrSpanN (l) (i) hi) (cP hx0 nilE))))))))))))))) (by kernel_rfl)
theorem f0dD (n:Int) (l:List Span) (out:List Span) (i:Nat) (hl:l.length≤1000) (hi:i < l.length) (a b:Int) (e:spanT.nth l i = S2 a b) (q1:¬ a < 0) (q2:¬ a ≥ b) (q3:¬ b > n) (pre:List Span) (ep:l.take i = pre) (hp:pre.length≤1000) (y:Span) (q4:F1R n l i a b (.d (spanT.slD out)) pre y):Rd XR 0 (ntOf XR FNewF) (lpBody XR FNewF 0) (stF0 n l (.d (spanT.slD out)) i) (.ret,stF1r a b y.1 y.2.1):=by
 have hx0:(decide ((↑i:Int) < (↑l.length:Int))) = true:=decide_eq_true (by omega)
 have hx1:(decide (a < (0:Int))) = false:=decide_eq_false (by omega)
 have hx2:(decide (a ≥ b)) = false:=decide_eq_false (by omega)
 have hx3:(decide (b > n)) = false:=decide_eq_false (by omega)
 exact pR 12 [(1,bt),(2,.v (V.d (D.ref (List.flatMap (Ty.enc spanT) l) (i * 2)))),(3,.v (V.d (D.agg [(zi a),(zi b)]))),(6,bf),(7,bf),(9,bf),(10,bf),(12,bf),(14,bf),(15,bf),(16,bf),(18,bf),(19,bf),(21,bf),(22,bf),(23,.v (V.d (Ty.slD spanT pre))),(25,.l (Ex.ret) (stF1r a b (Prod.fst y) (Prod.fst (Prod.snd y))))] (cE (@f1Lr (n) (l) ((↑i:Int)) (a) (b) (zs spanT out) (pre) (y) q4) (cP (@sliceSpan (l) (i) (by omega) (pre) ep) (cP hx3 (cP hx2 (cP hx2 (cP hx2 (cP hx2 (cP hx2 (cP hx1 (cP hx1 (cP hx1 (cP hx1 (cP hx1 (cP hx1 (cP (@loadSpanE (l) ([(zc [(zv 0),(V.tail (nat_lit 42) [] 0),(zv 0)])]) (i) hi (a) (b) e) (cP (@iaddrSpanN (l) (i) hi) (cP hx0 nilE))))))))))))))))) (by kernel_rfl)
theorem f0xD (n:Int) (l:List Span) (out:List Span):Rd XR 0 (ntOf XR FNewF) (lpBody XR FNewF 0) (stF0 n l (.d (spanT.slD out)) l.length) (.exit 0,stF0x n l (.d (spanT.slD out))):=by
 have hx0:(decide ((↑l.length:Int) < (↑l.length:Int))) = false:=decide_eq_false (by omega)
 exact (pR (r:=((Ex.exit 0),{ s:=[(0,(zv n)),(1,(zs spanT l)),(4,(zo 0 0)),(5,(zs spanT out)),(25,(zs spanT l)),(26,(zv (↑l.length:Int))),(27,(zv (↑l.length:Int))),(28,(zb (decide ((↑l.length:Int) < (↑l.length:Int)))))],h:=[(zc [(zv 0),(V.tail (nat_lit 42) [] 0),(zv 0)])],og:=[] })) 12 [(1,bf)] (cP hx0 nilE) (by kernel_rfl)).to (by simp (disch:=omega) [wrapId, *])
def wrF (n:Int) (l:List Span) (i:Nat):Int :=
 let a:Int:=(spanT.nth l i).1
 let b:Int:=(spanT.nth l i).2.1
 if a < 0∨a ≥ b∨b > n then 1 else if (l.take i).any (eqS a b) = true then 8 else 0
def putF (out:List Span) (x:Span):List Span:=insB (ltS x.1 x.2.1) x out
def outF (l:List Span):List Span:=l.foldl putF []
theorem outF_succ {l:List Span} {k:Nat} (h:k < l.length):outF (l.take (k + 1)) = putF (outF (l.take k)) (spanT.nth l k):=by
 unfold outF
 rw [take_succ_nth (e:=spanT) h,List.foldl_append];rfl
theorem foldl_putF_len:∀ (l out:List Span),(l.foldl putF out).length = out.length + l.length
 | [],_=>rfl
 | x :: l,out=>by rw [List.foldl_cons,foldl_putF_len l,putF,insB_len,List.length_cons];omega
theorem outF_len (l:List Span):(outF l).length = l.length:=by
 unfold outF;rw [foldl_putF_len];simp
def ovF (l:List Span) (k:Nat):V:=if k = 0 then spanT.tailV 42 [] else .d (spanT.slD (outF (l.take k)))
theorem f0 (n:Int) (l:List Span) (hl:l.length≤1000) (k:Nat) (hk:k < l.length) (hw:wrF n l k = 0) :
  RdC XR 0 (ntOf XR FNewF) (lpKeep XR FNewF 0) (lpBody XR FNewF 0) 1 (stF0 n l (ovF l k) k) (stF0 n l (ovF l (k + 1)) (k + 1)):=by
 obtain ⟨a,b,u,e⟩:∃ a b,∃ u:Unit,spanT.nth l k = (a,b,u):=⟨_,_,_,rfl⟩
 have hs:=outF_succ hk
 unfold putF at hs
 unfold wrF at hw
 rw [e] at hw hs
 simp only at hw hs
 have hp:(l.take k).length≤1000:=by rw [List.length_take];omega
 have hq:¬ (a < 0∨a ≥ b∨b > n):=by intro h;rw [if_pos h] at hw;cases hw
 rw [if_neg hq] at hw
 have hd:(l.take k).any (eqS a b) = false:=by
  cases h:(l.take k).any (eqS a b) with
  | false=>rfl
  | true=>rw [if_pos h] at hw;cases hw
 have q1:¬ (a:Int) < 0:=fun h=>hq (.inl h)
 have q2:¬ (a:Int) ≥ b:=fun h=>hq (.inr (.inl h))
 have q3:¬ (b:Int) > n:=fun h=>hq (.inr (.inr h))
 unfold ovF
 rw [if_neg (show ¬ (k + 1 = 0) by omega)]
 by_cases h0:k = 0
 ·subst h0
  rw [if_pos rfl,hs]
  exact f0T n l 0 hl hk a b e q1 q2 q3 _ rfl hp (f1X n l _ a b _ (.inl rfl) _ hp hd) [] rfl (by simp) _ rfl
 ·rw [if_neg h0]
  have ho:=outF_len (l.take k)
  rw [List.length_take] at ho
  have hf:=f1X n l k a b (.d (spanT.slD (outF (l.take k)))) (.inr ⟨_,rfl⟩) (l.take k) hp hd
  rcases f2Y n l k a b (outF (l.take k)) (by omega) with ⟨nx,h1,h2⟩ | ⟨nx,h1,h2⟩
  ·have hs':outF (l.take (k + 1)) = nx:=hs.trans h2.symm
   rw [hs']
   exact f0P n l (outF (l.take k)) k hl hk a b e q1 q2 q3 _ rfl hp hf nx h1
  ·have hl2:=congrArg List.length h2
   rw [insB_len,List.length_append,List.length_singleton] at hl2
   exact f0N n l (outF (l.take k)) k hl hk a b e q1 q2 q3 _ rfl hp hf nx h1 (by omega) _ (h2.trans hs.symm)
def FR (x:Ex × St) (w:Int):Prop:=(w = 1∧∃ a b,x = (.ret,stF0r a b))∨(w = 8∧∃ a b a2 b2,x = (.ret,stF1r a b a2 b2))
theorem f0r (n:Int) (l:List Span) (hl:l.length≤1000) (k:Nat) (hk:k < l.length) (w:Int) (hw:wrF n l k = w) (hw0:w ≠ 0) :
  ∃ x,FR x w∧Rd XR 0 (ntOf XR FNewF) (lpBody XR FNewF 0) (stF0 n l (ovF l k) k) x:=by
 obtain ⟨a,b,u,e⟩:∃ a b,∃ u:Unit,spanT.nth l k = (a,b,u):=⟨_,_,_,rfl⟩
 unfold wrF at hw
 rw [e] at hw
 simp only at hw
 have hp:(l.take k).length≤1000:=by rw [List.length_take];omega
 by_cases q1:(a:Int) < 0
 ·rw [if_pos (.inl q1)] at hw
  refine ⟨_,.inl ⟨hw.symm,a,b,rfl⟩,?_⟩
  unfold ovF;split
  ·exact f0aT n l k hl hk a b e q1
  ·exact f0aD n l _ k hl hk a b e q1
 by_cases q2:(a:Int) ≥ b
 ·rw [if_pos (.inr (.inl q2))] at hw
  refine ⟨_,.inl ⟨hw.symm,a,b,rfl⟩,?_⟩
  unfold ovF;split
  ·exact f0bT n l k hl hk a b e q1 q2
  ·exact f0bD n l _ k hl hk a b e q1 q2
 by_cases q3:(b:Int) > n
 ·rw [if_pos (.inr (.inr q3))] at hw
  refine ⟨_,.inl ⟨hw.symm,a,b,rfl⟩,?_⟩
  unfold ovF;split
  ·exact f0cT n l k hl hk a b e q1 q2 q3
  ·exact f0cD n l _ k hl hk a b e q1 q2 q3
 rw [if_neg (by intro h;rcases h with h | h | h;exact q1 h;exact q2 h;exact q3 h)] at hw
 cases h:(l.take k).any (eqS a b) with
 | false=>rw [if_neg (by simp [h])] at hw;exact (hw0 hw.symm).elim
 | true =>
  rw [if_pos h] at hw
  have h0:k ≠ 0:=by rintro rfl;simp at h
  obtain ⟨y,hy⟩:=f1R n l k a b (.d (spanT.slD (outF (l.take k)))) (.inr ⟨_,rfl⟩) (l.take k) hp h
  refine ⟨_,.inr ⟨hw.symm,a,b,y.1,y.2.1,rfl⟩,?_⟩
  unfold ovF;rw [if_neg h0]
  exact f0dD n l _ k hl hk a b e q1 q2 q3 _ rfl hp y hy
abbrev stF00 (n:Int) (l:List Span):St:=⟨[(0,.d (.int .i64 n)),(1,.d (spanT.slD l)),(4,.obj 0 0),(5,spanT.tailV 42 []),(25,.d (spanT.slD l)),(26,.d (.int .i64 (l.length:Int))),(27,.d (.int .i64 0))],[resF],[]⟩
def F0L (n:Int) (l:List Span) (x:Ex × St):Prop:=Lp XR 0 (ntOf XR FNewF) (lpKeep XR FNewF 0) (lpBody XR FNewF 0) 1 FUEL (stF00 n l) x
def F0X (n:Int) (l:List Span) (ov:V):Prop:=F0L n l (.exit 0,stF0x n l ov)
def F0A (n:Int) (l:List Span) (a b:Int):Prop:=F0L n l (.ret,stF0r a b)
def F0B (n:Int) (l:List Span) (a b a2 b2:Int):Prop:=F0L n l (.ret,stF1r a b a2 b2)
theorem f0X (n:Int) (l:List Span) (hl:l.length≤1000) (hw:∀ k,k < l.length→wrF n l k = 0):F0X n l (if l.length = 0 then spanT.tailV 42 [] else .d (spanT.slD (outF l))):=by
 have hx:Rd XR 0 (ntOf XR FNewF) (lpBody XR FNewF 0) (stF0 n l (ovF l l.length) l.length) (.exit 0,stF0x n l (ovF l l.length)):=by
  unfold ovF
  split
  ·exact f0xT n l
  ·exact f0xD n l _
 have e:ovF l l.length = (if l.length = 0 then spanT.tailV 42 [] else .d (spanT.slD (outF l))):=by unfold ovF;rw [List.take_length]
 rw [← e]
 exact Lp.run (fun k=>stF0 n l (ovF l k) k) l.length (by omega) (by kernel_rfl) (fun k hk=>f0 n l hl k hk (hw k hk)) hx (by simp)
theorem f0R (n:Int) (l:List Span) (hl:l.length≤1000) (k:Nat) (hk:k < l.length) (w:Int) (hw:wrF n l k = w) (hw0:w ≠ 0) (hj:∀ j,j < k→wrF n l j = 0):(w = 1∧∃ a b,F0A n l a b)∨(w = 8∧∃ a b a2 b2,F0B n l a b a2 b2):=by
 obtain ⟨x,h1,h2⟩:=f0r n l hl k hk w hw hw0
 have run:∀ st,Rd XR 0 (ntOf XR FNewF) (lpBody XR FNewF 0) (stF0 n l (ovF l k) k) (.ret,st)→F0L n l (.ret,st):=fun st h2 =>
  Lp.run (fun k=>stF0 n l (ovF l k) k) k (by omega) (by kernel_rfl) (fun j h=>f0 n l hl j (by omega) (hj j h)) h2 (by simp)
 rcases h1 with ⟨e,a,b,rfl⟩ | ⟨e,a,b,a2,b2,rfl⟩
 ·exact .inl ⟨e,a,b,run _ h2⟩
 ·exact .inr ⟨e,a,b,a2,b2,run _ h2⟩
theorem f0Lx:∀ (n:Int) (l:List Span) (ov:V) (h:F0X n l ov),Lp XR 0 (ntOf XR FNewF) (lpKeep XR FNewF 0) (lpBody XR FNewF 0) 1 FUEL (stF00 n l) (.exit 0,stF0x n l ov):=fun _ _ _ h=>h
theorem f0La:∀ (n:Int) (l:List Span) (a b:Int) (h:F0A n l a b),Lp XR 0 (ntOf XR FNewF) (lpKeep XR FNewF 0) (lpBody XR FNewF 0) 1 FUEL (stF00 n l) (.ret,stF0r a b):=fun _ _ _ _ h=>h
theorem f0Lb:∀ (n:Int) (l:List Span) (a b a2 b2:Int) (h:F0B n l a b a2 b2),Lp XR 0 (ntOf XR FNewF) (lpKeep XR FNewF 0) (lpBody XR FNewF 0) 1 FUEL (stF00 n l) (.ret,stF1r a b a2 b2):=fun _ _ _ _ _ _ h=>h
theorem newFT (n:Int) (h0:¬ n < 0) (h1:¬ n > 1099511627776) (l:List Span) (hl:l.length≤60) (q:F0X n l (spanT.tailV 42 [])):Ans XR FNewF [.d (.int .i64 n),.d (spanT.slD l)] (.d (.agg [.int .i64 n,.sl [] 0,.int .i64 0])):=by
 have hx0:(decide (n < (0:Int))) = false:=decide_eq_false (by omega)
 have hx1:(decide (n > (1099511627776:Int))) = false:=decide_eq_false (by omega)
 have hx2:(decide ((↑l.length:Int) > (60:Int))) = false:=decide_eq_false (by omega)
 exact pV 12 [(1,bf),(2,bf),(4,bf),(5,bf),(8,bf),(10,.l (Ex.exit (0:Nat)) (stF0x n l (Ty.tailV spanT (42 : TypeId) [])))] (cE (@f0Lx (n) (l) (Ty.tailV spanT (42 : TypeId) []) q) (cP hx2 (cP hx1 (cP hx0 (cP hx0 (cP hx0 nilE)))))) (by kernel_rfl) rfl rfl
theorem newFD (n:Int) (h0:¬ n < 0) (h1:¬ n > 1099511627776) (l:List Span) (hl:l.length≤60) (o:List Span) (q:F0X n l (.d (spanT.slD o))):Ans XR FNewF [.d (.int .i64 n),.d (spanT.slD l)] (.d (.agg [.int .i64 n,spanT.slD o,.int .i64 0])):=by
 have hx0:(decide (n < (0:Int))) = false:=decide_eq_false (by omega)
 have hx1:(decide (n > (1099511627776:Int))) = false:=decide_eq_false (by omega)
 have hx2:(decide ((↑l.length:Int) > (60:Int))) = false:=decide_eq_false (by omega)
 exact pV 12 [(1,bf),(2,bf),(4,bf),(5,bf),(8,bf),(10,.l (Ex.exit (0:Nat)) (stF0x n l (V.d (Ty.slD spanT o))))] (cE (@f0Lx (n) (l) (V.d (Ty.slD spanT o)) q) (cP hx2 (cP hx1 (cP hx0 (cP hx0 (cP hx0 nilE)))))) (by kernel_rfl) rfl rfl
theorem newFA (n:Int) (h0:¬ n < 0) (h1:¬ n > 1099511627776) (l:List Span) (hl:l.length≤60) (a b:Int) (q:F0A n l a b):Ans XR FNewF [.d (.int .i64 n),.d (spanT.slD l)] (.d (.agg [.int .i64 0,.sl [] 0,.int .i64 1])):=by
 have hx0:(decide (n < (0:Int))) = false:=decide_eq_false (by omega)
 have hx1:(decide (n > (1099511627776:Int))) = false:=decide_eq_false (by omega)
 have hx2:(decide ((↑l.length:Int) > (60:Int))) = false:=decide_eq_false (by omega)
 exact pV 12 [(1,bf),(2,bf),(4,bf),(5,bf),(8,bf),(10,.l (Ex.ret) (stF0r a b))] (cE (@f0La (n) (l) (a) (b) q) (cP hx2 (cP hx1 (cP hx0 (cP hx0 (cP hx0 nilE)))))) (by kernel_rfl) rfl rfl
theorem newFB (n:Int) (h0:¬ n < 0) (h1:¬ n > 1099511627776) (l:List Span) (hl:l.length≤60) (a b a2 b2:Int) (q:F0B n l a b a2 b2):Ans XR FNewF [.d (.int .i64 n),.d (spanT.slD l)] (.d (.agg [.int .i64 0,.sl [] 0,.int .i64 8])):=by
 have hx0:(decide (n < (0:Int))) = false:=decide_eq_false (by omega)
 have hx1:(decide (n > (1099511627776:Int))) = false:=decide_eq_false (by omega)
 have hx2:(decide ((↑l.length:Int) > (60:Int))) = false:=decide_eq_false (by omega)
 exact pV 12 [(1,bf),(2,bf),(4,bf),(5,bf),(8,bf),(10,.l (Ex.ret) (stF1r a b a2 b2))] (cE (@f0Lb (n) (l) (a) (b) (a2) (b2) q) (cP hx2 (cP hx1 (cP hx0 (cP hx0 (cP hx0 nilE)))))) (by kernel_rfl) rfl rfl
def firstErr (f:Nat→Int):Nat→Int
 | 0=>0
 | n + 1=>if firstErr f n = 0 then f n else firstErr f n
theorem firstErr_zero {f:Nat→Int}:∀ {n},firstErr f n = 0→∀ k,k < n→f k = 0
 | 0,_,k,hk=>absurd hk (Nat.not_lt_zero _)
 | n + 1,h,k,hk=>by
  unfold firstErr at h
  by_cases e:firstErr f n = 0
  ·rw [if_pos e] at h
   by_cases h':k = n
   ·rw [h'];exact h
   ·exact firstErr_zero e k (by omega)
  ·rw [if_neg e] at h;exact (e h).elim
theorem firstErr_pos {f:Nat→Int}:∀ {n},firstErr f n ≠ 0→∃ k,k < n∧f k = firstErr f n∧∀ j,j < k→f j = 0
 | 0,h=>(h rfl).elim
 | n + 1,h=>by
  unfold firstErr at h ⊢
  by_cases e:firstErr f n = 0
  ·rw [if_pos e] at h ⊢
   exact ⟨n,by omega,rfl,fun j hj=>firstErr_zero e j hj⟩
  ·rw [if_neg e] at h ⊢
   obtain ⟨k,h1,h2,h3⟩:=firstErr_pos e
   exact ⟨k,by omega,h2,h3⟩
def errF (n:Int) (l:List Span):Int:=firstErr (wrF n l) l.length
def setF (n:Int) (l:List Span) (w:Int):List D:=if w = 0 then [.int .i64 n,spanT.slD (outF l),.int .i64 0] else [.int .i64 0,.sl [] 0,.int .i64 w]
theorem newF:∀ (n:Int) (h0:¬ n < 0) (h1:¬ n > 1099511627776) (l:List Span) (hl:l.length≤60),Ans XR FNewF [.d (.int .i64 n),.d (spanT.slD l)] (.d (.agg (setF n l (errF n l)))):=fun n h0 h1 l hl=>by
 unfold setF
 by_cases h:errF n l = 0
 ·rw [if_pos h]
  have hx:=f0X n l (by omega) (firstErr_zero h)
  by_cases hz:l.length = 0
  ·rw [if_pos hz] at hx
   obtain rfl:l = []:=List.length_eq_zero_iff.1 hz
   exact newFT n h0 h1 [] hl hx
  ·rw [if_neg hz] at hx
   exact newFD n h0 h1 l hl _ hx
 ·rw [if_neg h]
  obtain ⟨k,hk,e1,e2⟩:=firstErr_pos h
  rcases f0R n l (by omega) k hk _ e1 h e2 with ⟨w,a,b,hx⟩ | ⟨w,a,b,a2,b2,hx⟩
  ·have w':errF n l = 1:=w
   rw [w'];exact newFA n h0 h1 l hl a b hx
  ·have w':errF n l = 8:=w
   rw [w'];exact newFB n h0 h1 l hl a b a2 b2 hx
theorem iaddrSpanW:∀ (l:List Span) (i:Nat) (hb:l.length≤1000000) (hi:i + 1 < l.length),iaddrV XR 23 (.d (spanT.slD l)) (.d (.int .i64 (IntKind.wrap .i64 ((i:Int) + 1)))) = some (.d (.ref (l.flatMap spanT.enc) ((i + 1) * 2))):=fun l i hb hi=>by
 have:=iaddrSpanN l (i + 1) hi
 rwa [show IntKind.wrap .i64 ((i:Int) + 1) = ((i + 1:Nat):Int) by rw [wrapId _ (by omega) (by omega)];omega]
theorem loadSpanA:∀ (l:List Span) (h:List Ob) (k:Nat) (hk:k < l.length) (a b:Int) (e:spanT.nth l k = S2 a b),loadV XR h 3 (.d (.ref (l.flatMap spanT.enc) (k * 2))) = some (.d (.int .i64 a)):=fun l h k hk a b e=>by
 have:=loadCell (X:=XR) (h:=h) (t := 3) (e:=spanT) (z1:=1) (o:=0) (by kernel_rfl) (by kernel_rfl) hk (show 0 < 2 by omega)
 rw [e] at this
 exact this
theorem loadSpanB:∀ (l:List Span) (h:List Ob) (k:Nat) (hk:k < l.length) (a b:Int) (e:spanT.nth l k = S2 a b),loadV XR h 3 (.d (.ref (l.flatMap spanT.enc) (k * 2 + 1))) = some (.d (.int .i64 b)):=fun l h k hk a b e=>by
 have:=loadCell (X:=XR) (h:=h) (t := 3) (e:=spanT) (z1:=1) (o:=1) (by kernel_rfl) (by kernel_rfl) hk (show 1 < 2 by omega)
 rw [e] at this
 exact this
theorem sliceSpanLo:∀ (l:List Span) (k:Nat) (hb:l.length≤1000000) (h2:k + 2≤l.length) (l2:List Span) (e:l.drop (k + 2) = l2),sliceV XR 23 (.d (spanT.slD l)) (some (.d (.int .i64 (IntKind.wrap .i64 ((k:Int) + 2))))) none none = some (.d (spanT.slD l2)):=fun l k hb h2 l2 e=>by
 subst e
 have:=sliceLo (X:=XR) (t := 23) (e:=spanT) (te := 42) (l:=l) (a:=((k + 2:Nat):Int)) (by kernel_rfl) (by kernel_rfl) (by omega) (by omega)
 rwa [show IntKind.wrap .i64 ((k:Int) + 2) = ((k + 2:Nat):Int) by rw [wrapId _ (by omega) (by omega)];omega]
theorem appendSpans:∀ (l m:List Span) (hl:l.length≤1000000) (hm:m.length≤1000000) (l2:List Span) (e:l ++ m = l2),appendV XR 23 23 (spanT.tailV 42 l) (.d (spanT.slD m)) = some (spanT.tailV 42 l2):=fun l m hl hm l2 e=>by
 subst e
 exact appendList (e:=spanT) (E := 42) (i:=(XR.P.info? 42).getD default) (by kernel_rfl) (by kernel_rfl) (by kernel_rfl) (by kernel_rfl) (by decide +kernel) (by decide +kernel) (by kernel_rfl) (fun _=>rfl) (m:=m) rfl (by omega) (by omega)
theorem appendSpans0:∀ (m:List Span) (hm:m.length≤1000000),appendV XR 23 23 (spanT.tailV 42 []) (.d (spanT.slD m)) = some (spanT.tailV 42 m):=fun m hm=>appendSpans [] m (by simp) hm m rfl
abbrev FHid:FuncId := 41
abbrev stH (d1 d2 d3:D) (lv:V) (i:Int):St:=⟨[(3,lv),(4,.d (.int .i64 i))],[.cells [.d d1,.d d2,.d d3]],[]⟩
abbrev stHx (d1 d2 d3:D) (lv:V) (i:Int):St:=⟨[(3,lv),(4,.d (.int .i64 i)),(15,.d (.bool false))],[.cells [.d d1,.d d2,.d d3]],[]⟩
abbrev FHd:FuncId := 64
abbrev FSh:FuncId := 63
abbrev textL (r:List Int) (n:Int) (il:List Inl) (w:Int) (hid:List Span):List D:=[i32T.slD r,.int .i64 n,inlT.slD il,.int .i64 w,spanT.slD hid]
abbrev textO (r:List Int) (n:Int) (il:List Inl) (w:Int) (hid:List Span):Ob:=.cells [.d (i32T.slD r),.d (.int .i64 n),.d (inlT.slD il),.d (.int .i64 w),.d (spanT.slD hid)]
abbrev stHd (r:List Int) (n:Int) (il:List Inl) (w:Int) (hid:List Span) (at_:Int) (k:Int):St:=⟨[(1,.d (.int .i64 at_)),(4,.obj 1 0),(8,.d (spanT.slD hid)),(9,.d (.int .i64 (hid.length:Int))),(10,.d (.int .i64 k))],[textO r n il w hid,spO 0 0],[]⟩
abbrev stHdx (r:List Int) (n:Int) (il:List Inl) (w:Int) (hid:List Span) (at_:Int):St:=⟨[(1,.d (.int .i64 at_)),(4,.obj 1 0),(8,.d (spanT.slD hid)),(9,.d (.int .i64 (hid.length:Int))),(10,.d (.int .i64 (hid.length:Int))),(11,.d (.bool false))],[textO r n il w hid,spO 0 0],[]⟩
abbrev stHdr (r:List Int) (n:Int) (il:List Inl) (w:Int) (hid:List Span) (a b:Int):St:=⟨[(4,.obj 1 0)],[textO r n il w hid,spO a b,spO a b],[]⟩
theorem hAT (d1 d2 d3:D) (l:List Span) (i:Nat) (hl:l.length≤1000) (hi:i + 1 < l.length) (hi2:i < l.length) (a b a2 b2:Int) (e1:spanT.nth l i = S2 a b) (e2:spanT.nth l (i + 1) = S2 a2 b2) (q:overB a b a2 b2 = false):RdC XR 0 (ntOf XR FHid) (lpKeep XR FHid 0) (lpBody XR FHid 0) 1 (stH d1 d2 d3 (spanT.tailV 42 l) i) (stH d1 d2 d3 (spanT.tailV 42 l) (i + 1)):=by
 have hx0:(decide ((IntKind.wrap IntKind.i64 ((↑i:Int) + (1:Int))) < (↑l.length:Int))) = true:=by (first | assumption | (((try simp only [SA] at *);(try simp (disch:=omega) only [SB,wrapI32,reduceCtorEq] at *)) <;> first | omega | assumption | (refine ⟨?_,?_⟩ <;> assumption) | (intros;assumption)))
 exact (pC (st':={ s:=[(3,(zt 42 spanT l)),(4,(zv (zw ((↑i:Int) + (1:Int)))))],h:=[(zc [(V.d d1),(V.d d2),(V.d d3)])],og:=[] }) 12 [(3,bt),(4,.v (V.d (D.ref (List.flatMap (Ty.enc spanT) l) (i * 2)))),(5,.v (V.d (D.agg [(zi a),(zi b)]))),(7,.v (V.d (D.ref (List.flatMap (Ty.enc spanT) l) ((i + 1) * 2)))),(8,.v (V.d (D.agg [(zi a2),(zi b2)]))),(9,.v (zb false))] (cC (@over (a) (b) (a2) (b2) (false) q) (cP (@loadSpanE (l) ([(zc [(V.d d1),(V.d d2),(V.d d3)])]) (i + 1) hi (a2) (b2) e2) (cP (@iaddrSpanW (l) (i) (by omega) hi) (cP (@loadSpanE (l) ([(zc [(V.d d1),(V.d d2),(V.d d3)])]) (i) hi2 (a) (b) e1) (cP (@iaddrSpanN (l) (i) hi2) (cP hx0 nilE)))))) (by kernel_rfl)).to (by first | (apply Eq.refl;done) | ((try simp (disch:=omega) only [tdivNn,Int.tmod_eq_emod_of_nonneg,wrapId,wrapI32,wrapU8,List.length_cons,List.length_nil,toNatSucc] at *) <;> (try simp only [Int.toNat_natCast,beq_iff_eq,beq_eq_false_iff_ne,bne_iff_ne,bne_eq_false_iff_eq,ne_eq,Int.natCast_eq_zero,Int.natCast_inj] at *) <;> first | (simp (disch:=omega) [Ty.enc,tdivNn,Int.tmod_eq_emod_of_nonneg,wrapId,wrapI32,wrapU8,toNatPred,toNatSucc,List.length_cons,List.length_nil,Ty.slD, *];done) | (subst_vars;simp (disch:=omega) [Ty.enc,tdivNn,Int.tmod_eq_emod_of_nonneg,wrapId,wrapI32,wrapU8,toNatPred,toNatSucc,List.length_cons,List.length_nil,Ty.slD, *];done) | (simp [goodR,sizeR, *];done) | (simp only [goodR,sizeR,SA] at *;simp [*];omega)))
theorem hBT (d1 d2 d3:D) (l:List Span) (i:Nat) (hl:l.length≤1000) (hi:i + 1 < l.length) (hi2:i < l.length) (a b a2 b2:Int) (e1:spanT.nth l i = S2 a b) (e2:spanT.nth l (i + 1) = S2 a2 b2) (q:overB a b a2 b2 = true) (q2:b2 > b) (l1 l2 l3 l4:List Span) (k1:l.take i = l1) (z1:l1.length≤1000) (k2:l1 ++ [S2 a b2] = l2) (z2:l2.length≤1000) (k3:l.drop (i + 2) = l3) (z3:l3.length≤1000) (k4:l2 ++ l3 = l4):RdC XR 0 (ntOf XR FHid) (lpKeep XR FHid 0) (lpBody XR FHid 0) 1 (stH d1 d2 d3 (spanT.tailV 42 l) i) (stH d1 d2 d3 (.d (spanT.slD l4)) i):=by
 have hx0:(decide ((IntKind.wrap IntKind.i64 ((↑i:Int) + (1:Int))) < (↑l.length:Int))) = true:=by (first | assumption | (((try simp only [SA] at *);(try simp (disch:=omega) only [SB,wrapI32,reduceCtorEq] at *)) <;> first | omega | assumption | (refine ⟨?_,?_⟩ <;> assumption) | (intros;assumption)))
 have hx1:(decide (b2 > b)) = true:=decide_eq_true (by omega)
 exact pC 12 [(3,bt),(4,.v (V.d (D.ref (List.flatMap (Ty.enc spanT) l) (i * 2)))),(5,.v (V.d (D.agg [(zi a),(zi b)]))),(7,.v (V.d (D.ref (List.flatMap (Ty.enc spanT) l) ((i + 1) * 2)))),(8,.v (V.d (D.agg [(zi a2),(zi b2)]))),(9,.v (zb true)),(11,.v (V.d (D.ref (List.flatMap (Ty.enc spanT) l) (i * 2)))),(12,.v (zv b)),(14,.v (V.d (D.ref (List.flatMap (Ty.enc spanT) l) ((i + 1) * 2)))),(15,.v (zv b2)),(17,bt),(19,.v (V.d (D.ref (List.flatMap (Ty.enc spanT) l) ((i + 1) * 2)))),(20,.v (zv b2)),(21,.v (V.d (Ty.slD spanT l1))),(22,.v (Ty.tailV spanT (42 : TypeId) l1)),(23,.v (V.d (D.ref (List.flatMap (Ty.enc spanT) l) (i * 2)))),(24,.v (zv a)),(25,.v (Ty.tailV spanT (42 : TypeId) l2)),(27,.v (V.d (Ty.slD spanT l3))),(28,.v (Ty.tailV spanT (42 : TypeId) l4))] (cP (@appendSpans (l2) (l3) (by omega) (by omega) (l4) k4) (cP (@sliceSpanLo (l) (i) (by omega) (by assumption) (l3) k3) (cP (@appendSpan (l1) (a) (b2) (by omega) (l2) k2) (cP (@loadSpanA (l) ([(zc [(V.d d1),(V.d d2),(V.d d3)])]) (i) hi2 (a) (b) e1) (cP (@iaddrSpanN (l) (i) hi2) (cP (@appendSpans0 (l1) (by omega)) (cP (@sliceSpan (l) (i) (by omega) (l1) k1) (cP (@loadSpanB (l) ([(zc [(V.d d1),(V.d d2),(V.d d3)])]) (i + 1) hi (a2) (b2) e2) (cP (@iaddrSpanW (l) (i) (by omega) hi) (cP hx1 (cP (@loadSpanB (l) ([(zc [(V.d d1),(V.d d2),(V.d d3)])]) (i + 1) hi (a2) (b2) e2) (cP (@iaddrSpanW (l) (i) (by omega) hi) (cP (@loadSpanB (l) ([(zc [(V.d d1),(V.d d2),(V.d d3)])]) (i) hi2 (a) (b) e1) (cP (@iaddrSpanN (l) (i) hi2) (cC (@over (a) (b) (a2) (b2) (true) q) (cP (@loadSpanE (l) ([(zc [(V.d d1),(V.d d2),(V.d d3)])]) (i + 1) hi (a2) (b2) e2) (cP (@iaddrSpanW (l) (i) (by omega) hi) (cP (@loadSpanE (l) ([(zc [(V.d d1),(V.d d2),(V.d d3)])]) (i) hi2 (a) (b) e1) (cP (@iaddrSpanN (l) (i) hi2) (cP hx0 nilE)))))))))))))))))))) (by kernel_rfl)
theorem hCT (d1 d2 d3:D) (l:List Span) (i:Nat) (hl:l.length≤1000) (hi:i + 1 < l.length) (hi2:i < l.length) (a b a2 b2:Int) (e1:spanT.nth l i = S2 a b) (e2:spanT.nth l (i + 1) = S2 a2 b2) (q:overB a b a2 b2 = true) (q2:¬ b2 > b) (l1 l2 l3 l4:List Span) (k1:l.take i = l1) (z1:l1.length≤1000) (k2:l1 ++ [S2 a b] = l2) (z2:l2.length≤1000) (k3:l.drop (i + 2) = l3) (z3:l3.length≤1000) (k4:l2 ++ l3 = l4):RdC XR 0 (ntOf XR FHid) (lpKeep XR FHid 0) (lpBody XR FHid 0) 1 (stH d1 d2 d3 (spanT.tailV 42 l) i) (stH d1 d2 d3 (.d (spanT.slD l4)) i):=by
 have hx0:(decide ((IntKind.wrap IntKind.i64 ((↑i:Int) + (1:Int))) < (↑l.length:Int))) = true:=by (first | assumption | (((try simp only [SA] at *);(try simp (disch:=omega) only [SB,wrapI32,reduceCtorEq] at *)) <;> first | omega | assumption | (refine ⟨?_,?_⟩ <;> assumption) | (intros;assumption)))
 have hx1:(decide (b2 > b)) = false:=decide_eq_false (by omega)
 exact pC 12 [(3,bt),(4,.v (V.d (D.ref (List.flatMap (Ty.enc spanT) l) (i * 2)))),(5,.v (V.d (D.agg [(zi a),(zi b)]))),(7,.v (V.d (D.ref (List.flatMap (Ty.enc spanT) l) ((i + 1) * 2)))),(8,.v (V.d (D.agg [(zi a2),(zi b2)]))),(9,.v (zb true)),(11,.v (V.d (D.ref (List.flatMap (Ty.enc spanT) l) (i * 2)))),(12,.v (zv b)),(14,.v (V.d (D.ref (List.flatMap (Ty.enc spanT) l) ((i + 1) * 2)))),(15,.v (zv b2)),(17,bf),(18,.v (V.d (Ty.slD spanT l1))),(19,.v (Ty.tailV spanT (42 : TypeId) l1)),(20,.v (V.d (D.ref (List.flatMap (Ty.enc spanT) l) (i * 2)))),(21,.v (zv a)),(22,.v (Ty.tailV spanT (42 : TypeId) l2)),(24,.v (V.d (Ty.slD spanT l3))),(25,.v (Ty.tailV spanT (42 : TypeId) l4))] (cP (@appendSpans (l2) (l3) (by omega) (by omega) (l4) k4) (cP (@sliceSpanLo (l) (i) (by omega) (by assumption) (l3) k3) (cP (@appendSpan (l1) (a) (b) (by omega) (l2) k2) (cP (@loadSpanA (l) ([(zc [(V.d d1),(V.d d2),(V.d d3)])]) (i) hi2 (a) (b) e1) (cP (@iaddrSpanN (l) (i) hi2) (cP (@appendSpans0 (l1) (by omega)) (cP (@sliceSpan (l) (i) (by omega) (l1) k1) (cP hx1 (cP (@loadSpanB (l) ([(zc [(V.d d1),(V.d d2),(V.d d3)])]) (i + 1) hi (a2) (b2) e2) (cP (@iaddrSpanW (l) (i) (by omega) hi) (cP (@loadSpanB (l) ([(zc [(V.d d1),(V.d d2),(V.d d3)])]) (i) hi2 (a) (b) e1) (cP (@iaddrSpanN (l) (i) hi2) (cC (@over (a) (b) (a2) (b2) (true) q) (cP (@loadSpanE (l) ([(zc [(V.d d1),(V.d d2),(V.d d3)])]) (i + 1) hi (a2) (b2) e2) (cP (@iaddrSpanW (l) (i) (by omega) hi) (cP (@loadSpanE (l) ([(zc [(V.d d1),(V.d d2),(V.d d3)])]) (i) hi2 (a) (b) e1) (cP (@iaddrSpanN (l) (i) hi2) (cP hx0 nilE)))))))))))))))))) (by kernel_rfl)
theorem hXT (d1 d2 d3:D) (l:List Span) (i:Nat) (hl:l.length≤1000) (hi:¬ i + 1 < l.length) (hi2:i≤l.length):Rd XR 0 (ntOf XR FHid) (lpBody XR FHid 0) (stH d1 d2 d3 (spanT.tailV 42 l) i) (.exit 0,stHx d1 d2 d3 (spanT.tailV 42 l) i):=by
 have hx0:(decide ((IntKind.wrap IntKind.i64 ((↑i:Int) + (1:Int))) < (↑l.length:Int))) = false:=by (first | assumption | (((try simp only [SA] at *);(try simp (disch:=omega) only [SB,wrapI32,reduceCtorEq] at *)) <;> first | omega | assumption | (refine ⟨?_,?_⟩ <;> assumption) | (intros;assumption)))
 exact (pR (r:=((Ex.exit 0),{ s:=[(3,(zt 42 spanT l)),(4,(zv ↑i)),(15,(zb (decide ((zw ((↑i:Int) + (1:Int))) < (↑l.length:Int)))))],h:=[(zc [(V.d d1),(V.d d2),(V.d d3)])],og:=[] })) 12 [(3,bf)] (cP hx0 nilE) (by kernel_rfl)).to (by first | (apply Eq.refl;done) | ((try simp (disch:=omega) only [tdivNn,Int.tmod_eq_emod_of_nonneg,wrapId,wrapI32,wrapU8,List.length_cons,List.length_nil,toNatSucc] at *) <;> (try simp only [Int.toNat_natCast,beq_iff_eq,beq_eq_false_iff_ne,bne_iff_ne,bne_eq_false_iff_eq,ne_eq,Int.natCast_eq_zero,Int.natCast_inj] at *) <;> first | (simp (disch:=omega) [Ty.enc,tdivNn,Int.tmod_eq_emod_of_nonneg,wrapId,wrapI32,wrapU8,toNatPred,toNatSucc,List.length_cons,List.length_nil,Ty.slD, *];done) | (subst_vars;simp (disch:=omega) [Ty.enc,tdivNn,Int.tmod_eq_emod_of_nonneg,wrapId,wrapI32,wrapU8,toNatPred,toNatSucc,List.length_cons,List.length_nil,Ty.slD, *];done) | (simp [goodR,sizeR, *];done) | (simp only [goodR,sizeR,SA] at *;simp [*];omega)))
theorem hAD (d1 d2 d3:D) (l:List Span) (i:Nat) (hl:l.length≤1000) (hi:i + 1 < l.length) (hi2:i < l.length) (a b a2 b2:Int) (e1:spanT.nth l i = S2 a b) (e2:spanT.nth l (i + 1) = S2 a2 b2) (q:overB a b a2 b2 = false):RdC XR 0 (ntOf XR FHid) (lpKeep XR FHid 0) (lpBody XR FHid 0) 1 (stH d1 d2 d3 (.d (spanT.slD l)) i) (stH d1 d2 d3 (.d (spanT.slD l)) (i + 1)):=by
 have hx0:(decide ((IntKind.wrap IntKind.i64 ((↑i:Int) + (1:Int))) < (↑l.length:Int))) = true:=by (first | assumption | (((try simp only [SA] at *);(try simp (disch:=omega) only [SB,wrapI32,reduceCtorEq] at *)) <;> first | omega | assumption | (refine ⟨?_,?_⟩ <;> assumption) | (intros;assumption)))
 exact (pC (st':={ s:=[(3,(zs spanT l)),(4,(zv (zw ((↑i:Int) + (1:Int)))))],h:=[(zc [(V.d d1),(V.d d2),(V.d d3)])],og:=[] }) 12 [(3,bt),(4,.v (V.d (D.ref (List.flatMap (Ty.enc spanT) l) (i * 2)))),(5,.v (V.d (D.agg [(zi a),(zi b)]))),(7,.v (V.d (D.ref (List.flatMap (Ty.enc spanT) l) ((i + 1) * 2)))),(8,.v (V.d (D.agg [(zi a2),(zi b2)]))),(9,.v (zb false))] (cC (@over (a) (b) (a2) (b2) (false) q) (cP (@loadSpanE (l) ([(zc [(V.d d1),(V.d d2),(V.d d3)])]) (i + 1) hi (a2) (b2) e2) (cP (@iaddrSpanW (l) (i) (by omega) hi) (cP (@loadSpanE (l) ([(zc [(V.d d1),(V.d d2),(V.d d3)])]) (i) hi2 (a) (b) e1) (cP (@iaddrSpanN (l) (i) hi2) (cP hx0 nilE)))))) (by kernel_rfl)).to (by first | (apply Eq.refl;done) | ((try simp (disch:=omega) only [tdivNn,Int.tmod_eq_emod_of_nonneg,wrapId,wrapI32,wrapU8,List.length_cons,List.length_nil,toNatSucc] at *) <;> (try simp only [Int.toNat_natCast,beq_iff_eq,beq_eq_false_iff_ne,bne_iff_ne,bne_eq_false_iff_eq,ne_eq,Int.natCast_eq_zero,Int.natCast_inj] at *) <;> first | (simp (disch:=omega) [Ty.enc,tdivNn,Int.tmod_eq_emod_of_nonneg,wrapId,wrapI32,wrapU8,toNatPred,toNatSucc,List.length_cons,List.length_nil,Ty.slD, *];done) | (subst_vars;simp (disch:=omega) [Ty.enc,tdivNn,Int.tmod_eq_emod_of_nonneg,wrapId,wrapI32,wrapU8,toNatPred,toNatSucc,List.length_cons,List.length_nil,Ty.slD, *];done) | (simp [goodR,sizeR, *];done) | (simp only [goodR,sizeR,SA] at *;simp [*];omega)))
theorem hBD (d1 d2 d3:D) (l:List Span) (i:Nat) (hl:l.length≤1000) (hi:i + 1 < l.length) (hi2:i < l.length) (a b a2 b2:Int) (e1:spanT.nth l i = S2 a b) (e2:spanT.nth l (i + 1) = S2 a2 b2) (q:overB a b a2 b2 = true) (q2:b2 > b) (l1 l2 l3 l4:List Span) (k1:l.take i = l1) (z1:l1.length≤1000) (k2:l1 ++ [S2 a b2] = l2) (z2:l2.length≤1000) (k3:l.drop (i + 2) = l3) (z3:l3.length≤1000) (k4:l2 ++ l3 = l4):RdC XR 0 (ntOf XR FHid) (lpKeep XR FHid 0) (lpBody XR FHid 0) 1 (stH d1 d2 d3 (.d (spanT.slD l)) i) (stH d1 d2 d3 (.d (spanT.slD l4)) i):=by
 have hx0:(decide ((IntKind.wrap IntKind.i64 ((↑i:Int) + (1:Int))) < (↑l.length:Int))) = true:=by (first | assumption | (((try simp only [SA] at *);(try simp (disch:=omega) only [SB,wrapI32,reduceCtorEq] at *)) <;> first | omega | assumption | (refine ⟨?_,?_⟩ <;> assumption) | (intros;assumption)))
 have hx1:(decide (b2 > b)) = true:=decide_eq_true (by omega)
 exact pC 12 [(3,bt),(4,.v (V.d (D.ref (List.flatMap (Ty.enc spanT) l) (i * 2)))),(5,.v (V.d (D.agg [(zi a),(zi b)]))),(7,.v (V.d (D.ref (List.flatMap (Ty.enc spanT) l) ((i + 1) * 2)))),(8,.v (V.d (D.agg [(zi a2),(zi b2)]))),(9,.v (zb true)),(11,.v (V.d (D.ref (List.flatMap (Ty.enc spanT) l) (i * 2)))),(12,.v (zv b)),(14,.v (V.d (D.ref (List.flatMap (Ty.enc spanT) l) ((i + 1) * 2)))),(15,.v (zv b2)),(17,bt),(19,.v (V.d (D.ref (List.flatMap (Ty.enc spanT) l) ((i + 1) * 2)))),(20,.v (zv b2)),(21,.v (V.d (Ty.slD spanT l1))),(22,.v (Ty.tailV spanT (42 : TypeId) l1)),(23,.v (V.d (D.ref (List.flatMap (Ty.enc spanT) l) (i * 2)))),(24,.v (zv a)),(25,.v (Ty.tailV spanT (42 : TypeId) l2)),(27,.v (V.d (Ty.slD spanT l3))),(28,.v (Ty.tailV spanT (42 : TypeId) l4))] (cP (@appendSpans (l2) (l3) (by omega) (by omega) (l4) k4) (cP (@sliceSpanLo (l) (i) (by omega) (by assumption) (l3) k3) (cP (@appendSpan (l1) (a) (b2) (by omega) (l2) k2) (cP (@loadSpanA (l) ([(zc [(V.d d1),(V.d d2),(V.d d3)])]) (i) hi2 (a) (b) e1) (cP (@iaddrSpanN (l) (i) hi2) (cP (@appendSpans0 (l1) (by omega)) (cP (@sliceSpan (l) (i) (by omega) (l1) k1) (cP (@loadSpanB (l) ([(zc [(V.d d1),(V.d d2),(V.d d3)])]) (i + 1) hi (a2) (b2) e2) (cP (@iaddrSpanW (l) (i) (by omega) hi) (cP hx1 (cP (@loadSpanB (l) ([(zc [(V.d d1),(V.d d2),(V.d d3)])]) (i + 1) hi (a2) (b2) e2) (cP (@iaddrSpanW (l) (i) (by omega) hi) (cP (@loadSpanB (l) ([(zc [(V.d d1),(V.d d2),(V.d d3)])]) (i) hi2 (a) (b) e1) (cP (@iaddrSpanN (l) (i) hi2) (cC (@over (a) (b) (a2) (b2) (true) q) (cP (@loadSpanE (l) ([(zc [(V.d d1),(V.d d2),(V.d d3)])]) (i + 1) hi (a2) (b2) e2) (cP (@iaddrSpanW (l) (i) (by omega) hi) (cP (@loadSpanE (l) ([(zc [(V.d d1),(V.d d2),(V.d d3)])]) (i) hi2 (a) (b) e1) (cP (@iaddrSpanN (l) (i) hi2) (cP hx0 nilE)))))))))))))))))))) (by kernel_rfl)
theorem hCD (d1 d2 d3:D) (l:List Span) (i:Nat) (hl:l.length≤1000) (hi:i + 1 < l.length) (hi2:i < l.length) (a b a2 b2:Int) (e1:spanT.nth l i = S2 a b) (e2:spanT.nth l (i + 1) = S2 a2 b2) (q:overB a b a2 b2 = true) (q2:¬ b2 > b) (l1 l2 l3 l4:List Span) (k1:l.take i = l1) (z1:l1.length≤1000) (k2:l1 ++ [S2 a b] = l2) (z2:l2.length≤1000) (k3:l.drop (i + 2) = l3) (z3:l3.length≤1000) (k4:l2 ++ l3 = l4):RdC XR 0 (ntOf XR FHid) (lpKeep XR FHid 0) (lpBody XR FHid 0) 1 (stH d1 d2 d3 (.d (spanT.slD l)) i) (stH d1 d2 d3 (.d (spanT.slD l4)) i):=by
 have hx0:(decide ((IntKind.wrap IntKind.i64 ((↑i:Int) + (1:Int))) < (↑l.length:Int))) = true:=by (first | assumption | (((try simp only [SA] at *);(try simp (disch:=omega) only [SB,wrapI32,reduceCtorEq] at *)) <;> first | omega | assumption | (refine ⟨?_,?_⟩ <;> assumption) | (intros;assumption)))
 have hx1:(decide (b2 > b)) = false:=decide_eq_false (by omega)
 exact pC 12 [(3,bt),(4,.v (V.d (D.ref (List.flatMap (Ty.enc spanT) l) (i * 2)))),(5,.v (V.d (D.agg [(zi a),(zi b)]))),(7,.v (V.d (D.ref (List.flatMap (Ty.enc spanT) l) ((i + 1) * 2)))),(8,.v (V.d (D.agg [(zi a2),(zi b2)]))),(9,.v (zb true)),(11,.v (V.d (D.ref (List.flatMap (Ty.enc spanT) l) (i * 2)))),(12,.v (zv b)),(14,.v (V.d (D.ref (List.flatMap (Ty.enc spanT) l) ((i + 1) * 2)))),(15,.v (zv b2)),(17,bf),(18,.v (V.d (Ty.slD spanT l1))),(19,.v (Ty.tailV spanT (42 : TypeId) l1)),(20,.v (V.d (D.ref (List.flatMap (Ty.enc spanT) l) (i * 2)))),(21,.v (zv a)),(22,.v (Ty.tailV spanT (42 : TypeId) l2)),(24,.v (V.d (Ty.slD spanT l3))),(25,.v (Ty.tailV spanT (42 : TypeId) l4))] (cP (@appendSpans (l2) (l3) (by omega) (by omega) (l4) k4) (cP (@sliceSpanLo (l) (i) (by omega) (by assumption) (l3) k3) (cP (@appendSpan (l1) (a) (b) (by omega) (l2) k2) (cP (@loadSpanA (l) ([(zc [(V.d d1),(V.d d2),(V.d d3)])]) (i) hi2 (a) (b) e1) (cP (@iaddrSpanN (l) (i) hi2) (cP (@appendSpans0 (l1) (by omega)) (cP (@sliceSpan (l) (i) (by omega) (l1) k1) (cP hx1 (cP (@loadSpanB (l) ([(zc [(V.d d1),(V.d d2),(V.d d3)])]) (i + 1) hi (a2) (b2) e2) (cP (@iaddrSpanW (l) (i) (by omega) hi) (cP (@loadSpanB (l) ([(zc [(V.d d1),(V.d d2),(V.d d3)])]) (i) hi2 (a) (b) e1) (cP (@iaddrSpanN (l) (i) hi2) (cC (@over (a) (b) (a2) (b2) (true) q) (cP (@loadSpanE (l) ([(zc [(V.d d1),(V.d d2),(V.d d3)])]) (i + 1) hi (a2) (b2) e2) (cP (@iaddrSpanW (l) (i) (by omega) hi) (cP (@loadSpanE (l) ([(zc [(V.d d1),(V.d d2),(V.d d3)])]) (i) hi2 (a) (b) e1) (cP (@iaddrSpanN (l) (i) hi2) (cP hx0 nilE)))))))))))))))))) (by kernel_rfl)
theorem hXD (d1 d2 d3:D) (l:List Span) (i:Nat) (hl:l.length≤1000) (hi:¬ i + 1 < l.length) (hi2:i≤l.length):Rd XR 0 (ntOf XR FHid) (lpBody XR FHid 0) (stH d1 d2 d3 (.d (spanT.slD l)) i) (.exit 0,stHx d1 d2 d3 (.d (spanT.slD l)) i):=by
 have hx0:(decide ((IntKind.wrap IntKind.i64 ((↑i:Int) + (1:Int))) < (↑l.length:Int))) = false:=by (first | assumption | (((try simp only [SA] at *);(try simp (disch:=omega) only [SB,wrapI32,reduceCtorEq] at *)) <;> first | omega | assumption | (refine ⟨?_,?_⟩ <;> assumption) | (intros;assumption)))
 exact (pR (r:=((Ex.exit 0),{ s:=[(3,(zs spanT l)),(4,(zv ↑i)),(15,(zb (decide ((zw ((↑i:Int) + (1:Int))) < (↑l.length:Int)))))],h:=[(zc [(V.d d1),(V.d d2),(V.d d3)])],og:=[] })) 12 [(3,bf)] (cP hx0 nilE) (by kernel_rfl)).to (by first | (apply Eq.refl;done) | ((try simp (disch:=omega) only [tdivNn,Int.tmod_eq_emod_of_nonneg,wrapId,wrapI32,wrapU8,List.length_cons,List.length_nil,toNatSucc] at *) <;> (try simp only [Int.toNat_natCast,beq_iff_eq,beq_eq_false_iff_ne,bne_iff_ne,bne_eq_false_iff_eq,ne_eq,Int.natCast_eq_zero,Int.natCast_inj] at *) <;> first | (simp (disch:=omega) [Ty.enc,tdivNn,Int.tmod_eq_emod_of_nonneg,wrapId,wrapI32,wrapU8,toNatPred,toNatSucc,List.length_cons,List.length_nil,Ty.slD, *];done) | (subst_vars;simp (disch:=omega) [Ty.enc,tdivNn,Int.tmod_eq_emod_of_nonneg,wrapId,wrapI32,wrapU8,toNatPred,toNatSucc,List.length_cons,List.length_nil,Ty.slD, *];done) | (simp [goodR,sizeR, *];done) | (simp only [goodR,sizeR,SA] at *;simp [*];omega)))
theorem hdA (r:List Int) (n:Int) (il:List Inl) (w:Int) (hid:List Span) (at_:Int) (k:Nat) (hl:hid.length≤1000) (hk:k < hid.length) (a b:Int) (e:spanT.nth hid k = S2 a b) (q:¬ a≤at_):RdC XR 0 (ntOf XR FHd) (lpKeep XR FHd 0) (lpBody XR FHd 0) 2 (stHd r n il w hid at_ k) (stHd r n il w hid at_ (k + 1)):=by
 have hx0:(decide ((↑k:Int) < (↑hid.length:Int))) = true:=decide_eq_true (by omega)
 have hx1:(decide (a≤at_)) = false:=decide_eq_false (by omega)
 exact (pC (st':={ s:=[(1,(zv at_)),(4,(zo 1 0)),(8,(zs spanT hid)),(9,(zv (↑hid.length:Int))),(10,(zv (zw ((↑k:Int) + (1:Int)))))],h:=[(zc [(zs i32T r),(zv n),(zs inlT il),(zv w),(zs spanT hid)]),(zc [(zv 0),(zv 0)])],og:=[] }) 12 [(1,bt),(2,.v (V.d (D.ref (List.flatMap (Ty.enc spanT) hid) (k * 2)))),(3,.v (V.d (D.agg [(zi a),(zi b)]))),(6,bf),(7,bf),(8,bf),(9,bf),(10,bf)] (cP hx1 (cP hx1 (cP hx1 (cP hx1 (cP hx1 (cP (@loadSpanE (hid) ([(zc [(zs i32T r),(zv n),(zs inlT il),(zv w),(zs spanT hid)]),(zc [(zv 0),(zv 0)])]) (k) hk (a) (b) e) (cP (@iaddrSpanN (hid) (k) hk) (cP hx0 nilE)))))))) (by kernel_rfl)).to (by simp (disch:=omega) [wrapId, *])
theorem hdB (r:List Int) (n:Int) (il:List Inl) (w:Int) (hid:List Span) (at_:Int) (k:Nat) (hl:hid.length≤1000) (hk:k < hid.length) (a b:Int) (e:spanT.nth hid k = S2 a b) (q:a≤at_) (q2:¬ at_ < b):RdC XR 0 (ntOf XR FHd) (lpKeep XR FHd 0) (lpBody XR FHd 0) 2 (stHd r n il w hid at_ k) (stHd r n il w hid at_ (k + 1)):=by
 have hx0:(decide ((↑k:Int) < (↑hid.length:Int))) = true:=decide_eq_true (by omega)
 have hx1:(decide (a≤at_)) = true:=decide_eq_true (by omega)
 have hx2:(decide (at_ < b)) = false:=decide_eq_false (by omega)
 exact (pC (st':={ s:=[(1,(zv at_)),(4,(zo 1 0)),(8,(zs spanT hid)),(9,(zv (↑hid.length:Int))),(10,(zv (zw ((↑k:Int) + (1:Int)))))],h:=[(zc [(zs i32T r),(zv n),(zs inlT il),(zv w),(zs spanT hid)]),(zc [(zv 0),(zv 0)])],og:=[] }) 12 [(1,bt),(2,.v (V.d (D.ref (List.flatMap (Ty.enc spanT) hid) (k * 2)))),(3,.v (V.d (D.agg [(zi a),(zi b)]))),(6,bt),(7,bt),(8,bt),(10,bt),(12,bt),(13,bf)] (cP hx2 (cP hx1 (cP hx1 (cP hx1 (cP hx1 (cP hx1 (cP (@loadSpanE (hid) ([(zc [(zs i32T r),(zv n),(zs inlT il),(zv w),(zs spanT hid)]),(zc [(zv 0),(zv 0)])]) (k) hk (a) (b) e) (cP (@iaddrSpanN (hid) (k) hk) (cP hx0 nilE))))))))) (by kernel_rfl)).to (by simp (disch:=omega) [wrapId, *])
theorem hdR (r:List Int) (n:Int) (il:List Inl) (w:Int) (hid:List Span) (at_:Int) (k:Nat) (hl:hid.length≤1000) (hk:k < hid.length) (a b:Int) (e:spanT.nth hid k = S2 a b) (q:a≤at_) (q2:at_ < b):Rd XR 0 (ntOf XR FHd) (lpBody XR FHd 0) (stHd r n il w hid at_ k) (.ret,stHdr r n il w hid a b):=by
 have hx0:(decide ((↑k:Int) < (↑hid.length:Int))) = true:=decide_eq_true (by omega)
 have hx1:(decide (a≤at_)) = true:=decide_eq_true (by omega)
 have hx2:(decide (at_ < b)) = true:=decide_eq_true (by omega)
 exact pR 12 [(1,bt),(2,.v (V.d (D.ref (List.flatMap (Ty.enc spanT) hid) (k * 2)))),(3,.v (V.d (D.agg [(zi a),(zi b)]))),(6,bt),(7,bt),(8,bt),(10,bt),(12,bt),(13,bt)] (cP hx2 (cP hx1 (cP hx1 (cP hx1 (cP hx1 (cP hx1 (cP (@loadSpanE (hid) ([(zc [(zs i32T r),(zv n),(zs inlT il),(zv w),(zs spanT hid)]),(zc [(zv 0),(zv 0)])]) (k) hk (a) (b) e) (cP (@iaddrSpanN (hid) (k) hk) (cP hx0 nilE))))))))) (by kernel_rfl)
theorem hdX (r:List Int) (n:Int) (il:List Inl) (w:Int) (hid:List Span) (at_:Int):Rd XR 0 (ntOf XR FHd) (lpBody XR FHd 0) (stHd r n il w hid at_ hid.length) (.exit 0,stHdx r n il w hid at_):=by
 have hx0:(decide ((↑hid.length:Int) < (↑hid.length:Int))) = false:=decide_eq_false (by omega)
 exact (pR (r:=((Ex.exit 0),{ s:=[(1,(zv at_)),(4,(zo 1 0)),(8,(zs spanT hid)),(9,(zv (↑hid.length:Int))),(10,(zv (↑hid.length:Int))),(11,(zb (decide ((↑hid.length:Int) < (↑hid.length:Int)))))],h:=[(zc [(zs i32T r),(zv n),(zs inlT il),(zv w),(zs spanT hid)]),(zc [(zv 0),(zv 0)])],og:=[] })) 12 [(1,bf)] (cP hx0 nilE) (by kernel_rfl)).to (by simp (disch:=omega) [wrapId, *])
def mxI (a b:Int):Int:=if b > a then b else a
def hidR:Nat→List Span→List Span
 | f + 1,x :: y :: r=>if overB x.1 x.2.1 y.1 y.2.1 = true then hidR f (S2 x.1 (mxI x.2.1 y.2.1) :: r) else x :: hidR f (y :: r)
 | _,l=>l
theorem hidR_two (f:Nat) (x y:Span) (r:List Span):hidR (f + 1) (x :: y :: r) = if overB x.1 x.2.1 y.1 y.2.1 = true then hidR f (S2 x.1 (mxI x.2.1 y.2.1) :: r) else x :: hidR f (y :: r):=rfl
theorem hidR_small (f:Nat) (l:List Span) (h:l.length < 2):hidR f l = l:=by
 match f,l,h with
 | 0,l,_=>rfl
 | f + 1,[],_=>rfl
 | f + 1,[_],_=>rfl
 | _,_ :: _ :: _,h=>simp at h;omega
theorem nth_mid {e:Ty} (d r:List e.ty) (x:e.ty):e.nth (d ++ x :: r) d.length = x:=by
 unfold Ty.nth;rw [List.getD_eq_getElem?_getD,List.getElem?_append_right (Nat.le_refl _)];simp
theorem nth_mid1 {e:Ty} (d r:List e.ty) (x y:e.ty):e.nth (d ++ x :: y :: r) (d.length + 1) = y:=by
 have:=nth_mid (e:=e) (d ++ [x]) r y
 simpa using this
def Hv (lv:V) (l:List Span):Prop:=lv = spanT.tailV 42 l∨lv = .d (spanT.slD l)
theorem hX (d1 d2 d3:D) (lv:V) (l:List Span) (hv:Hv lv l) (i:Nat) (hl:l.length≤1000) (hi:¬ i + 1 < l.length) (hi2:i≤l.length):Rd XR 0 (ntOf XR FHid) (lpBody XR FHid 0) (stH d1 d2 d3 lv i) (.exit 0,stHx d1 d2 d3 lv i):=by
 rcases hv with rfl | rfl
 ·exact hXT d1 d2 d3 l i hl hi hi2
 ·exact hXD d1 d2 d3 l i hl hi hi2
theorem hidLC (d1 d2 d3:D):∀ (f:Nat) (done rest:List Span) (m:Nat) (lv:V),Hv lv (done ++ rest)→rest.length≤f→f < m→(done ++ rest).length≤1000 →
  ∃ i2 lv2,Hv lv2 (done ++ hidR f rest)∧LpC XR 0 (ntOf XR FHid) (lpKeep XR FHid 0) (lpBody XR FHid 0) 1 m (stH d1 d2 d3 lv done.length) (.exit 0,stHx d1 d2 d3 lv2 i2):=by
 intro f
 induction f with
 | zero =>
  intro done rest m lv hv h1 h2 h3
  obtain rfl:rest = []:=List.length_eq_zero_iff.1 (by omega)
  obtain ⟨m,rfl⟩:∃ z,m = z + 1:=⟨m - 1,by omega⟩
  exact ⟨done.length,lv,hv,LpC.last (hX d1 d2 d3 lv _ hv _ h3 (by simp) (by simp)) (by simp)⟩
 | succ f ih =>
  intro done rest m lv hv h1 h2 h3
  obtain ⟨m,rfl⟩:∃ z,m = z + 1:=⟨m - 1,by omega⟩
  match rest,hv,h1,h3 with
  | [],hv,h1,h3=>exact ⟨done.length,lv,hv,LpC.last (hX d1 d2 d3 lv _ hv _ h3 (by simp) (by simp)) (by simp)⟩
  | [x],hv,h1,h3=>exact ⟨done.length,lv,hv,LpC.last (hX d1 d2 d3 lv _ hv _ h3 (by simp) (by simp)) (by simp)⟩
  | x :: y :: r,hv,h1,h3 =>
   have hlen:(done ++ x :: y :: r).length = done.length + r.length + 2:=by simp;omega
   have e1:spanT.nth (done ++ x :: y :: r) done.length = S2 x.1 x.2.1:=nth_mid (e:=spanT) done (y :: r) x
   have e2:spanT.nth (done ++ x :: y :: r) (done.length + 1) = S2 y.1 y.2.1:=nth_mid1 (e:=spanT) done r x y
   have tk:(done ++ x :: y :: r).take done.length = done:=by simp
   have dk:(done ++ x :: y :: r).drop (done.length + 2) = r:=by
    rw [show done ++ x :: y :: r = (done ++ [x,y]) ++ r by simp,show done.length + 2 = (done ++ [x,y]).length by simp,List.drop_left]
   rw [hidR_two]
   cases ho:overB x.1 x.2.1 y.1 y.2.1 with
   | false =>
    rw [if_neg (by simp)]
    have e3:done ++ [x] ++ y :: r = done ++ x :: y :: r:=by simp
    have e4:done ++ [x] ++ hidR f (y :: r) = done ++ x :: hidR f (y :: r):=by simp
    obtain ⟨i2,lv2,hv2,hi⟩:=ih (done ++ [x]) (y :: r) m lv (by rw [e3];exact hv) (by simp at h1 ⊢;omega) (by omega) (by simp at h3 ⊢;omega)
    refine ⟨i2,lv2,by rw [← e4];exact hv2,LpC.next (st':=stH d1 d2 d3 lv (done.length + 1)) ?_ ?_⟩
    ·rcases hv with rfl | rfl
     ·exact hAT d1 d2 d3 (done ++ x :: y :: r) done.length h3 (by omega) (by omega) _ _ _ _ e1 e2 ho
     ·exact hAD d1 d2 d3 (done ++ x :: y :: r) done.length h3 (by omega) (by omega) _ _ _ _ e1 e2 ho
    ·rw [List.length_append] at hi
     exact hi
   | true =>
    rw [if_pos rfl]
    unfold mxI
    by_cases hb:(y.2.1:Int) > x.2.1
    ·rw [if_pos hb]
     obtain ⟨i2,lv2,hv2,hi⟩:=ih done (S2 x.1 y.2.1 :: r) m (.d (spanT.slD (done ++ S2 x.1 y.2.1 :: r))) (.inr rfl) (by simp at h1 ⊢;omega) (by omega) (by simp at h3 ⊢;omega)
     refine ⟨i2,lv2,hv2,LpC.next ?_ hi⟩
     have e3:done ++ [S2 x.1 y.2.1] ++ r = done ++ S2 x.1 y.2.1 :: r:=by simp
     rcases hv with rfl | rfl
     ·exact hBT d1 d2 d3 (done ++ x :: y :: r) done.length h3 (by omega) (by omega) _ _ _ _ e1 e2 ho hb _ _ _ _ tk (by simp at h3 ⊢;omega) rfl (by simp at h3 ⊢;omega) dk (by simp at h3 ⊢;omega) e3
     ·exact hBD d1 d2 d3 (done ++ x :: y :: r) done.length h3 (by omega) (by omega) _ _ _ _ e1 e2 ho hb _ _ _ _ tk (by simp at h3 ⊢;omega) rfl (by simp at h3 ⊢;omega) dk (by simp at h3 ⊢;omega) e3
    ·rw [if_neg hb]
     obtain ⟨i2,lv2,hv2,hi⟩:=ih done (S2 x.1 x.2.1 :: r) m (.d (spanT.slD (done ++ S2 x.1 x.2.1 :: r))) (.inr rfl) (by simp at h1 ⊢;omega) (by omega) (by simp at h3 ⊢;omega)
     refine ⟨i2,lv2,hv2,LpC.next ?_ hi⟩
     have e3:done ++ [S2 x.1 x.2.1] ++ r = done ++ S2 x.1 x.2.1 :: r:=by simp
     rcases hv with rfl | rfl
     ·exact hCT d1 d2 d3 (done ++ x :: y :: r) done.length h3 (by omega) (by omega) _ _ _ _ e1 e2 ho hb _ _ _ _ tk (by simp at h3 ⊢;omega) rfl (by simp at h3 ⊢;omega) dk (by simp at h3 ⊢;omega) e3
     ·exact hCD d1 d2 d3 (done ++ x :: y :: r) done.length h3 (by omega) (by omega) _ _ _ _ e1 e2 ho hb _ _ _ _ tk (by simp at h3 ⊢;omega) rfl (by simp at h3 ⊢;omega) dk (by simp at h3 ⊢;omega) e3
def hidL (l:List Span):List Span:=hidR l.length l
def HL (d1 d2 d3:D) (l:List Span) (lv:V) (i2:Int):Prop:=Lp XR 0 (ntOf XR FHid) (lpKeep XR FHid 0) (lpBody XR FHid 0) 1 FUEL (stH d1 d2 d3 (spanT.tailV 42 l) 0) (.exit 0,stHx d1 d2 d3 lv i2)
theorem hL (d1 d2 d3:D) (l:List Span) (hl:l.length≤1000):∃ i2 lv,Hv lv (hidL l)∧HL d1 d2 d3 l lv i2:=by
 obtain ⟨i2,lv2,hv2,h⟩:=hidLC d1 d2 d3 l.length [] l 1152921504606846975 _ (.inl rfl) (by omega) (by omega) hl
 exact ⟨i2,lv2,hv2,LpC.start h (by kernel_rfl)⟩
theorem hLp:∀ (d1 d2 d3:D) (l:List Span) (lv:V) (i2:Int) (h:HL d1 d2 d3 l lv i2),Lp XR 0 (ntOf XR FHid) (lpKeep XR FHid 0) (lpBody XR FHid 0) 1 FUEL ⟨[(3,spanT.tailV 42 l),(4,.d (.int .i64 0))],[.cells [.d d1,.d d2,.d d3]],[]⟩ (.exit 0,stHx d1 d2 d3 lv i2):=fun _ _ _ _ _ _ h=>h
def inS (at_:Int) (y:Span):Bool:=decide (y.1≤at_) && decide (at_ < y.2.1)
def hidAt (hid:List Span) (at_:Int):Int × Int:=match hid.find? (inS at_) with | some y=>(y.1,y.2.1) | none=>(0,-1)
def HdL (r:List Int) (n:Int) (il:List Inl) (w:Int) (hid:List Span) (at_:Int) (x:Ex × St):Prop:=Lp XR 0 (ntOf XR FHd) (lpKeep XR FHd 0) (lpBody XR FHd 0) 2 FUEL (stHd r n il w hid at_ 0) x
def HdX (r:List Int) (n:Int) (il:List Inl) (w:Int) (hid:List Span) (at_:Int):Prop:=HdL r n il w hid at_ (.exit 0,stHdx r n il w hid at_)
def HdR (r:List Int) (n:Int) (il:List Inl) (w:Int) (hid:List Span) (at_:Int) (a b:Int):Prop:=HdL r n il w hid at_ (.ret,stHdr r n il w hid a b)
theorem hdRound (r:List Int) (n:Int) (il:List Inl) (w:Int) (hid:List Span) (at_:Int) (k:Nat) (hl:hid.length≤1000) (hk:k < hid.length) (q:inS at_ (spanT.nth hid k) = false):RdC XR 0 (ntOf XR FHd) (lpKeep XR FHd 0) (lpBody XR FHd 0) 2 (stHd r n il w hid at_ k) (stHd r n il w hid at_ (k + 1)):=by
 unfold inS at q
 rw [Bool.and_eq_false_iff,decide_eq_false_iff_not,decide_eq_false_iff_not] at q
 by_cases h:(spanT.nth hid k).1≤at_
 ·exact hdB r n il w hid at_ k hl hk _ _ rfl h (q.resolve_left (fun q=>q h))
 ·exact hdA r n il w hid at_ k hl hk _ _ rfl h
theorem find_first {α:Type} (p:α→Bool) (d:α):∀ (l:List α) (k:Nat),k < l.length→p (l.getD k d) = true→(∀ j,j < k→p (l.getD j d) = false)→l.find? p = some (l.getD k d)
 | [],k,h,_,_=>by simp at h
 | x :: l,0,_,h,_=>by
  simp only [List.getD_cons_zero] at h
  rw [List.find?_cons,h];rfl
 | x :: l,k + 1,hk,h,hj=>by
  have h0:=hj 0 (by omega)
  simp only [List.getD_cons_zero] at h0
  rw [List.find?_cons,h0]
  exact find_first p d l k (by simpa using hk) (by simpa using h) (fun j hjk=>by simpa using hj (j + 1) (by omega))
theorem find_none' {α:Type} (p:α→Bool) (l:List α) (h:l.any p = false):l.find? p = none:=by
 rw [List.find?_eq_none]
 intro x hx
 rw [List.any_eq_false] at h
 exact h x hx
theorem hdL (r:List Int) (n:Int) (il:List Inl) (w:Int) (hid:List Span) (at_:Int) (hl:hid.length≤1000):(HdX r n il w hid at_∧hidAt hid at_ = (0,-1))∨∃ a b,HdR r n il w hid at_ a b∧hidAt hid at_ = (a,b):=by
 cases h:hid.any (inS at_) with
 | false =>
  refine .inl ⟨Lp.run (fun k=>stHd r n il w hid at_ k) hid.length (by omega) (by kernel_rfl) (fun k hk=>hdRound r n il w hid at_ k hl hk (anyNo (e:=spanT) (inS at_) h hk)) (hdX r n il w hid at_) (by simp),?_⟩
  unfold hidAt;rw [find_none' _ _ h]
 | true =>
  obtain ⟨k,hk,h1,h2⟩:=anyYes (e:=spanT) (inS at_) h
  have h1':=h1
  unfold inS at h1'
  rw [Bool.and_eq_true,decide_eq_true_eq,decide_eq_true_eq] at h1'
  refine .inr ⟨_,_,Lp.run (fun k=>stHd r n il w hid at_ k) k (by omega) (by kernel_rfl) (fun j hj=>hdRound r n il w hid at_ j hl (by omega) (h2 j hj)) (hdR r n il w hid at_ k hl hk _ _ rfl h1'.1 h1'.2) (by simp),?_⟩
  unfold hidAt
  rw [find_first (inS at_) spanT.dflt hid k hk h1 h2];rfl
theorem hdLx:∀ (r:List Int) (n:Int) (il:List Inl) (w:Int) (hid:List Span) (at_:Int) (h:HdX r n il w hid at_),Lp XR 0 (ntOf XR FHd) (lpKeep XR FHd 0) (lpBody XR FHd 0) 2 FUEL ⟨[(1,.d (.int .i64 at_)),(4,.obj 1 0),(8,.d (spanT.slD hid)),(9,.d (.int .i64 (hid.length:Int))),(10,.d (.int .i64 0))],[textO r n il w hid,spO 0 0],[]⟩ (.exit 0,stHdx r n il w hid at_):=fun _ _ _ _ _ _ h=>h
theorem hdLr:∀ (r:List Int) (n:Int) (il:List Inl) (w:Int) (hid:List Span) (at_ a b:Int) (h:HdR r n il w hid at_ a b),Lp XR 0 (ntOf XR FHd) (lpKeep XR FHd 0) (lpBody XR FHd 0) 2 FUEL ⟨[(1,.d (.int .i64 at_)),(4,.obj 1 0),(8,.d (spanT.slD hid)),(9,.d (.int .i64 (hid.length:Int))),(10,.d (.int .i64 0))],[textO r n il w hid,spO 0 0],[]⟩ (.ret,stHdr r n il w hid a b):=fun _ _ _ _ _ _ _ _ h=>h
theorem hidT (n:Int) (l:List Span) (w:Int) (hl:l.length≤1000) (l2:List Span) (i2:Int) (h:HL (.int .i64 n) (spanT.slD l) (.int .i64 w) l (spanT.tailV 42 l2) i2):Ans XR FHid [.d (.agg [.int .i64 n,spanT.slD l,.int .i64 w])] (.d (spanT.slD l2)):=by
 exact pV 12 [(1,.v (Ty.tailV spanT (42 : TypeId) l)),(2,.l (Ex.exit (0:Nat)) (stHx (D.int IntKind.i64 n) (D.sl (List.flatMap (Ty.enc spanT) l) l.length) (D.int IntKind.i64 w) (Ty.tailV spanT (42 : TypeId) l2) i2))] (cE (@hLp (D.int IntKind.i64 n) (D.sl (List.flatMap (Ty.enc spanT) l) l.length) (D.int IntKind.i64 w) (l) (Ty.tailV spanT (42 : TypeId) l2) (i2) h) (cP (@appendSpans0 (l) (by omega)) nilE)) (by kernel_rfl) rfl rfl
theorem hidD (n:Int) (l:List Span) (w:Int) (hl:l.length≤1000) (l2:List Span) (i2:Int) (h:HL (.int .i64 n) (spanT.slD l) (.int .i64 w) l (.d (spanT.slD l2)) i2):Ans XR FHid [.d (.agg [.int .i64 n,spanT.slD l,.int .i64 w])] (.d (spanT.slD l2)):=by
 exact pV 12 [(1,.v (Ty.tailV spanT (42 : TypeId) l)),(2,.l (Ex.exit (0:Nat)) (stHx (D.int IntKind.i64 n) (D.sl (List.flatMap (Ty.enc spanT) l) l.length) (D.int IntKind.i64 w) (V.d (Ty.slD spanT l2)) i2))] (cE (@hLp (D.int IntKind.i64 n) (D.sl (List.flatMap (Ty.enc spanT) l) l.length) (D.int IntKind.i64 w) (l) (V.d (Ty.slD spanT l2)) (i2) h) (cP (@appendSpans0 (l) (by omega)) nilE)) (by kernel_rfl) rfl rfl
theorem hd1 (r:List Int) (n:Int) (il:List Inl) (w:Int) (hid:List Span) (at_:Int) (h:HdX r n il w hid at_):Ans XR FHd [.d (.agg (textL r n il w hid)),.d (.int .i64 at_)] (.d (.agg [.int .i64 0,.int .i64 (-1)])):=by
 exact pV 12 [(2,.l (Ex.exit (0:Nat)) (stHdx r n il w hid at_))] (cE (@hdLx (r) (n) (il) (w) (hid) (at_) h) nilE) (by kernel_rfl) rfl rfl
theorem hd2 (r:List Int) (n:Int) (il:List Inl) (w:Int) (hid:List Span) (at_ a b:Int) (h:HdR r n il w hid at_ a b):Ans XR FHd [.d (.agg (textL r n il w hid)),.d (.int .i64 at_)] (.d (.agg [.int .i64 a,.int .i64 b])):=by
 exact pV 12 [(2,.l (Ex.ret) (stHdr r n il w hid a b))] (cE (@hdLr (r) (n) (il) (w) (hid) (at_) (a) (b) h) nilE) (by kernel_rfl) rfl rfl
theorem hid:∀ (n:Int) (l:List Span) (w:Int) (hl:l.length≤1000) (l2:List Span) (e:hidL l = l2),Ans XR FHid [.d (.agg [.int .i64 n,spanT.slD l,.int .i64 w])] (.d (spanT.slD l2)):=fun n l w hl l2 e=>by
 subst e
 obtain ⟨i2,lv,hv,h⟩:=hL (.int .i64 n) (spanT.slD l) (.int .i64 w) l hl
 rcases hv with rfl | rfl
 ·exact hidT n l w hl _ i2 h
 ·exact hidD n l w hl _ i2 h
theorem hd:∀ (r:List Int) (n:Int) (il:List Inl) (w:Int) (hid:List Span) (at_:Int) (hl:hid.length≤1000) (a b:Int) (e:hidAt hid at_ = (a,b)),Ans XR FHd [.d (.agg (textL r n il w hid)),.d (.int .i64 at_)] (.d (.agg [.int .i64 a,.int .i64 b])):=fun r n il w hid at_ hl a b e=>by
 rcases hdL r n il w hid at_ hl with ⟨h1,h2⟩ | ⟨a',b',h1,h2⟩
 ·rw [h2] at e;cases e;exact hd1 r n il w hid at_ h1
 ·rw [h2] at e;cases e;exact hd2 r n il w hid at_ a b h1
def shB (r:List Int) (hid:List Span) (at_:Int):Bool:=decide (0≤at_) && decide (at_ < r.length) && (i32T.nth r at_.toNat == 10) && decide ((hidAt hid at_).2 < 0)
abbrev FWith:FuncId := 62
abbrev stWi (d1 d2 d3:D) (l:List Inl) (fr to:Int) (out:List Inl) (k:Int):St:=⟨[(1,.d (.int .i64 fr)),(2,.d (.int .i64 to)),(7,inlT.tailV 94 out),(11,.d (inlT.slD l)),(12,.d (.int .i64 (l.length:Int))),(13,.d (.int .i64 k))],[.cells [.d d1,.d d2,.d d3]],[]⟩
abbrev stWix (d1 d2 d3:D) (l:List Inl) (fr to:Int) (out:List Inl):St:=⟨[(1,.d (.int .i64 fr)),(2,.d (.int .i64 to)),(7,inlT.tailV 94 out),(11,.d (inlT.slD l)),(12,.d (.int .i64 (l.length:Int))),(13,.d (.int .i64 (l.length:Int))),(14,.d (.bool false))],[.cells [.d d1,.d d2,.d d3]],[]⟩
abbrev rngT:Ty:=.st (.cons (.int .i32) (.cons (.int .i32) .nil))
abbrev Rng:=rngT.ty
abbrev R2 (a b:Int):Rng:=(a,b,())
theorem iaddrRngN:∀ (l:List Rng) (i:Nat) (hi:i < l.length),iaddrV XR 117 (.d (rngT.slD l)) (.d (.int .i64 (i:Int))) = some (.d (.ref (l.flatMap rngT.enc) (i * 2))):=fun l i hi=>iaddrSl (te := 116) (z:=2) (by kernel_rfl) (by kernel_rfl) (by omega) (by omega) (flat_len _ 2 (Ty.enc_length rngT) l)
theorem loadRngE:∀ (l:List Rng) (h:List Ob) (k:Nat) (hk:k < l.length) (a b:Int) (e:rngT.nth l k = R2 a b),loadV XR h 116 (.d (.ref (l.flatMap rngT.enc) (k * 2))) = some (.d (.agg [.int .i32 a,.int .i32 b])):=fun l h k hk a b e=>by
 have:=loadAgg (X:=XR) (h:=h) (t := 116) (e:=rngT) (by kernel_rfl) (by kernel_rfl) hk
 rw [e] at this
 exact this
abbrev FIn:FuncId := 78
abbrev FTOf:FuncId := 74
abbrev stIn (l:List Rng) (z:Int) (k:Int):St:=⟨[(1,.d (.int .i32 z)),(7,.d (rngT.slD l)),(8,.d (.int .i64 (l.length:Int))),(9,.d (.int .i64 k))],[],[]⟩
abbrev stInx (l:List Rng) (z:Int):St:=⟨[(1,.d (.int .i32 z)),(7,.d (rngT.slD l)),(8,.d (.int .i64 (l.length:Int))),(9,.d (.int .i64 (l.length:Int))),(10,.d (.bool false))],[],[]⟩
theorem sh1 (r:List Int) (n:Int) (il:List Inl) (w:Int) (hid:List Span) (at_:Int) (q:at_ < 0):Ans XR FSh [.d (.agg (textL r n il w hid)),.d (.int .i64 at_)] (.d (.bool false)):=by
 have hx0:(decide (at_ ≥ (0:Int))) = false:=decide_eq_false (by omega)
 exact pV 12 [(1,bf),(2,bf),(3,bf),(4,bf),(5,bf),(6,bf)] (cP hx0 (cP hx0 (cP hx0 (cP hx0 (cP hx0 (cP hx0 nilE)))))) (by kernel_rfl) rfl rfl
theorem sh2 (r:List Int) (n:Int) (il:List Inl) (w:Int) (hid:List Span) (at_:Int) (q:0≤at_) (q2:¬ at_ < r.length):Ans XR FSh [.d (.agg (textL r n il w hid)),.d (.int .i64 at_)] (.d (.bool false)):=by
 have hx0:(decide (at_ ≥ (0:Int))) = true:=decide_eq_true (by omega)
 have hx1:(decide (at_ < (↑r.length:Int))) = false:=decide_eq_false (by omega)
 exact pV 12 [(1,bt),(2,bt),(3,bt),(5,bt),(7,bt),(9,bt),(10,bf),(11,bf),(12,bf),(13,bf),(14,bf),(15,bf),(16,bf)] (cP hx1 (cP hx1 (cP hx1 (cP hx1 (cP hx1 (cP hx1 (cP hx1 (cP hx0 (cP hx0 (cP hx0 (cP hx0 (cP hx0 (cP hx0 nilE))))))))))))) (by kernel_rfl) rfl rfl
theorem sh3 (r:List Int) (n:Int) (il:List Inl) (w:Int) (hid:List Span) (k:Nat) (q2:k < r.length) (z:Int) (e:i32T.nth r k = z) (q3:z ≠ 10):Ans XR FSh [.d (.agg (textL r n il w hid)),.d (.int .i64 (k:Int))] (.d (.bool false)):=by
 have hx0:(decide ((↑k:Int) < (↑r.length:Int))) = true:=decide_eq_true (by omega)
 have hx1:(z == (10:Int)) = false:=decide_eq_false (by omega)
 exact pV 12 [(10,bt),(11,bt),(13,bt),(14,bt),(15,.v (V.d (D.ref (List.flatMap (Ty.enc i32T) r) (k * 1)))),(16,bt),(17,.v (V.d (D.int IntKind.i32 z))),(18,bt),(20,bt),(21,bf),(22,bf),(23,bf),(24,bf),(25,bf),(26,bf)] (cP hx1 (cP hx1 (cP hx1 (cP hx1 (cP hx1 (cP hx1 (cP hx0 (cP hx0 (cP (@loadRuneE (r) ([(zc [(zs i32T r),(zv n),(zs inlT il),(zv w),(zs spanT hid)])]) (k) q2 (z) e) (cP hx0 (cP (@iaddrRuneN (r) (k) q2) (cP hx0 (cP hx0 (cP hx0 (cP hx0 nilE))))))))))))))) (by kernel_rfl) rfl rfl
theorem sh4 (r:List Int) (n:Int) (il:List Inl) (w:Int) (hid:List Span) (k:Nat) (hl:hid.length≤1000) (q2:k < r.length) (z:Int) (e:i32T.nth r k = z) (q3:z = 10) (a b:Int) (eh:hidAt hid (k:Int) = (a,b)):Ans XR FSh [.d (.agg (textL r n il w hid)),.d (.int .i64 (k:Int))] (.d (.bool (decide (b < 0)))):=by
 have hx0:(decide ((↑k:Int) < (↑r.length:Int))) = true:=decide_eq_true (by omega)
 have hx1:(z == (10:Int)) = true:=decide_eq_true (by omega)
 exact pV 12 [(10,bt),(11,bt),(13,bt),(14,bt),(15,.v (V.d (D.ref (List.flatMap (Ty.enc i32T) r) (k * 1)))),(16,bt),(17,.v (V.d (D.int IntKind.i32 z))),(18,bt),(20,bt),(21,bt),(23,bt),(24,bt),(25,.v (V.d (D.agg [(zi a),(zi b)]))),(26,bt),(28,bt),(30,bt)] (cP hx1 (cP hx1 (cP hx1 (cC (@hd (r) (n) (il) (w) (hid) ((↑k:Int)) hl (a) (b) eh) (cP hx1 (cP hx1 (cP hx1 (cP hx0 (cP hx0 (cP (@loadRuneE (r) ([(zc [(zs i32T r),(zv n),(zs inlT il),(zv w),(zs spanT hid)])]) (k) q2 (z) e) (cP hx0 (cP (@iaddrRuneN (r) (k) q2) (cP hx0 (cP hx0 (cP hx0 (cP hx0 nilE)))))))))))))))) (by kernel_rfl) rfl rfl
theorem wiA (d1 d2 d3:D) (l:List Inl) (fr to:Int) (out:List Inl) (k:Nat) (hl:l.length≤1000) (hk:k < l.length) (a b c d:Int) (t:Str) (e:inlT.nth l k = I5 a b c d t) (q:¬ b ≥ fr):RdC XR 0 (ntOf XR FWith) (lpKeep XR FWith 0) (lpBody XR FWith 0) 1 (stWi d1 d2 d3 l fr to out k) (stWi d1 d2 d3 l fr to out (k + 1)):=by
 have hx0:(decide ((↑k:Int) < (↑l.length:Int))) = true:=decide_eq_true (by omega)
 have hx1:(decide (b ≥ fr)) = false:=decide_eq_false (by omega)
 exact (pC (st':={ s:=[(1,(zv fr)),(2,(zv to)),(7,(zt 94 inlT out)),(11,(zs inlT l)),(12,(zv (↑l.length:Int))),(13,(zv (zw ((↑k:Int) + (1:Int)))))],h:=[(zc [(V.d d1),(V.d d2),(V.d d3)])],og:=[] }) 12 [(1,bt),(2,.v (V.d (D.ref (List.flatMap (Ty.enc inlT) l) (k * 5)))),(3,.v (inlA a b c d t)),(6,bf),(7,bf),(8,bf),(9,bf),(10,bf)] (cP hx1 (cP hx1 (cP hx1 (cP hx1 (cP hx1 (cP (@loadInlE (l) ([(zc [(V.d d1),(V.d d2),(V.d d3)])]) (k) hk (a) (b) (c) (d) (t) e) (cP (@iaddrInlN (l) (k) hk) (cP hx0 nilE)))))))) (by kernel_rfl)).to (by simp (disch:=omega) [wrapId, *])
theorem wiB (d1 d2 d3:D) (l:List Inl) (fr to:Int) (out:List Inl) (k:Nat) (hl:l.length≤1000) (hk:k < l.length) (a b c d:Int) (t:Str) (e:inlT.nth l k = I5 a b c d t) (q:b ≥ fr) (q2:¬ b≤to):RdC XR 0 (ntOf XR FWith) (lpKeep XR FWith 0) (lpBody XR FWith 0) 1 (stWi d1 d2 d3 l fr to out k) (stWi d1 d2 d3 l fr to out (k + 1)):=by
 have hx0:(decide ((↑k:Int) < (↑l.length:Int))) = true:=decide_eq_true (by omega)
 have hx1:(decide (b ≥ fr)) = true:=decide_eq_true (by omega)
 have hx2:(decide (b≤to)) = false:=decide_eq_false (by omega)
 exact (pC (st':={ s:=[(1,(zv fr)),(2,(zv to)),(7,(zt 94 inlT out)),(11,(zs inlT l)),(12,(zv (↑l.length:Int))),(13,(zv (zw ((↑k:Int) + (1:Int)))))],h:=[(zc [(V.d d1),(V.d d2),(V.d d3)])],og:=[] }) 12 [(1,bt),(2,.v (V.d (D.ref (List.flatMap (Ty.enc inlT) l) (k * 5)))),(3,.v (inlA a b c d t)),(6,bt),(7,bt),(9,bt),(10,bt),(12,bt),(13,bf)] (cP hx2 (cP hx1 (cP hx1 (cP hx1 (cP hx1 (cP hx1 (cP (@loadInlE (l) ([(zc [(V.d d1),(V.d d2),(V.d d3)])]) (k) hk (a) (b) (c) (d) (t) e) (cP (@iaddrInlN (l) (k) hk) (cP hx0 nilE))))))))) (by kernel_rfl)).to (by simp (disch:=omega) [wrapId, *])
theorem wiC (d1 d2 d3:D) (l:List Inl) (fr to:Int) (out:List Inl) (k:Nat) (hl:l.length≤1000) (ho:out.length≤1000) (hk:k < l.length) (a b c d:Int) (t:Str) (e:inlT.nth l k = I5 a b c d t) (q:b ≥ fr) (q2:b≤to) (out2:List Inl) (eo:out ++ [I5 a b c d t] = out2):RdC XR 0 (ntOf XR FWith) (lpKeep XR FWith 0) (lpBody XR FWith 0) 1 (stWi d1 d2 d3 l fr to out k) (stWi d1 d2 d3 l fr to out2 (k + 1)):=by
 have hx0:(decide ((↑k:Int) < (↑l.length:Int))) = true:=decide_eq_true (by omega)
 have hx1:(decide (b ≥ fr)) = true:=decide_eq_true (by omega)
 have hx2:(decide (b≤to)) = true:=decide_eq_true (by omega)
 exact (pC (st':={ s:=[(1,(zv fr)),(2,(zv to)),(7,(zt 94 inlT out2)),(11,(zs inlT l)),(12,(zv (↑l.length:Int))),(13,(zv (zw ((↑k:Int) + (1:Int)))))],h:=[(zc [(V.d d1),(V.d d2),(V.d d3)])],og:=[] }) 12 [(1,bt),(2,.v (V.d (D.ref (List.flatMap (Ty.enc inlT) l) (k * 5)))),(3,.v (inlA a b c d t)),(6,bt),(7,bt),(9,bt),(10,bt),(12,bt),(13,bt),(15,.v (Ty.tailV inlT (94 : TypeId) out2))] (cP (@appendInl (out) (a) (b) (c) (d) (t) (by omega) (out2) eo) (cP hx2 (cP hx1 (cP hx1 (cP hx1 (cP hx1 (cP hx1 (cP (@loadInlE (l) ([(zc [(V.d d1),(V.d d2),(V.d d3)])]) (k) hk (a) (b) (c) (d) (t) e) (cP (@iaddrInlN (l) (k) hk) (cP hx0 nilE)))))))))) (by kernel_rfl)).to (by simp (disch:=omega) [wrapId, *])
theorem wiX (d1 d2 d3:D) (l:List Inl) (fr to:Int) (out:List Inl):Rd XR 0 (ntOf XR FWith) (lpBody XR FWith 0) (stWi d1 d2 d3 l fr to out l.length) (.exit 0,stWix d1 d2 d3 l fr to out):=by
 have hx0:(decide ((↑l.length:Int) < (↑l.length:Int))) = false:=decide_eq_false (by omega)
 exact (pR (r:=((Ex.exit 0),{ s:=[(1,(zv fr)),(2,(zv to)),(7,(zt 94 inlT out)),(11,(zs inlT l)),(12,(zv (↑l.length:Int))),(13,(zv (↑l.length:Int))),(14,(zb (decide ((↑l.length:Int) < (↑l.length:Int)))))],h:=[(zc [(V.d d1),(V.d d2),(V.d d3)])],og:=[] })) 12 [(1,bf)] (cP hx0 nilE) (by kernel_rfl)).to (by simp (disch:=omega) [wrapId, *])
theorem iA (l:List Rng) (z:Int) (k:Nat) (hl:l.length≤1000) (hk:k < l.length) (a b:Int) (e:rngT.nth l k = R2 a b) (q:¬ z ≥ a):RdC XR 0 (ntOf XR FIn) (lpKeep XR FIn 0) (lpBody XR FIn 0) 0 (stIn l z k) (stIn l z (k + 1)):=by
 have hx0:(decide ((↑k:Int) < (↑l.length:Int))) = true:=decide_eq_true (by omega)
 have hx1:(decide (z ≥ a)) = false:=decide_eq_false (by omega)
 exact (pC (st':={ s:=[(1,(V.d (D.int IntKind.i32 z))),(7,(zs rngT l)),(8,(zv (↑l.length:Int))),(9,(zv (zw ((↑k:Int) + (1:Int)))))],h:=[],og:=[] }) 12 [(1,bt),(2,.v (V.d (D.ref (List.flatMap (Ty.enc rngT) l) (k * 2)))),(3,.v (V.d (D.agg [(D.int IntKind.i32 a),(D.int IntKind.i32 b)]))),(6,bf),(7,bf),(8,bf),(9,bf),(10,bf)] (cP hx1 (cP hx1 (cP hx1 (cP hx1 (cP hx1 (cP (@loadRngE (l) ([]) (k) hk (a) (b) e) (cP (@iaddrRngN (l) (k) hk) (cP hx0 nilE)))))))) (by kernel_rfl)).to (by simp (disch:=omega) [wrapId, *])
theorem iB (l:List Rng) (z:Int) (k:Nat) (hl:l.length≤1000) (hk:k < l.length) (a b:Int) (e:rngT.nth l k = R2 a b) (q:z ≥ a) (q2:¬ z≤b):RdC XR 0 (ntOf XR FIn) (lpKeep XR FIn 0) (lpBody XR FIn 0) 0 (stIn l z k) (stIn l z (k + 1)):=by
 have hx0:(decide ((↑k:Int) < (↑l.length:Int))) = true:=decide_eq_true (by omega)
 have hx1:(decide (z ≥ a)) = true:=decide_eq_true (by omega)
 have hx2:(decide (z≤b)) = false:=decide_eq_false (by omega)
 exact (pC (st':={ s:=[(1,(V.d (D.int IntKind.i32 z))),(7,(zs rngT l)),(8,(zv (↑l.length:Int))),(9,(zv (zw ((↑k:Int) + (1:Int)))))],h:=[],og:=[] }) 12 [(1,bt),(2,.v (V.d (D.ref (List.flatMap (Ty.enc rngT) l) (k * 2)))),(3,.v (V.d (D.agg [(D.int IntKind.i32 a),(D.int IntKind.i32 b)]))),(6,bt),(7,bt),(8,bt),(10,bt),(12,bt),(13,bf)] (cP hx2 (cP hx1 (cP hx1 (cP hx1 (cP hx1 (cP hx1 (cP (@loadRngE (l) ([]) (k) hk (a) (b) e) (cP (@iaddrRngN (l) (k) hk) (cP hx0 nilE))))))))) (by kernel_rfl)).to (by simp (disch:=omega) [wrapId, *])
theorem iR (l:List Rng) (z:Int) (k:Nat) (hl:l.length≤1000) (hk:k < l.length) (a b:Int) (e:rngT.nth l k = R2 a b) (q:z ≥ a) (q2:z≤b):Rd XR 0 (ntOf XR FIn) (lpBody XR FIn 0) (stIn l z k) (.ret,⟨[(4,.d (.bool true))],[.cells [.d (.int .i32 a),.d (.int .i32 b)]],[]⟩):=by
 have hx0:(decide ((↑k:Int) < (↑l.length:Int))) = true:=decide_eq_true (by omega)
 have hx1:(decide (z ≥ a)) = true:=decide_eq_true (by omega)
 have hx2:(decide (z≤b)) = true:=decide_eq_true (by omega)
 exact pR 12 [(1,bt),(2,.v (V.d (D.ref (List.flatMap (Ty.enc rngT) l) (k * 2)))),(3,.v (V.d (D.agg [(D.int IntKind.i32 a),(D.int IntKind.i32 b)]))),(6,bt),(7,bt),(8,bt),(10,bt),(12,bt),(13,bt)] (cP hx2 (cP hx1 (cP hx1 (cP hx1 (cP hx1 (cP hx1 (cP (@loadRngE (l) ([]) (k) hk (a) (b) e) (cP (@iaddrRngN (l) (k) hk) (cP hx0 nilE))))))))) (by kernel_rfl)
theorem iX (l:List Rng) (z:Int):Rd XR 0 (ntOf XR FIn) (lpBody XR FIn 0) (stIn l z l.length) (.exit 0,stInx l z):=by
 have hx0:(decide ((↑l.length:Int) < (↑l.length:Int))) = false:=decide_eq_false (by omega)
 exact (pR (r:=((Ex.exit 0),{ s:=[(1,(V.d (D.int IntKind.i32 z))),(7,(zs rngT l)),(8,(zv (↑l.length:Int))),(9,(zv (↑l.length:Int))),(10,(zb (decide ((↑l.length:Int) < (↑l.length:Int)))))],h:=[],og:=[] })) 12 [(1,bf)] (cP hx0 nilE) (by kernel_rfl)).to (by simp (disch:=omega) [wrapId, *])
theorem shown:∀ (r:List Int) (n:Int) (il:List Inl) (w:Int) (hid:List Span) (at_:Int) (hl:hid.length≤1000) (s:Bool) (e:shB r hid at_ = s),Ans XR FSh [.d (.agg (textL r n il w hid)),.d (.int .i64 at_)] (.d (.bool s)):=fun r n il w hid at_ hl s e=>by
 subst e
 unfold shB
 by_cases h0:at_ < 0
 ·rw [decide_eq_false (by omega)];exact sh1 r n il w hid at_ h0
 by_cases h1:at_ < r.length
 ·obtain ⟨k,rfl⟩:∃ k:Nat,at_ = k:=⟨at_.toNat,by omega⟩
  rw [decide_eq_true (by omega),decide_eq_true h1,Int.toNat_natCast]
  by_cases h2:i32T.nth r k = (10:Int)
  ·have:(i32T.nth r k == (10:Int)) = true:=by rw [h2];rfl
   rw [this]
   simp only [Bool.true_and]
   exact sh4 r n il w hid k hl (by omega) _ rfl h2 _ _ rfl
  ·have:(i32T.nth r k == (10:Int)) = false:=beq_eq_false_iff_ne.2 h2
   rw [this]
   simp only [Bool.true_and,Bool.false_and]
   exact sh3 r n il w hid k (by omega) _ rfl h2
 ·rw [decide_eq_true (by omega),decide_eq_false h1]
  simp only [Bool.true_and,Bool.false_and]
  exact sh2 r n il w hid at_ (by omega) h1
def inW (fr to:Int) (y:Inl):Bool:=decide (fr≤y.2.1) && decide (y.2.1≤to)
def WiL (d1 d2 d3:D) (l:List Inl) (fr to:Int) (out:List Inl):Prop:=Lp XR 0 (ntOf XR FWith) (lpKeep XR FWith 0) (lpBody XR FWith 0) 1 FUEL (stWi d1 d2 d3 l fr to [] 0) (.exit 0,stWix d1 d2 d3 l fr to out)
theorem wiL (d1 d2 d3:D) (l:List Inl) (fr to:Int) (hl:l.length≤1000):WiL d1 d2 d3 l fr to (l.filter (inW fr to)):=by
 have hx:Rd XR 0 (ntOf XR FWith) (lpBody XR FWith 0) (stWi d1 d2 d3 l fr to ((l.take l.length).filter (inW fr to)) l.length) (.exit 0,stWix d1 d2 d3 l fr to (l.filter (inW fr to))):=by
  rw [List.take_length];exact wiX d1 d2 d3 l fr to _
 refine Lp.run (fun k=>stWi d1 d2 d3 l fr to ((l.take k).filter (inW fr to)) k) l.length (by omega) (by kernel_rfl) (fun k hk=>?_) hx (by simp)
 have ho:((l.take k).filter (inW fr to)).length≤1000:=by
  have:=List.length_filter_le (inW fr to) (l.take k)
  rw [List.length_take] at this;omega
 have hs:(l.take (k + 1)).filter (inW fr to) = (l.take k).filter (inW fr to) ++ [inlT.nth l k].filter (inW fr to):=by
  rw [take_succ_nth (e:=inlT) hk,List.filter_append]
 obtain ⟨a,b,c,d,t,u,e⟩:∃ a b c d t,∃ u:Unit,inlT.nth l k = (a,b,c,d,t,u):=⟨_,_,_,_,_,_,rfl⟩
 rw [hs,e]
 by_cases h1:(b:Int) ≥ fr
 ·by_cases h2:(b:Int)≤to
  ·have:[((a,b,c,d,t,u):Inl)].filter (inW fr to) = [(a,b,c,d,t,u)]:=by simp [inW];exact ⟨h1,h2⟩
   rw [this]
   exact wiC d1 d2 d3 l fr to _ k hl ho hk a b c d t e h1 h2 _ rfl
  ·have:[((a,b,c,d,t,u):Inl)].filter (inW fr to) = []:=by simp [inW];intro _;exact Int.not_le.1 h2
   rw [this,List.append_nil]
   exact wiB d1 d2 d3 l fr to _ k hl hk a b c d t e h1 h2
 ·have:[((a,b,c,d,t,u):Inl)].filter (inW fr to) = []:=by simp [inW];intro h;exact (h1 h).elim
  rw [this,List.append_nil]
  exact wiA d1 d2 d3 l fr to _ k hl hk a b c d t e h1
theorem wiLp:∀ (d1 d2 d3:D) (l:List Inl) (fr to:Int) (out:List Inl) (h:WiL d1 d2 d3 l fr to out),Lp XR 0 (ntOf XR FWith) (lpKeep XR FWith 0) (lpBody XR FWith 0) 1 FUEL ⟨[(1,.d (.int .i64 fr)),(2,.d (.int .i64 to)),(7,inlT.tailV 94 []),(11,.d (inlT.slD l)),(12,.d (.int .i64 (l.length:Int))),(13,.d (.int .i64 0))],[.cells [.d d1,.d d2,.d d3]],[]⟩ (.exit 0,stWix d1 d2 d3 l fr to out):=fun _ _ _ _ _ _ _ h=>h
def inR (z:Int) (y:Rng):Bool:=decide (z ≥ y.1) && decide (z≤y.2.1)
def InL (l:List Rng) (z:Int) (x:Ex × St):Prop:=Lp XR 0 (ntOf XR FIn) (lpKeep XR FIn 0) (lpBody XR FIn 0) 0 FUEL (stIn l z 0) x
def InX (l:List Rng) (z:Int):Prop:=InL l z (.exit 0,stInx l z)
def InY (l:List Rng) (z a b:Int):Prop:=InL l z (.ret,⟨[(4,.d (.bool true))],[.cells [.d (.int .i32 a),.d (.int .i32 b)]],[]⟩)
theorem inRound (l:List Rng) (z:Int) (k:Nat) (hl:l.length≤1000) (hk:k < l.length) (q:inR z (rngT.nth l k) = false):RdC XR 0 (ntOf XR FIn) (lpKeep XR FIn 0) (lpBody XR FIn 0) 0 (stIn l z k) (stIn l z (k + 1)):=by
 unfold inR at q
 rw [Bool.and_eq_false_iff,decide_eq_false_iff_not,decide_eq_false_iff_not] at q
 by_cases h:z ≥ (rngT.nth l k).1
 ·exact iB l z k hl hk _ _ rfl h (q.resolve_left (fun q=>q h))
 ·exact iA l z k hl hk _ _ rfl h
theorem inL (l:List Rng) (z:Int) (hl:l.length≤1000):(InX l z∧l.any (inR z) = false)∨∃ a b,InY l z a b∧l.any (inR z) = true:=by
 cases h:l.any (inR z) with
 | false=>exact .inl ⟨Lp.run (fun k=>stIn l z k) l.length (by omega) (by kernel_rfl) (fun k hk=>inRound l z k hl hk (anyNo (e:=rngT) (inR z) h hk)) (iX l z) (by simp),rfl⟩
 | true =>
  obtain ⟨k,hk,h1,h2⟩:=anyYes (e:=rngT) (inR z) h
  unfold inR at h1
  rw [Bool.and_eq_true,decide_eq_true_eq,decide_eq_true_eq] at h1
  exact .inr ⟨_,_,Lp.run (fun k=>stIn l z k) k (by omega) (by kernel_rfl) (fun j hj=>inRound l z j hl (by omega) (h2 j hj)) (iR l z k hl hk _ _ rfl h1.1 h1.2) (by simp),rfl⟩
theorem inLx:∀ (l:List Rng) (z:Int) (h:InX l z),Lp XR 0 (ntOf XR FIn) (lpKeep XR FIn 0) (lpBody XR FIn 0) 0 FUEL ⟨[(1,.d (.int .i32 z)),(7,.d (rngT.slD l)),(8,.d (.int .i64 (l.length:Int))),(9,.d (.int .i64 0))],[],[]⟩ (.exit 0,stInx l z):=fun _ _ h=>h
theorem inLy:∀ (l:List Rng) (z a b:Int) (h:InY l z a b),Lp XR 0 (ntOf XR FIn) (lpKeep XR FIn 0) (lpBody XR FIn 0) 0 FUEL ⟨[(1,.d (.int .i32 z)),(7,.d (rngT.slD l)),(8,.d (.int .i64 (l.length:Int))),(9,.d (.int .i64 0))],[],[]⟩ (.ret,⟨[(4,.d (.bool true))],[.cells [.d (.int .i32 a),.d (.int .i32 b)]],[]⟩):=fun _ _ _ _ h=>h
abbrev FSizes:FuncId := 69
abbrev tabD (zl wl:List Rng):D:=.ref [rngT.slD zl,rngT.slD wl] 0
theorem rem64:∀ (x y m z:Int) (h1:0≤x) (h2:x≤1000000000) (h3:0≤y) (h4:y≤1000000000) (hm:0 < m) (e:(x + y) % m = z),binV XR .rem 3 (.d (.int .i64 (IntKind.wrap .i64 (x + y)))) (.d (.int .i64 m)) = some (.d (.int .i64 z)):=fun x y m z h1 h2 h3 h4 hm e=>by
 subst e
 have hw:IntKind.wrap .i64 (x + y) = x + y:=wrapId _ (by omega) (by omega)
 rw [hw]
 have hu:XR.P.underlying 3 = some (.int .i64):=by kernel_rfl
 have e:pureRun XR.P (execOp (fun z=>(((two2 (.d (.int .i64 (x + y))) (.d (.int .i64 m)) z).toD).bind D.toVal).getD undef) ⟨none,.binOp .rem 3 (.tmp 0) (.tmp 1) 3, 3, "", #[],none⟩) = some (.value (.int .i64 ((x + y) % m))):=by
  unfold execOp
  simp only [two2,V.toD,Option.bind_some,D.toVal,Option.getD_some]
  unfold eqGuard binOp
  simp only
  unfold Op.intDiv
  rw [if_neg (show ¬ (m = 0) by omega)]
  simp only [Int.tmod_eq_emod_of_nonneg (show 0≤x + y by omega)]
  rfl
 unfold binV valOp
 simp only [two2]
 have e1:unlike XR.P 3 (.d (.int .i64 (x + y))) (.d (.int .i64 m)) = false:=by unfold unlike;rw [hu]
 rw [e1]
 simp only [eqOp]
 unfold pureOp
 rw [e]
 rfl
abbrev stSi (T:D) (tab:Int) (out:List Int) (at_ n:Int) (line:List Int) (k:Int):St:=⟨[(0,.d T),(2,.d (.int .i64 tab)),(7,i64.tailV 3 out),(8,.d (.int .i64 at_)),(11,.d (.int .i64 n)),(12,.d (i32T.slD line)),(13,.d (.int .i64 (line.length:Int))),(14,.d (.int .i64 k))],[],[]⟩
abbrev stSix (T:D) (tab:Int) (out:List Int) (at_ n:Int) (line:List Int) (k:Int):St:=⟨[(0,.d T),(2,.d (.int .i64 tab)),(7,i64.tailV 3 out),(8,.d (.int .i64 at_)),(11,.d (.int .i64 n)),(12,.d (i32T.slD line)),(13,.d (.int .i64 (line.length:Int))),(14,.d (.int .i64 k)),(32,.d (.bool false))],[],[]⟩
theorem within0 (n:Int) (l:List Inl) (w:Int) (fr to:Int) (hl:l.length≤1000) (out:List Inl) (h:WiL (.int .i64 n) (inlT.slD l) (.int .i64 w) l fr to out):Ans XR FWith [.d (.agg [.int .i64 n,inlT.slD l,.int .i64 w]),.d (.int .i64 fr),.d (.int .i64 to)] (.d (inlT.slD out)):=by
 exact pV 12 [(2,.l (Ex.exit 0) (stWix (zi n) (zd inlT l) (zi w) l fr to out))] (cE (@wiLp (zi n) (zd inlT l) (zi w) (l) (fr) (to) (out) h) nilE) (by kernel_rfl) rfl rfl
theorem in0 (l:List Rng) (z:Int) (hl:l.length≤1000) (h:InX l z):Ans XR FIn [.d (rngT.slD l),.d (.int .i32 z)] (.d (.bool false)):=by
 exact pV 12 [(1,.l (Ex.exit (0:Nat)) (stInx l z))] (cE (@inLx (l) (z) h) nilE) (by kernel_rfl) rfl rfl
theorem in1 (l:List Rng) (z:Int) (hl:l.length≤1000) (a b:Int) (h:InY l z a b):Ans XR FIn [.d (rngT.slD l),.d (.int .i32 z)] (.d (.bool true)):=by
 exact pV 12 [(1,.l (Ex.ret) ({ s:=[(4,(zb true))],h:=[(zc [(V.d (D.int IntKind.i32 a)),(V.d (D.int IntKind.i32 b))])],og:=[] }))] (cE (@inLy (l) (z) (a) (b) h) nilE) (by kernel_rfl) rfl rfl
theorem siA (T:D) (tab:Int) (out:List Int) (at_ n:Int) (line:List Int) (k:Int) (ht:0 < tab) (h0:0≤at_) (h1:at_ < 64) (h2:0≤n) (h3:n≤1000) (z:Int) (e:(at_ + n) % tab = z) (q:z ≠ 0):RdC XR 0 (ntOf XR FSizes) (lpKeep XR FSizes 1) (lpBody XR FSizes 1) 0 (stSi T tab out at_ n line k) (stSi T tab out at_ (n + 1) line k):=by
 have hx0:(decide (at_ < (64:Int))) = true:=decide_eq_true (by omega)
 have hx1:(z != (0:Int)) = true:=by simp [*]
 exact (pC (st':={ s:=[(0,(V.d T)),(2,(zv tab)),(7,(zt 3 i64 out)),(8,(zv at_)),(11,(zv (zw (n + (1:Int))))),(12,(zs i32T line)),(13,(zv (↑line.length:Int))),(14,(zv k))],h:=[],og:=[] }) 12 [(1,bt),(2,bt),(3,bt),(5,bt),(6,bt),(7,.v (zv z)),(8,bt),(10,bt),(11,bt)] (cP hx1 (cP hx0 (cP hx0 (cP (@rem64 (at_) (n) (tab) (z) h0 (by omega) h2 (by omega) ht e) (cP hx0 (cP hx0 (cP hx0 (cP hx0 (cP hx0 nilE))))))))) (by kernel_rfl)).to (by simp (disch:=omega) [wrapId, *])
theorem siX (T:D) (tab:Int) (out:List Int) (at_ n:Int) (line:List Int) (k:Int) (ht:0 < tab) (h0:0≤at_) (h1:at_ < 64) (h2:0≤n) (h3:n≤1000) (z:Int) (e:(at_ + n) % tab = z) (q:z = 0):Rd XR 0 (ntOf XR FSizes) (lpBody XR FSizes 1) (stSi T tab out at_ n line k) (.exit 2,stSix T tab out at_ n line k):=by
 have hx0:(decide (at_ < (64:Int))) = true:=decide_eq_true (by omega)
 have hx1:(z != (0:Int)) = false:=by simp [*]
 exact (pR (r:=((Ex.exit 2),{ s:=[(0,(V.d T)),(2,(zv tab)),(7,(zt 3 i64 out)),(8,(zv at_)),(11,(zv n)),(12,(zs i32T line)),(13,(zv (↑line.length:Int))),(14,(zv k)),(32,(zb (z != (0:Int))))],h:=[],og:=[] })) 12 [(1,bt),(2,bt),(3,bt),(5,bt),(6,bt),(7,.v (zv z)),(8,bt),(10,bt),(11,bf)] (cP hx1 (cP hx0 (cP hx0 (cP (@rem64 (at_) (n) (tab) (z) h0 (by omega) h2 (by omega) ht e) (cP hx0 (cP hx0 (cP hx0 (cP hx0 (cP hx0 nilE))))))))) (by kernel_rfl)).to (by simp (disch:=omega) [wrapId, *])
theorem siY (T:D) (tab:Int) (out:List Int) (at_ n:Int) (line:List Int) (k:Int) (h1:¬ at_ < 64):Rd XR 0 (ntOf XR FSizes) (lpBody XR FSizes 1) (stSi T tab out at_ n line k) (.exit 2,stSix T tab out at_ n line k):=by
 have hx0:(decide (at_ < (64:Int))) = false:=decide_eq_false (by omega)
 exact pR 12 [(1,bf),(2,bf),(3,bf),(4,bf),(5,bf),(6,bf),(7,bf)] (cP hx0 (cP hx0 (cP hx0 (cP hx0 (cP hx0 (cP hx0 (cP hx0 nilE))))))) (by kernel_rfl)
theorem within:∀ (n:Int) (l:List Inl) (w:Int) (fr to:Int) (hl:l.length≤1000) (out:List Inl) (e:l.filter (inW fr to) = out),Ans XR FWith [.d (.agg [.int .i64 n,inlT.slD l,.int .i64 w]),.d (.int .i64 fr),.d (.int .i64 to)] (.d (inlT.slD out)):=fun n l w fr to hl out e=>by subst e;exact within0 n l w fr to hl _ (wiL _ _ _ l fr to hl)
theorem inT:∀ (l:List Rng) (z:Int) (hl:l.length≤1000) (b:Bool) (e:l.any (inR z) = b),Ans XR FIn [.d (rngT.slD l),.d (.int .i32 z)] (.d (.bool b)):=fun l z hl b e=>by
 rcases inL l z hl with ⟨h1,h2⟩ | ⟨a,b',h1,h2⟩
 ·rw [h2] at e;subst e;exact in0 l z hl h1
 ·rw [h2] at e;subst e;exact in1 l z hl a b' h1
def wOf (zl wl:List Rng) (z:Int):Int:=if zl.any (inR z) = true then 0 else if wl.any (inR z) = true then 2 else 1
def tabW (tab at_:Int):Int:=if at_ < 64 then tab - at_ % tab else 1
theorem tab_mod (tab at_ j:Int) (h1:1≤tab) (h2:tab≤16) (h0:0≤at_) (hj:0≤j) (hj2:j < tab - at_ % tab):(at_ + j) % tab = at_ % tab + j:=by
 have:tab = 1∨tab = 2∨tab = 3∨tab = 4∨tab = 5∨tab = 6∨tab = 7∨tab = 8∨tab = 9∨tab = 10∨tab = 11∨tab = 12∨tab = 13∨tab = 14∨tab = 15∨tab = 16:=by omega
 rcases this with rfl | rfl | rfl | rfl | rfl | rfl | rfl | rfl | rfl | rfl | rfl | rfl | rfl | rfl | rfl | rfl <;> omega
theorem tab_end (tab at_:Int) (h1:1≤tab) (h2:tab≤16) (h0:0≤at_):(at_ + (tab - at_ % tab)) % tab = 0∧1≤tab - at_ % tab∧tab - at_ % tab≤16∧0≤at_ % tab:=by
 have:tab = 1∨tab = 2∨tab = 3∨tab = 4∨tab = 5∨tab = 6∨tab = 7∨tab = 8∨tab = 9∨tab = 10∨tab = 11∨tab = 12∨tab = 13∨tab = 14∨tab = 15∨tab = 16:=by omega
 rcases this with rfl | rfl | rfl | rfl | rfl | rfl | rfl | rfl | rfl | rfl | rfl | rfl | rfl | rfl | rfl | rfl <;> omega
def SiL (T:D) (tab:Int) (out:List Int) (at_:Int) (line:List Int) (k:Int) (n:Int):Prop:=Lp XR 0 (ntOf XR FSizes) (lpKeep XR FSizes 1) (lpBody XR FSizes 1) 0 FUEL (stSi T tab out at_ 1 line k) (.exit 2,stSix T tab out at_ n line k)
theorem siL (T:D) (tab:Int) (out:List Int) (at_:Int) (line:List Int) (k:Int) (h1:1≤tab) (h2:tab≤16) (h0:0≤at_):SiL T tab out at_ line k (tabW tab at_):=by
 unfold tabW
 by_cases h:at_ < 64
 ·rw [if_pos h]
  obtain ⟨e1,e2,e3,e4⟩:=tab_end tab at_ h1 h2 h0
  obtain ⟨N,hN⟩:∃ N:Nat,tab - at_ % tab = (N:Int) + 1:=⟨(tab - at_ % tab - 1).toNat,by omega⟩
  rw [hN] at e1 e2 e3 ⊢
  have hx:=siX T tab out at_ ((N:Int) + 1) line k (by omega) h0 h (by omega) (by omega) _ e1 rfl
  exact Lp.run (fun j=>stSi T tab out at_ ((j:Int) + 1) line k) N (by omega) (by kernel_rfl) (fun j hj=>by
   have:=tab_mod tab at_ ((j:Int) + 1) h1 h2 h0 (by omega) (by omega)
   have hr:=siA T tab out at_ ((j:Int) + 1) line k (by omega) h0 h (by omega) (by omega) _ rfl (by omega)
   exact hr) hx (by simp)
 ·rw [if_neg h]
  exact Lp.run0 (by kernel_rfl) (siY T tab out at_ 1 line k h) (by simp)
theorem siLp:∀ (T:D) (tab:Int) (out:List Int) (at_:Int) (line:List Int) (k:Int) (n:Int) (h:SiL T tab out at_ line k n),Lp XR 0 (ntOf XR FSizes) (lpKeep XR FSizes 1) (lpBody XR FSizes 1) 0 FUEL ⟨[(0,.d T),(2,.d (.int .i64 tab)),(7,i64.tailV 3 out),(8,.d (.int .i64 at_)),(11,.d (.int .i64 1)),(12,.d (i32T.slD line)),(13,.d (.int .i64 (line.length:Int))),(14,.d (.int .i64 k))],[],[]⟩ (.exit 2,stSix T tab out at_ n line k):=fun _ _ _ _ _ _ _ h=>h
theorem appendI:∀ (l:List Int) (z:Int) (hl:l.length≤1000000) (l2:List Int) (e:l ++ [z] = l2),appendV XR 135 135 (i64.tailV 3 l) (.full [.int .i64 z] 1) = some (i64.tailV 3 l2):=fun l z hl l2 e=>by
 subst e
 exact appendOne (e:=i64) (E := 3) (i:=(XR.P.info? 3).getD default) (by kernel_rfl) (by kernel_rfl) (by kernel_rfl) (by decide +kernel) (by decide +kernel) (by kernel_rfl) z rfl (by omega)
abbrev stSo (T:D) (tab:Int) (out:List Int) (at_:Int) (line:List Int) (k:Int):St:=⟨[(0,.d T),(2,.d (.int .i64 tab)),(7,i64.tailV 3 out),(8,.d (.int .i64 at_)),(12,.d (i32T.slD line)),(13,.d (.int .i64 (line.length:Int))),(14,.d (.int .i64 k))],[],[]⟩
abbrev stSox (T:D) (tab:Int) (out:List Int) (at_:Int) (line:List Int):St:=⟨[(0,.d T),(2,.d (.int .i64 tab)),(7,i64.tailV 3 out),(8,.d (.int .i64 at_)),(12,.d (i32T.slD line)),(13,.d (.int .i64 (line.length:Int))),(14,.d (.int .i64 (line.length:Int))),(15,.d (.bool false))],[],[]⟩
abbrev partT:Ty:=.st (.cons i64 (.cons i64 (.cons (.sl i32T) .nil)))
abbrev Part:=partT.ty
abbrev P3 (k a:Int) (r:List Int):Part:=(k,a,r,())
abbrev FRunes:FuncId := 68
theorem of0 (zl wl:List Rng) (z:Int) (hz:zl.length≤1000) (hw:wl.length≤1000) (e:zl.any (inR z) = true):Ans XR FTOf [.d (tabD zl wl),.d (.int .i32 z)] (.d (.int .i64 0)):=by
 exact pV 12 [(1,.v (zb true))] (cC (@inT (zl) (z) hz (true) e) nilE) (by kernel_rfl) rfl rfl
theorem of2 (zl wl:List Rng) (z:Int) (hz:zl.length≤1000) (hw:wl.length≤1000) (e:zl.any (inR z) = false) (e2:wl.any (inR z) = true):Ans XR FTOf [.d (tabD zl wl),.d (.int .i32 z)] (.d (.int .i64 2)):=by
 exact pV 12 [(1,.v (zb false)),(4,.v (zb true))] (cC (@inT (wl) (z) hw (true) e2) (cC (@inT (zl) (z) hz (false) e) nilE)) (by kernel_rfl) rfl rfl
theorem of1 (zl wl:List Rng) (z:Int) (hz:zl.length≤1000) (hw:wl.length≤1000) (e:zl.any (inR z) = false) (e2:wl.any (inR z) = false):Ans XR FTOf [.d (tabD zl wl),.d (.int .i32 z)] (.d (.int .i64 1)):=by
 exact pV 12 [(1,.v (zb false)),(4,.v (zb false))] (cC (@inT (wl) (z) hw (false) e2) (cC (@inT (zl) (z) hz (false) e) nilE)) (by kernel_rfl) rfl rfl
theorem rnA (k a:Int) (r:List Int) (q:k = 3):Ans XR FRunes [.d (.agg [.int .i64 k,.int .i64 a,i32T.slD r])] (.full [.int .i32 8230] 1):=by
 have hx0:(k == (3:Int)) = true:=decide_eq_true (by omega)
 exact pV 12 [(2,bt)] (cP hx0 nilE) (by kernel_rfl) rfl rfl
theorem rnB (k a:Int) (r:List Int) (q:k ≠ 3):Ans XR FRunes [.d (.agg [.int .i64 k,.int .i64 a,i32T.slD r])] (.d (i32T.slD r)):=by
 have hx0:(k == (3:Int)) = false:=decide_eq_false (by omega)
 exact pV 12 [(2,bf)] (cP hx0 nilE) (by kernel_rfl) rfl rfl
theorem soX (T:D) (tab:Int) (out:List Int) (at_:Int) (line:List Int):Rd XR 0 (ntOf XR FSizes) (lpBody XR FSizes 0) (stSo T tab out at_ line line.length) (.exit 0,stSox T tab out at_ line):=by
 have hx0:(decide ((↑line.length:Int) < (↑line.length:Int))) = false:=decide_eq_false (by omega)
 exact (pR (r:=((Ex.exit 0),{ s:=[(0,(V.d T)),(2,(zv tab)),(7,(zt 3 i64 out)),(8,(zv at_)),(12,(zs i32T line)),(13,(zv (↑line.length:Int))),(14,(zv (↑line.length:Int))),(15,(zb (decide ((↑line.length:Int) < (↑line.length:Int)))))],h:=[],og:=[] })) 12 [(1,bf)] (cP hx0 nilE) (by kernel_rfl)).to (by simp (disch:=omega) [wrapId, *])
theorem tof:∀ (zl wl:List Rng) (z:Int) (hz:zl.length≤1000) (hw:wl.length≤1000) (n:Int) (e:wOf zl wl z = n),Ans XR FTOf [.d (tabD zl wl),.d (.int .i32 z)] (.d (.int .i64 n)):=fun zl wl z hz hw n e=>by
 subst e
 unfold wOf
 cases h0:zl.any (inR z) with
 | true=>rw [if_pos rfl];exact of0 zl wl z hz hw h0
 | false =>
  rw [if_neg (by simp)]
  cases h2:wl.any (inR z) with
  | true=>rw [if_pos rfl];exact of2 zl wl z hz hw h0 h2
  | false=>rw [if_neg (by simp)];exact of1 zl wl z hz hw h0 h2
theorem wOf_le (zl wl:List Rng) (z:Int):0≤wOf zl wl z∧wOf zl wl z≤2:=by
 unfold wOf;split
 ·omega
 ·split <;> omega
theorem soA (zl wl:List Rng) (hz:zl.length≤1000) (hw:wl.length≤1000) (tab:Int) (out:List Int) (at_:Int) (line:List Int) (k:Nat) (hl:line.length≤1000000) (hk:k < line.length) (ho:out.length≤1000000) (z:Int) (e:i32T.nth line k = z) (q:z ≠ 9) (n:Int) (en:wOf zl wl z = n) (h0:0≤at_) (h1:at_≤100000000) (h2:0≤n) (h3:n≤100) (out2:List Int) (eo:out ++ [n] = out2):RdC XR 0 (ntOf XR FSizes) (lpKeep XR FSizes 0) (lpBody XR FSizes 0) 0 (stSo (tabD zl wl) tab out at_ line k) (stSo (tabD zl wl) tab out2 (at_ + n) line (k + 1)):=by
 have hx0:(decide ((↑k:Int) < (↑line.length:Int))) = true:=decide_eq_true (by omega)
 have hx1:(z == (9:Int)) = false:=decide_eq_false (by omega)
 exact (pC (st':={ s:=[(0,(V.d (D.ref [(zd rngT zl),(zd rngT wl)] 0))),(2,(zv tab)),(7,(zt 3 i64 out2)),(8,(zv (zw (at_ + n)))),(12,(zs i32T line)),(13,(zv (↑line.length:Int))),(14,(zv (zw ((↑k:Int) + (1:Int)))))],h:=[],og:=[] }) 12 [(1,bt),(2,.v (V.d (D.ref (List.flatMap (Ty.enc i32T) line) (k * 1)))),(3,.v (V.d (D.int IntKind.i32 z))),(4,.v (zv n)),(6,bf),(7,.v (Ty.tailV i64 (3 : TypeId) out2))] (cP (@appendI (out) (n) ho (out2) eo) (cP hx1 (cC (@tof (zl) (wl) (z) hz hw (n) en) (cP (@loadRuneE (line) ([]) (k) hk (z) e) (cP (@iaddrRuneN (line) (k) hk) (cP hx0 nilE)))))) (by kernel_rfl)).to (by simp (disch:=omega) [wrapId, *])
theorem soB (zl wl:List Rng) (hz:zl.length≤1000) (hw:wl.length≤1000) (tab:Int) (out:List Int) (at_:Int) (line:List Int) (k:Nat) (hl:line.length≤1000000) (hk:k < line.length) (ho:out.length≤1000000) (z:Int) (e:i32T.nth line k = z) (q:z = 9) (n0:Int) (en:wOf zl wl z = n0) (n:Int) (hn:SiL (tabD zl wl) tab out at_ line k n) (h0:0≤at_) (h1:at_≤100000000) (h2:0≤n) (h3:n≤100) (out2:List Int) (eo:out ++ [n] = out2):RdC XR 0 (ntOf XR FSizes) (lpKeep XR FSizes 0) (lpBody XR FSizes 0) 0 (stSo (tabD zl wl) tab out at_ line k) (stSo (tabD zl wl) tab out2 (at_ + n) line (k + 1)):=by
 have hx0:(decide ((↑k:Int) < (↑line.length:Int))) = true:=decide_eq_true (by omega)
 have hx1:(z == (9:Int)) = true:=decide_eq_true (by omega)
 exact (pC (st':={ s:=[(0,(V.d (D.ref [(zd rngT zl),(zd rngT wl)] 0))),(2,(zv tab)),(7,(zt 3 i64 out2)),(8,(zv (zw (at_ + n)))),(12,(zs i32T line)),(13,(zv (↑line.length:Int))),(14,(zv (zw ((↑k:Int) + (1:Int)))))],h:=[],og:=[] }) 12 [(1,bt),(2,.v (V.d (D.ref (List.flatMap (Ty.enc i32T) line) (k * 1)))),(3,.v (V.d (D.int IntKind.i32 z))),(4,.v (zv n0)),(6,bt),(7,.l (Ex.exit 2) (stSix (D.ref [(zd rngT zl),(zd rngT wl)] 0) tab out at_ n line (↑k:Int))),(8,.v (Ty.tailV i64 (3 : TypeId) out2))] (cP (@appendI (out) (n) ho (out2) eo) (cE (@siLp (D.ref [(zd rngT zl),(zd rngT wl)] 0) (tab) (out) (at_) (line) ((↑k:Int)) (n) hn) (cP hx1 (cC (@tof (zl) (wl) (z) hz hw (n0) en) (cP (@loadRuneE (line) ([]) (k) hk (z) e) (cP (@iaddrRuneN (line) (k) hk) (cP hx0 nilE))))))) (by kernel_rfl)).to (by simp (disch:=omega) [wrapId, *])
def szOf (zl wl:List Rng) (tab at_ z:Int):Int:=if z = 9 then tabW tab at_ else wOf zl wl z
def sizesL (zl wl:List Rng) (tab:Int):Int→List Int→List Int
 | _,[]=>[]
 | at_,z :: l=>szOf zl wl tab at_ z :: sizesL zl wl tab (at_ + szOf zl wl tab at_ z) l
theorem sizesL_len (zl wl:List Rng) (tab:Int):∀ (l:List Int) (at_:Int),(sizesL zl wl tab at_ l).length = l.length
 | [],_=>rfl
 | z :: l,at_=>by simp only [sizesL,List.length_cons,sizesL_len zl wl tab l]
theorem tabW_le (tab at_:Int) (h1:1≤tab) (h2:tab≤16) (h0:0≤at_):1≤tabW tab at_∧tabW tab at_≤16:=by
 unfold tabW
 obtain ⟨e1,e2,e3,e4⟩:=tab_end tab at_ h1 h2 h0
 split <;> omega
theorem szOf_le (zl wl:List Rng) (tab at_ z:Int) (h1:1≤tab) (h2:tab≤16) (h0:0≤at_):0≤szOf zl wl tab at_ z∧szOf zl wl tab at_ z≤16:=by
 have:=tabW_le tab at_ h1 h2 h0
 have:=wOf_le zl wl z
 unfold szOf;split <;> omega
theorem soLC (zl wl:List Rng) (hz:zl.length≤1000) (hw:wl.length≤1000) (tab:Int) (h1:1≤tab) (h2:tab≤16) (line:List Int) (hl:line.length≤1000000) :
  ∀ (j k m:Nat) (out:List Int) (at_:Int),k + j = line.length→j < m→out.length = k→0≤at_→at_≤16 * k →
  ∃ at2,LpC XR 0 (ntOf XR FSizes) (lpKeep XR FSizes 0) (lpBody XR FSizes 0) 0 m (stSo (tabD zl wl) tab out at_ line k) (.exit 0,stSox (tabD zl wl) tab (out ++ sizesL zl wl tab at_ (line.drop k)) at2 line):=by
 intro j
 induction j with
 | zero =>
  intro k m out at_ hk hm ho h0 h3
  obtain rfl:k = line.length:=by omega
  obtain ⟨m,rfl⟩:∃ x,m = x + 1:=⟨m - 1,by omega⟩
  rw [List.drop_length]
  refine ⟨at_,?_⟩
  show LpC _ _ _ _ _ _ _ _ (Ex.exit 0,stSox (tabD zl wl) tab (out ++ []) at_ line)
  rw [List.append_nil]
  exact LpC.last (soX (tabD zl wl) tab out at_ line) (by simp)
 | succ j ih =>
  intro k m out at_ hk hm ho h0 h3
  obtain ⟨m,rfl⟩:∃ x,m = x + 1:=⟨m - 1,by omega⟩
  have hkl:k < line.length:=by omega
  have hd:line.drop k = i32T.nth line k :: line.drop (k + 1):=by rw [List.drop_eq_getElem_cons hkl,nth_get (e:=i32T) hkl]
  obtain ⟨q1,q2⟩:=szOf_le zl wl tab at_ (i32T.nth line k) h1 h2 h0
  obtain ⟨at2,hi⟩:=ih (k + 1) m (out ++ [szOf zl wl tab at_ (i32T.nth line k)]) (at_ + szOf zl wl tab at_ (i32T.nth line k)) (by omega) (by omega) (by simp;omega) (by omega) (by omega)
  refine ⟨at2,?_⟩
  rw [hd]
  have e:out ++ sizesL zl wl tab at_ (i32T.nth line k :: line.drop (k + 1)) = out ++ [szOf zl wl tab at_ (i32T.nth line k)] ++ sizesL zl wl tab (at_ + szOf zl wl tab at_ (i32T.nth line k)) (line.drop (k + 1)):=by simp [sizesL]
  rw [e]
  refine LpC.next ?_ hi
  by_cases h9:i32T.nth line k = (9:Int)
  ·have es:szOf zl wl tab at_ (i32T.nth line k) = tabW tab at_:=by unfold szOf;rw [if_pos h9]
   have:=tabW_le tab at_ h1 h2 h0
   rw [es]
   exact soB zl wl hz hw tab out at_ line k hl hkl (by omega) _ rfl h9 _ rfl _ (siL (tabD zl wl) tab out at_ line k h1 h2 h0) h0 (by omega) (by omega) (by omega) _ rfl
  ·have es:szOf zl wl tab at_ (i32T.nth line k) = wOf zl wl (i32T.nth line k):=by unfold szOf;rw [if_neg h9]
   have:=wOf_le zl wl (i32T.nth line k)
   rw [es]
   exact soA zl wl hz hw tab out at_ line k hl hkl (by omega) _ rfl h9 _ rfl h0 (by omega) (by omega) (by omega) _ rfl
def SoL (zl wl:List Rng) (tab:Int) (line out:List Int) (at2:Int):Prop:=Lp XR 0 (ntOf XR FSizes) (lpKeep XR FSizes 0) (lpBody XR FSizes 0) 0 FUEL (stSo (tabD zl wl) tab [] 0 line 0) (.exit 0,stSox (tabD zl wl) tab out at2 line)
theorem soL (zl wl:List Rng) (hz:zl.length≤1000) (hw:wl.length≤1000) (tab:Int) (h1:1≤tab) (h2:tab≤16) (line:List Int) (hl:line.length≤1000000):∃ at2,SoL zl wl tab line (sizesL zl wl tab 0 line) at2:=by
 obtain ⟨at2,h⟩:=soLC zl wl hz hw tab h1 h2 line hl line.length 0 1152921504606846975 [] 0 (by omega) (by omega) rfl (by omega) (by omega)
 exact ⟨at2,LpC.start h (by kernel_rfl)⟩
theorem soLp:∀ (zl wl:List Rng) (tab:Int) (line out:List Int) (at2:Int) (h:SoL zl wl tab line out at2),Lp XR 0 (ntOf XR FSizes) (lpKeep XR FSizes 0) (lpBody XR FSizes 0) 0 FUEL ⟨[(0,.d (tabD zl wl)),(2,.d (.int .i64 tab)),(7,i64.tailV 3 []),(8,.d (.int .i64 0)),(12,.d (i32T.slD line)),(13,.d (.int .i64 (line.length:Int))),(14,.d (.int .i64 0))],[],[]⟩ (.exit 0,stSox (tabD zl wl) tab out at2 line):=fun _ _ _ _ _ _ h=>h
theorem iaddrPartN:∀ (l:List Part) (i:Nat) (hi:i < l.length),iaddrV XR 101 (.d (partT.slD l)) (.d (.int .i64 (i:Int))) = some (.d (.ref (l.flatMap partT.enc) (i * 3))):=fun l i hi=>iaddrSl (te := 133) (z:=3) (by kernel_rfl) (by kernel_rfl) (by omega) (by omega) (flat_len _ 3 (Ty.enc_length partT) l)
theorem iaddrPartL:∀ (l:List Part) (i:Nat) (hb:l.length≤1000000) (hi:i + 1 = l.length),iaddrV XR 101 (.d (partT.slD l)) (.d (.int .i64 (IntKind.wrap .i64 ((l.length:Int) - 1)))) = some (.d (.ref (l.flatMap partT.enc) (i * 3))):=fun l i hb hi=>by
 have:=iaddrPartN l i (by omega)
 rwa [show IntKind.wrap .i64 ((l.length:Int) - 1) = (i:Int) by rw [wrapId _ (by omega) (by omega)];omega]
theorem loadPartE:∀ (l:List Part) (h:List Ob) (k:Nat) (hk:k < l.length) (x a:Int) (r:List Int) (e:partT.nth l k = P3 x a r),loadV XR h 133 (.d (.ref (l.flatMap partT.enc) (k * 3))) = some (.d (.agg [.int .i64 x,.int .i64 a,i32T.slD r])):=fun l h k hk x a r e=>by
 have:=loadAgg (X:=XR) (h:=h) (t := 133) (e:=partT) (by kernel_rfl) (by kernel_rfl) hk
 rw [e] at this
 exact this
theorem loadPartK:∀ (l:List Part) (h:List Ob) (k:Nat) (hk:k < l.length) (x a:Int) (r:List Int) (e:partT.nth l k = P3 x a r),loadV XR h 3 (.d (.ref (l.flatMap partT.enc) (k * 3))) = some (.d (.int .i64 x)):=fun l h k hk x a r e=>by
 have:=loadCell (X:=XR) (h:=h) (t := 3) (e:=partT) (z1:=1) (o:=0) (by kernel_rfl) (by kernel_rfl) hk (show 0 < 3 by omega)
 rw [e] at this
 exact this
theorem loadPartA:∀ (l:List Part) (h:List Ob) (k:Nat) (hk:k < l.length) (x a:Int) (r:List Int) (e:partT.nth l k = P3 x a r),loadV XR h 3 (.d (.ref (l.flatMap partT.enc) (k * 3 + 1))) = some (.d (.int .i64 a)):=fun l h k hk x a r e=>by
 have:=loadCell (X:=XR) (h:=h) (t := 3) (e:=partT) (z1:=1) (o:=1) (by kernel_rfl) (by kernel_rfl) hk (show 1 < 3 by omega)
 rw [e] at this
 exact this
theorem loadPartR:∀ (l:List Part) (h:List Ob) (k:Nat) (hk:k < l.length) (x a:Int) (r:List Int) (e:partT.nth l k = P3 x a r),loadV XR h 65 (.d (.ref (l.flatMap partT.enc) (k * 3 + 2))) = some (.d (i32T.slD r)):=fun l h k hk x a r e=>by
 have:=loadCell (X:=XR) (h:=h) (t := 65) (e:=partT) (z1:=1) (o:=2) (by kernel_rfl) (by kernel_rfl) hk (show 2 < 3 by omega)
 rw [e] at this
 exact this
theorem slicePartL:∀ (l:List Part) (k:Nat) (hb:l.length≤1000000) (hk:k + 1 = l.length) (l2:List Part) (e:l.take k = l2),sliceV XR 101 (.d (partT.slD l)) none (some (.d (.int .i64 (IntKind.wrap .i64 ((l.length:Int) - 1))))) none = some (.d (partT.slD l2)):=fun l k hb hk l2 e=>by
 subst e
 have:=sliceHi (X:=XR) (t := 101) (e:=partT) (te := 133) (l:=l) (b:=(k:Int)) (by kernel_rfl) (by kernel_rfl) (by omega) (by omega)
 rwa [show IntKind.wrap .i64 ((l.length:Int) - 1) = (k:Int) by rw [wrapId _ (by omega) (by omega)];omega]
theorem appendPart:∀ (l:List Part) (x a:Int) (r:List Int) (hl:l.length≤1000000) (l2:List Part) (e:l ++ [P3 x a r] = l2),appendV XR 101 101 (partT.tailV 133 l) (.full [.int .i64 x,.int .i64 a,i32T.slD r] 1) = some (partT.tailV 133 l2):=fun l x a r hl l2 e=>by
 subst e
 exact appendOne (e:=partT) (E := 133) (i:=(XR.P.info? 133).getD default) (by kernel_rfl) (by kernel_rfl) (by kernel_rfl) (by decide +kernel) (by decide +kernel) (by kernel_rfl) (P3 x a r) rfl (by omega)
theorem appendPart1:∀ (l:List Part) (x a z:Int) (hl:l.length≤1000000) (l2:List Part) (e:l ++ [P3 x a [z]] = l2),appendV XR 101 101 (partT.tailV 133 l) (.full [.int .i64 x,.int .i64 a,.sl [.int .i32 z] 1] 1) = some (partT.tailV 133 l2):=fun l x a z hl l2 e=>appendPart l x a [z] hl l2 e
theorem appendPart0:∀ (l:List Part) (x a:Int) (hl:l.length≤1000000) (l2:List Part) (e:l ++ [P3 x a []] = l2),appendV XR 101 101 (partT.tailV 133 l) (.full [.int .i64 x,.int .i64 a,.sl [] 0] 1) = some (partT.tailV 133 l2):=fun l x a hl l2 e=>appendPart l x a [] hl l2 e
theorem appendParts0:∀ (m:List Part) (hm:m.length≤1000000),appendV XR 101 101 (partT.tailV 133 []) (.d (partT.slD m)) = some (partT.tailV 133 m):=fun m hm=>appendList (e:=partT) (E := 133) (i:=(XR.P.info? 133).getD default) (l:=[]) (by kernel_rfl) (by kernel_rfl) (by kernel_rfl) (by kernel_rfl) (by decide +kernel) (by decide +kernel) (by kernel_rfl) (fun _=>rfl) (m:=m) rfl (by simp) (by omega)
theorem appendR:∀ (l m:List Int) (hl:l.length≤100000000) (hm:m.length≤100000000) (l2:List Int) (e:l ++ m = l2),appendV XR 65 65 (i32T.tailV 21 l) (.d (i32T.slD m)) = some (i32T.tailV 21 l2):=fun l m hl hm l2 e=>by
 subst e
 exact appendList (e:=i32T) (E := 21) (i:=(XR.P.info? 21).getD default) (by kernel_rfl) (by kernel_rfl) (by kernel_rfl) (by kernel_rfl) (by decide +kernel) (by decide +kernel) (by kernel_rfl) (fun _=>rfl) (m:=m) rfl (by omega) (by omega)
theorem appendR0:∀ (m:List Int) (hm:m.length≤100000000),appendV XR 65 65 (i32T.tailV 21 []) (.d (i32T.slD m)) = some (i32T.tailV 21 m):=fun m hm=>appendR [] m (by simp) hm m rfl
theorem appendR1:∀ (l:List Int) (z:Int) (hl:l.length≤100000000) (l2:List Int) (e:l ++ [z] = l2),appendV XR 65 65 (i32T.tailV 21 l) (.full [.int .i32 z] 1) = some (i32T.tailV 21 l2):=fun l z hl l2 e=>by
 subst e
 exact appendRune l z (by omega)
abbrev FPlain:FuncId := 65
theorem sizes0 (zl wl:List Rng) (tab:Int) (line out:List Int) (at2:Int) (h:SoL zl wl tab line out at2):Ans XR FSizes [.d (tabD zl wl),.d (i32T.slD line),.d (.int .i64 tab)] (.d (i64.slD out)):=by
 exact pV 12 [(1,.l (Ex.exit (0:Nat)) (stSox (tabD zl wl) tab out at2 line))] (cE (@soLp (zl) (wl) (tab) (line) (out) (at2) h) nilE) (by kernel_rfl) rfl rfl
theorem pl1 (l:List Part) (k:Nat) (hl:l.length≤100000) (hk:k + 1 = l.length) (hk2:k < l.length) (a:Int) (r:List Int) (e:partT.nth l k = P3 1 a r) (hr:r.length≤1000000) (ha0 : -1000000000≤a) (ha1:a≤1000000000) (z at_:Int) (q:a + r.length = at_) (r2:List Int) (er:r ++ [z] = r2) (l1 l2:List Part) (e1:l.take k = l1) (h1:l1.length≤100000) (e2:l1 ++ [P3 1 a r2] = l2):Ans XR FPlain [.d (partT.slD l),.d (.int .i32 z),.d (.int .i64 at_)] (partT.tailV 133 l2):=by
 have hx0:(decide ((IntKind.wrap IntKind.i64 ((↑l.length:Int) - (1:Int))) ≥ (0:Int))) = true:=by (first | assumption | (((try simp only [SA] at *);(try simp (disch:=omega) only [SB,wrapI32,reduceCtorEq] at *)) <;> first | omega | assumption | (refine ⟨?_,?_⟩ <;> assumption) | (intros;assumption)))
 have hx1:((IntKind.wrap IntKind.i64 (a + (↑r.length:Int))) == at_) = true:=by (first | assumption | (((try simp only [SA] at *);(try simp (disch:=omega) only [SB,wrapI32,reduceCtorEq] at *)) <;> first | omega | assumption | (refine ⟨?_,?_⟩ <;> assumption) | (intros;assumption)))
 exact pV 12 [(3,bt),(4,bt),(5,bt),(6,.v (V.d (D.ref (List.flatMap (Ty.enc partT) l) (k * 3)))),(7,bt),(8,bt),(9,.v (zv 1)),(10,bt),(12,bt),(16,.v (V.d (D.ref (List.flatMap (Ty.enc partT) l) (k * 3)))),(19,.v (zv a)),(23,.v (V.d (D.ref (List.flatMap (Ty.enc partT) l) (k * 3)))),(26,.v (V.d (Ty.slD i32T r))),(35,bt),(36,.v (V.d (D.ref (List.flatMap (Ty.enc partT) l) (k * 3)))),(37,.v (V.d (Ty.slD i32T r))),(38,.v (Ty.tailV i32T (21 : TypeId) r)),(39,.v (Ty.tailV i32T (21 : TypeId) r2)),(40,.v (V.d (Ty.slD partT l1))),(41,.v (Ty.tailV partT (133 : TypeId) l1)),(42,.v (V.d (D.ref (List.flatMap (Ty.enc partT) l) (k * 3)))),(43,.v (zv a)),(44,.v (Ty.tailV partT (133 : TypeId) l2))] (cP (@appendPart (l1) ((1:Int)) (a) (r2) (by omega) (l2) e2) (cP (@loadPartA (l) ([]) (k) hk2 ((1:Int)) (a) (r) e) (cP (@iaddrPartL (l) (k) (by omega) hk) (cP (@appendParts0 (l1) (by omega)) (cP (@slicePartL (l) (k) (by omega) hk (l1) e1) (cP (@appendR1 (r) (z) (by omega) (r2) er) (cP (@appendR0 (r) (by omega)) (cP (@loadPartR (l) ([]) (k) hk2 ((1:Int)) (a) (r) e) (cP (@iaddrPartL (l) (k) (by omega) hk) (cP hx1 (cP (@loadPartR (l) ([]) (k) hk2 ((1:Int)) (a) (r) e) (cP (@iaddrPartL (l) (k) (by omega) hk) (cP (@loadPartA (l) ([]) (k) hk2 ((1:Int)) (a) (r) e) (cP (@iaddrPartL (l) (k) (by omega) hk) (cP hx0 (cP hx0 (cP (@loadPartK (l) ([]) (k) hk2 ((1:Int)) (a) (r) e) (cP hx0 (cP hx0 (cP (@iaddrPartL (l) (k) (by omega) hk) (cP hx0 (cP hx0 (cP hx0 nilE))))))))))))))))))))))) (by kernel_rfl) rfl rfl
theorem pl2 (l:List Part) (hl:l.length≤100000) (hk:l.length = 0) (z at_:Int) (l2:List Part) (e2:l ++ [P3 1 at_ [z]] = l2):Ans XR FPlain [.d (partT.slD l),.d (.int .i32 z),.d (.int .i64 at_)] (partT.tailV 133 l2):=by
 have hx0:(decide ((IntKind.wrap IntKind.i64 ((↑l.length:Int) - (1:Int))) ≥ (0:Int))) = false:=by (first | assumption | (((try simp only [SA] at *);(try simp (disch:=omega) only [SB,wrapI32,reduceCtorEq] at *)) <;> first | omega | assumption | (refine ⟨?_,?_⟩ <;> assumption) | (intros;assumption)))
 exact pV 12 [(3,bf),(4,bf),(5,bf),(6,bf),(7,bf),(8,bf),(9,bf),(26,.v (Ty.tailV partT (133 : TypeId) l)),(27,.v (Ty.tailV partT (133 : TypeId) l2))] (cP (@appendPart1 (l) ((1:Int)) (at_) (z) (by omega) (l2) e2) (cP (@appendParts0 (l) (by omega)) (cP hx0 (cP hx0 (cP hx0 (cP hx0 (cP hx0 (cP hx0 (cP hx0 nilE))))))))) (by kernel_rfl) rfl rfl
theorem pl3 (l:List Part) (k:Nat) (hl:l.length≤100000) (hk:k + 1 = l.length) (hk2:k < l.length) (x a:Int) (r:List Int) (e:partT.nth l k = P3 x a r) (q:x ≠ 1) (z at_:Int) (l2:List Part) (e2:l ++ [P3 1 at_ [z]] = l2):Ans XR FPlain [.d (partT.slD l),.d (.int .i32 z),.d (.int .i64 at_)] (partT.tailV 133 l2):=by
 have hx0:(decide ((IntKind.wrap IntKind.i64 ((↑l.length:Int) - (1:Int))) ≥ (0:Int))) = true:=by (first | assumption | (((try simp only [SA] at *);(try simp (disch:=omega) only [SB,wrapI32,reduceCtorEq] at *)) <;> first | omega | assumption | (refine ⟨?_,?_⟩ <;> assumption) | (intros;assumption)))
 have hx1:(x == (1:Int)) = false:=decide_eq_false (by omega)
 exact pV 12 [(3,bt),(4,bt),(5,bt),(6,.v (V.d (D.ref (List.flatMap (Ty.enc partT) l) (k * 3)))),(7,bt),(8,bt),(9,.v (zv x)),(10,bt),(12,bt),(13,bf),(14,bf),(15,bf),(16,bf),(17,bf),(18,bf),(19,bf),(20,bf),(21,bf),(22,bf),(23,bf),(24,bf),(25,bf),(26,bf),(27,bf),(29,.v (Ty.tailV partT (133 : TypeId) l)),(30,.v (Ty.tailV partT (133 : TypeId) l2))] (cP (@appendPart1 (l) ((1:Int)) (at_) (z) (by omega) (l2) e2) (cP (@appendParts0 (l) (by omega)) (cP hx1 (cP hx1 (cP hx1 (cP hx1 (cP hx1 (cP hx1 (cP hx1 (cP hx1 (cP hx1 (cP hx1 (cP hx1 (cP hx1 (cP hx1 (cP hx1 (cP hx1 (cP hx0 (cP hx0 (cP (@loadPartK (l) ([]) (k) hk2 (x) (a) (r) e) (cP hx0 (cP hx0 (cP (@iaddrPartL (l) (k) (by omega) hk) (cP hx0 (cP hx0 (cP hx0 nilE)))))))))))))))))))))))))) (by kernel_rfl) rfl rfl
theorem pl4 (l:List Part) (k:Nat) (hl:l.length≤100000) (hk:k + 1 = l.length) (hk2:k < l.length) (a:Int) (r:List Int) (e:partT.nth l k = P3 1 a r) (hr:r.length≤1000000) (ha0 : -1000000000≤a) (ha1:a≤1000000000) (z at_:Int) (q:a + r.length ≠ at_) (l2:List Part) (e2:l ++ [P3 1 at_ [z]] = l2):Ans XR FPlain [.d (partT.slD l),.d (.int .i32 z),.d (.int .i64 at_)] (partT.tailV 133 l2):=by
 have hx0:(decide ((IntKind.wrap IntKind.i64 ((↑l.length:Int) - (1:Int))) ≥ (0:Int))) = true:=by (first | assumption | (((try simp only [SA] at *);(try simp (disch:=omega) only [SB,wrapI32,reduceCtorEq] at *)) <;> first | omega | assumption | (refine ⟨?_,?_⟩ <;> assumption) | (intros;assumption)))
 have hx1:((IntKind.wrap IntKind.i64 (a + (↑r.length:Int))) == at_) = false:=by (first | assumption | (((try simp only [SA] at *);(try simp (disch:=omega) only [SB,wrapI32,reduceCtorEq] at *)) <;> first | omega | assumption | (refine ⟨?_,?_⟩ <;> assumption) | (intros;assumption)))
 exact pV 12 [(3,bt),(4,bt),(5,bt),(6,.v (V.d (D.ref (List.flatMap (Ty.enc partT) l) (k * 3)))),(7,bt),(8,bt),(9,.v (zv 1)),(10,bt),(12,bt),(16,.v (V.d (D.ref (List.flatMap (Ty.enc partT) l) (k * 3)))),(19,.v (zv a)),(23,.v (V.d (D.ref (List.flatMap (Ty.enc partT) l) (k * 3)))),(26,.v (V.d (Ty.slD i32T r))),(35,bf),(36,.v (Ty.tailV partT (133 : TypeId) l)),(37,.v (Ty.tailV partT (133 : TypeId) l2))] (cP (@appendPart1 (l) ((1:Int)) (at_) (z) (by omega) (l2) e2) (cP (@appendParts0 (l) (by omega)) (cP hx1 (cP (@loadPartR (l) ([]) (k) hk2 ((1:Int)) (a) (r) e) (cP (@iaddrPartL (l) (k) (by omega) hk) (cP (@loadPartA (l) ([]) (k) hk2 ((1:Int)) (a) (r) e) (cP (@iaddrPartL (l) (k) (by omega) hk) (cP hx0 (cP hx0 (cP (@loadPartK (l) ([]) (k) hk2 ((1:Int)) (a) (r) e) (cP hx0 (cP hx0 (cP (@iaddrPartL (l) (k) (by omega) hk) (cP hx0 (cP hx0 (cP hx0 nilE)))))))))))))))) (by kernel_rfl) rfl rfl
theorem sizes:∀ (zl wl:List Rng) (hz:zl.length≤1000) (hw:wl.length≤1000) (tab:Int) (h1:1≤tab) (h2:tab≤16) (line:List Int) (hl:line.length≤1000000) (out:List Int) (e:sizesL zl wl tab 0 line = out),Ans XR FSizes [.d (tabD zl wl),.d (i32T.slD line),.d (.int .i64 tab)] (.d (i64.slD out)):=fun zl wl hz hw tab h1 h2 line hl out e=>by
 subst e
 obtain ⟨at2,h⟩:=soL zl wl hz hw tab h1 h2 line hl
 exact sizes0 zl wl tab line _ at2 h
def addP (l:List Part) (z at_:Int):List Part :=
 match l.getLast? with
 | some p=>if p.1 = (1:Int)∧(p.2.1:Int) + (p.2.2.1.length:Nat) = at_ then l.dropLast ++ [P3 1 p.2.1 (p.2.2.1 ++ [z])] else l ++ [P3 1 at_ [z]]
 | none=>[P3 1 at_ [z]]
theorem plain:∀ (l:List Part) (hl:l.length≤100000) (hr:∀ p ∈ l,p.2.2.1.length≤1000000∧(-1000000000:Int)≤p.2.1∧(p.2.1:Int)≤1000000000) (z at_:Int) (l2:List Part) (e:addP l z at_ = l2),Ans XR FPlain [.d (partT.slD l),.d (.int .i32 z),.d (.int .i64 at_)] (partT.tailV 133 l2):=fun l hl hr z at_ l2 e=>by
 subst e
 by_cases h0:l.length = 0
 ·obtain rfl:l = []:=List.length_eq_zero_iff.1 h0
  exact pl2 [] hl rfl z at_ _ rfl
 ·obtain ⟨k,hk⟩:∃ k,k + 1 = l.length:=⟨l.length - 1,by omega⟩
  obtain ⟨x,a,r,u,e⟩:∃ x a r,∃ u:Unit,partT.nth l k = (x,a,r,u):=⟨_,_,_,_,rfl⟩
  have hlast:l.getLast? = some (partT.nth l k):=by
   rw [List.getLast?_eq_getElem?,show l.length - 1 = k by omega,List.getElem?_eq_getElem (by omega),nth_get (e:=partT) (by omega)]
  have hm:partT.nth l k ∈ l:=by rw [nth_get (e:=partT) (by omega)];exact List.getElem_mem _
  obtain ⟨m1,m2,m3⟩:=hr _ hm
  have hd:l.dropLast = l.take k:=by rw [List.dropLast_eq_take,show l.length - 1 = k by omega]
  unfold addP
  rw [hlast]
  rw [e] at m1 m2 m3 ⊢
  simp only at m1 m2 m3 ⊢
  by_cases q:(x:Int) = 1
  ·subst q
   by_cases q2:(a:Int) + (r.length:Nat) = at_
   ·rw [if_pos ⟨rfl,q2⟩,hd]
    exact pl1 l k hl hk (by omega) a r e m1 m2 m3 z at_ q2 _ rfl _ _ rfl (by rw [List.length_take];omega) rfl
   ·rw [if_neg (fun h=>q2 h.2)]
    exact pl4 l k hl hk (by omega) a r e m1 m2 m3 z at_ q2 _ rfl
  ·rw [if_neg (fun h=>q h.1)]
   exact pl3 l k hl hk (by omega) x a r e q z at_ _ rfl
abbrev FOfC:FuncId := 55
def rnOf (p:Part):List Int:=if p.1 = (3:Int) then [8230] else p.2.2.1
abbrev stC0 (T:D) (l:List Part) (tab:Int) (all:List Int) (k:Int):St:=⟨[(0,.d T),(1,.d (partT.slD l)),(2,.d (.int .i64 tab)),(7,i32T.tailV 21 all),(19,.d (partT.slD l)),(20,.d (.int .i64 (l.length:Int))),(21,.d (.int .i64 k))],[],[]⟩
abbrev stC0x (T:D) (l:List Part) (tab:Int) (all:List Int):St:=⟨[(0,.d T),(1,.d (partT.slD l)),(2,.d (.int .i64 tab)),(7,i32T.tailV 21 all),(19,.d (partT.slD l)),(20,.d (.int .i64 (l.length:Int))),(21,.d (.int .i64 (l.length:Int))),(22,.d (.bool false))],[],[]⟩
abbrev cellT:Ty:=.st (.cons (.int .i32) (.cons i64 (.cons i64 (.cons i64 .nil))))
abbrev Cell:=cellT.ty
abbrev C4 (z k w a:Int):Cell:=(z,k,w,a,())
def appendCell_T:Prop:=∀ (l:List Cell) (z k w a:Int) (hl:l.length≤10000000) (l2:List Cell) (e:l ++ [C4 z k w a] = l2),appendV XR 35 35 (cellT.tailV 62 l) (.full [.int .i32 z,.int .i64 k,.int .i64 w,.int .i64 a] 1) = some (cellT.tailV 62 l2)
theorem appendCell:appendCell_T:=fun l z k w a hl l2 e=>by
 subst e
 exact appendOne (e:=cellT) (E := 62) (i:=(XR.P.info? 62).getD default) (by kernel_rfl) (by kernel_rfl) (by kernel_rfl) (by decide +kernel) (by decide +kernel) (by kernel_rfl) (C4 z k w a) rfl (by omega)
theorem iaddrIntN:∀ (l:List Int) (i:Nat) (hi:i < l.length),iaddrV XR 135 (.d (i64.slD l)) (.d (.int .i64 (i:Int))) = some (.d (.ref (l.flatMap i64.enc) (i * 1))):=fun l i hi=>iaddrSl (te := 3) (z:=1) (by kernel_rfl) (by kernel_rfl) (by omega) (by omega) (flat_len _ 1 (Ty.enc_length i64) l)
theorem loadIntE:∀ (l:List Int) (h:List Ob) (k:Nat) (hk:k < l.length) (z:Int) (e:i64.nth l k = z),loadV XR h 3 (.d (.ref (l.flatMap i64.enc) (k * 1))) = some (.d (.int .i64 z)):=fun l h k hk z e=>by subst e;exact Pv.loadCell (e:=i64) (z1:=1) (by kernel_rfl) (by kernel_rfl) hk (show 0 < 1 by omega)
abbrev partO (x a:Int) (rd:D):Ob:=.cells [.d (.int .i64 x),.d (.int .i64 a),.d rd]
abbrev cellO (z k w a:Int):Ob:=.cells [.d (.int .i32 z),.d (.int .i64 k),.d (.int .i64 w),.d (.int .i64 a)]
abbrev stC3 (sz:List Int) (out:List Cell) (i:Int) (n:Int) (ps rr:D) (pn pk rn rk:Int) (o1 o2:Ob):St :=
 ⟨[(10,.d (i64.slD sz)),(11,cellT.tailV 62 out),(12,.d (.int .i64 i)),(14,.obj 0 0),(17,.obj 1 0),(18,.d (.int .i64 n)),(34,.d ps),(35,.d (.int .i64 pn)),(36,.d (.int .i64 pk)),(41,.d rr),(42,.d (.int .i64 rn)),(43,.d (.int .i64 rk))],[o1,o2],[]⟩
abbrev stC3x (sz:List Int) (out:List Cell) (i:Int) (n:Int) (ps rr:D) (pn pk rn rk:Int) (o1 o2:Ob):St :=
 ⟨[(10,.d (i64.slD sz)),(11,cellT.tailV 62 out),(12,.d (.int .i64 i)),(14,.obj 0 0),(17,.obj 1 0),(18,.d (.int .i64 n)),(34,.d ps),(35,.d (.int .i64 pn)),(36,.d (.int .i64 pk)),(41,.d rr),(42,.d (.int .i64 rn)),(43,.d (.int .i64 rk)),(80,.d (.bool false))],[o1,o2],[]⟩
theorem c0A (T:D) (l:List Part) (tab:Int) (all:List Int) (k:Nat) (hl:l.length≤100000) (hk:k < l.length) (ha:all.length≤1000000) (x a:Int) (r:List Int) (e:partT.nth l k = P3 x a r) (hr:r.length≤1000000) (q:x ≠ 3) (all2:List Int) (e2:all ++ r = all2):RdC XR 0 (ntOf XR FOfC) (lpKeep XR FOfC 0) (lpBody XR FOfC 0) 0 (stC0 T l tab all k) (stC0 T l tab all2 (k + 1)):=by
 have hx0:(decide ((↑k:Int) < (↑l.length:Int))) = true:=decide_eq_true (by omega)
 exact (pC (st':={ s:=[(0,(V.d T)),(1,(zs partT l)),(2,(zv tab)),(7,(zt 21 i32T all2)),(19,(zs partT l)),(20,(zv (↑l.length:Int))),(21,(zv (zw ((↑k:Int) + (1:Int)))))],h:=[],og:=[] }) 12 [(1,bt),(2,.v (V.d (D.ref (List.flatMap (Ty.enc partT) l) (k * 3)))),(3,.v (V.d (D.agg [(zi x),(zi a),(Ty.slD i32T r)]))),(5,.v (V.d (Ty.slD i32T r))),(6,.v (Ty.tailV i32T (21 : TypeId) all2))] (cP (@appendR (all) (r) (by omega) (by omega) (all2) e2) (cC (@rnB (x) (a) (r) q) (cP (@loadPartE (l) ([]) (k) hk (x) (a) (r) e) (cP (@iaddrPartN (l) (k) hk) (cP hx0 nilE))))) (by kernel_rfl)).to (by simp (disch:=omega) [wrapId, *])
theorem c0B (T:D) (l:List Part) (tab:Int) (all:List Int) (k:Nat) (hl:l.length≤100000) (hk:k < l.length) (ha:all.length≤1000000) (x a:Int) (r:List Int) (e:partT.nth l k = P3 x a r) (q:x = 3) (all2:List Int) (e2:all ++ [8230] = all2):RdC XR 0 (ntOf XR FOfC) (lpKeep XR FOfC 0) (lpBody XR FOfC 0) 0 (stC0 T l tab all k) (stC0 T l tab all2 (k + 1)):=by
 have hx0:(decide ((↑k:Int) < (↑l.length:Int))) = true:=decide_eq_true (by omega)
 exact (pC (st':={ s:=[(0,(V.d T)),(1,(zs partT l)),(2,(zv tab)),(7,(zt 21 i32T all2)),(19,(zs partT l)),(20,(zv (↑l.length:Int))),(21,(zv (zw ((↑k:Int) + (1:Int)))))],h:=[],og:=[] }) 12 [(1,bt),(2,.v (V.d (D.ref (List.flatMap (Ty.enc partT) l) (k * 3)))),(3,.v (V.d (D.agg [(zi x),(zi a),(Ty.slD i32T r)]))),(5,.v (V.full [(D.int IntKind.i32 (8230:Int))] 1)),(6,.v (Ty.tailV i32T (21 : TypeId) all2))] (cP (@appendR1 (all) ((8230:Int)) (by omega) (all2) e2) (cC (@rnA (x) (a) (r) q) (cP (@loadPartE (l) ([]) (k) hk (x) (a) (r) e) (cP (@iaddrPartN (l) (k) hk) (cP hx0 nilE))))) (by kernel_rfl)).to (by simp (disch:=omega) [wrapId, *])
theorem c0X (T:D) (l:List Part) (tab:Int) (all:List Int):Rd XR 0 (ntOf XR FOfC) (lpBody XR FOfC 0) (stC0 T l tab all l.length) (.exit 0,stC0x T l tab all):=by
 have hx0:(decide ((↑l.length:Int) < (↑l.length:Int))) = false:=decide_eq_false (by omega)
 exact (pR (r:=((Ex.exit 0),{ s:=[(0,(V.d T)),(1,(zs partT l)),(2,(zv tab)),(7,(zt 21 i32T all)),(19,(zs partT l)),(20,(zv (↑l.length:Int))),(21,(zv (↑l.length:Int))),(22,(zb (decide ((↑l.length:Int) < (↑l.length:Int)))))],h:=[],og:=[] })) 12 [(1,bf)] (cP hx0 nilE) (by kernel_rfl)).to (by simp (disch:=omega) [wrapId, *])
theorem c3A (sz:List Int) (out:List Cell) (i:Nat) (n:Int) (ps rr:D) (pn pk rn rk x pa:Int) (rd:D) (z ck cw ca:Int) (hi:i < sz.length) (ho:out.length≤10000000) (s:Int) (es:i64.nth sz i = s) (q:n < s) (h0:0≤n) (h1:s≤1000) (out2:List Cell) (eo:out ++ [C4 32 4 1 ca] = out2):RdC XR 0 (ntOf XR FOfC) (lpKeep XR FOfC 3) (lpBody XR FOfC 3) 2 (stC3 sz out i n ps rr pn pk rn rk (partO x pa rd) (cellO z ck cw ca)) (stC3 sz out2 i (n + 1) ps rr pn pk rn rk (partO x pa rd) (cellO z ck cw ca)):=by
 have hx0:(decide (n < s)) = true:=decide_eq_true (by omega)
 exact (pC (st':={ s:=[(10,(zs i64 sz)),(11,(zt 62 cellT out2)),(12,(zv ↑i)),(14,(zo 0 0)),(17,(zo 1 0)),(18,(zv (zw (n + (1:Int))))),(34,(V.d ps)),(35,(zv pn)),(36,(zv pk)),(41,(V.d rr)),(42,(zv rn)),(43,(zv rk))],h:=[(zc [(zv x),(zv pa),(V.d rd)]),(zc [(V.d (D.int IntKind.i32 z)),(zv ck),(zv cw),(zv ca)])],og:=[] }) 12 [(0,.v (V.d (D.ref (List.flatMap (Ty.enc i64) sz) (i * 1)))),(1,.v (zv s)),(3,bt),(5,.v (Ty.tailV cellT (62 : TypeId) out2))] (cP (@appendCell (out) ((32:Int)) ((4:Int)) ((1:Int)) (ca) ho (out2) eo) (cP hx0 (cP (@loadIntE (sz) ([(zc [(zv x),(zv pa),(V.d rd)]),(zc [(V.d (D.int IntKind.i32 z)),(zv ck),(zv cw),(zv ca)])]) (i) hi (s) es) (cP (@iaddrIntN (sz) (i) hi) nilE)))) (by kernel_rfl)).to (by simp (disch:=omega) [wrapId, *])
theorem c3X (sz:List Int) (out:List Cell) (i:Nat) (n:Int) (ps rr:D) (pn pk rn rk x pa:Int) (rd:D) (z ck cw ca:Int) (hi:i < sz.length) (s:Int) (es:i64.nth sz i = s) (q:¬ n < s):Rd XR 0 (ntOf XR FOfC) (lpBody XR FOfC 3) (stC3 sz out i n ps rr pn pk rn rk (partO x pa rd) (cellO z ck cw ca)) (.exit 6,stC3x sz out i n ps rr pn pk rn rk (partO x pa rd) (cellO z ck cw ca)):=by
 have hx0:(decide (n < s)) = false:=decide_eq_false (by omega)
 exact (pR (r:=((Ex.exit 6),{ s:=[(10,(zs i64 sz)),(11,(zt 62 cellT out)),(12,(zv ↑i)),(14,(zo 0 0)),(17,(zo 1 0)),(18,(zv n)),(34,(V.d ps)),(35,(zv pn)),(36,(zv pk)),(41,(V.d rr)),(42,(zv rn)),(43,(zv rk)),(80,(zb (decide (n < s))))],h:=[(zc [(zv x),(zv pa),(V.d rd)]),(zc [(V.d (D.int IntKind.i32 z)),(zv ck),(zv cw),(zv ca)])],og:=[] })) 12 [(0,.v (V.d (D.ref (List.flatMap (Ty.enc i64) sz) (i * 1)))),(1,.v (zv s)),(3,bf)] (cP hx0 (cP (@loadIntE (sz) ([(zc [(zv x),(zv pa),(V.d rd)]),(zc [(V.d (D.int IntKind.i32 z)),(zv ck),(zv cw),(zv ca)])]) (i) hi (s) es) (cP (@iaddrIntN (sz) (i) hi) nilE))) (by kernel_rfl)).to (by simp (disch:=omega) [wrapId, *])
def C3L (sz:List Int) (out:List Cell) (i:Nat) (ps rr:D) (pn pk rn rk x pa:Int) (rd:D) (z ck cw ca:Int) (out2:List Cell) (n2:Int):Prop :=
 Lp XR 0 (ntOf XR FOfC) (lpKeep XR FOfC 3) (lpBody XR FOfC 3) 2 FUEL (stC3 sz out i 1 ps rr pn pk rn rk (partO x pa rd) (cellO z ck cw ca)) (.exit 6,stC3x sz out2 i n2 ps rr pn pk rn rk (partO x pa rd) (cellO z ck cw ca))
theorem c3L (sz:List Int) (out:List Cell) (i:Nat) (ps rr:D) (pn pk rn rk x pa:Int) (rd:D) (z ck cw ca:Int) (hi:i < sz.length) (s:Int) (es:i64.nth sz i = s) (h1:s≤1000) (ho:out.length≤1000000) :
  ∃ n2,C3L sz out i ps rr pn pk rn rk x pa rd z ck cw ca (out ++ List.replicate (s.toNat - 1) (C4 32 4 1 ca)) n2:=by
 refine ⟨((s.toNat - 1:Nat):Int) + 1,?_⟩
 have hx:=c3X sz (out ++ List.replicate (s.toNat - 1) (C4 32 4 1 ca)) i (((s.toNat - 1:Nat):Int) + 1) ps rr pn pk rn rk x pa rd z ck cw ca hi s es (by omega)
 refine Lp.run (fun k=>stC3 sz (out ++ List.replicate k (C4 32 4 1 ca)) i ((k:Int) + 1) ps rr pn pk rn rk (partO x pa rd) (cellO z ck cw ca)) (s.toNat - 1) (by omega) ?_ (fun k hk=>?_) hx (by simp)
 ·rw [List.replicate_zero,List.append_nil];kernel_rfl
 ·exact c3A sz _ i ((k:Int) + 1) ps rr pn pk rn rk x pa rd z ck cw ca hi (by simp;omega) s es (by omega) (by omega) h1 _ (by rw [List.append_assoc,List.replicate_succ'])
theorem c3Lp:∀ (sz:List Int) (out:List Cell) (i:Nat) (ps rr:D) (pn pk rn rk x pa:Int) (rd:D) (z ck cw ca:Int) (out2:List Cell) (n2:Int) (h:C3L sz out i ps rr pn pk rn rk x pa rd z ck cw ca out2 n2),
 Lp XR 0 (ntOf XR FOfC) (lpKeep XR FOfC 3) (lpBody XR FOfC 3) 2 FUEL (stC3 sz out i 1 ps rr pn pk rn rk (partO x pa rd) (cellO z ck cw ca)) (.exit 6,stC3x sz out2 i n2 ps rr pn pk rn rk (partO x pa rd) (cellO z ck cw ca)):=fun _ _ _ _ _ _ _ _ _ _ _ _ _ _ _ _ _ _ h=>h
abbrev stC2 (sz:List Int) (out:List Cell) (i:Int) (ps:D) (pn pk x pa:Int) (rs:List Int) (k:Int):St :=
 ⟨[(10,.d (i64.slD sz)),(11,cellT.tailV 62 out),(12,.d (.int .i64 i)),(14,.obj 0 0),(34,.d ps),(35,.d (.int .i64 pn)),(36,.d (.int .i64 pk)),(41,.d (i32T.slD rs)),(42,.d (.int .i64 (rs.length:Int))),(43,.d (.int .i64 k))],[partO x pa (i32T.slD rs)],[]⟩
abbrev stC2x (sz:List Int) (out:List Cell) (i:Int) (ps:D) (pn pk x pa:Int) (rs:List Int):St :=
 ⟨[(10,.d (i64.slD sz)),(11,cellT.tailV 62 out),(12,.d (.int .i64 i)),(14,.obj 0 0),(34,.d ps),(35,.d (.int .i64 pn)),(36,.d (.int .i64 pk)),(41,.d (i32T.slD rs)),(42,.d (.int .i64 (rs.length:Int))),(43,.d (.int .i64 (rs.length:Int))),(44,.d (.bool false))],[partO x pa (i32T.slD rs)],[]⟩
end Go.Proofs.Ytaobccodpdmieaa.Lay
