/- bodkin: the law PointsStay, from its run to its statement: for every input it returns true and its arguments read as before. No conditions. -/
import Derived.Test.YtaobccodpdmieaaRows
import Derived.WalkKit
import Derived.JoinedCond
import Derived.Carry
import Derived.SizedLaws
import Derived.Test.YtaobccodpdmieaaMPointsStayLaw10
set_option linter.unusedVariables false
set_option linter.unusedSimpArgs false
set_option maxRecDepth 100000
set_option maxHeartbeats 4000000
namespace Go.Proofs.Ytaobccodpdmieaa.Lay
open Go Go.RowKit Pv G Utf
abbrev FCl:Nat:=Points.FCl
abbrev FStay:Nat := 8
open Classical in
noncomputable def extClipR (rows:List Row) (ds:List D):Option V :=
 if h:∃ p,Points.clipQ rows p ds then Points.extClip rows (Classical.choose h) ds else upF X0 FCl ds
theorem ext_clipR (rows:List Row):ExtOk1 X0 FCl (extClipR rows):=by
 intro ds y hy w g vargs hf hg hp q hpos
 unfold extClipR at hy
 split at hy
 ·rename_i h
  exact Points.ext_clip rows (Classical.choose h) ds y hy w g vargs hf hg hp q hpos
 ·exact Points.extOk1_upF (fun _=>rfl) ext0_ok ext0_pure ext0_iok ds y hy w g vargs hf hg hp q hpos
def offSt (f:FuncId):Bool:=f == FStay
noncomputable def exSt (rows:List Row) (f:FuncId):Option (List D→Option V):=if f = FCl then some (extClipR rows) else none
noncomputable def XS (rows:List Row):Ctx:=up X0 offSt (exSt rows)
theorem extOkS (rows:List Row):ExtOk (XS rows):=extOk_up (fun _=>rfl) ext0_ok ext0_pure ext0_iok fun f F hF=>by
 unfold exSt at hF
 split at hF
 ·rename_i e;subst e;cases hF;exact ext_clipR rows
 ·cases hF
theorem upF_pure {f:FuncId} {ds:List D} {y:V} (hy:upF X0 f ds = some y):y.pure = true:=by
 unfold upF at hy
 split at hy
 ·rename_i h
  cases hy
  exact (Classical.choose_spec h).1
 ·cases hy
theorem extPureS (rows:List Row):ExtPure (XS rows):=extPure_up fun f F hF ds y hy=>by
 unfold exSt at hF
 split at hF
 ·cases hF
  unfold extClipR at hy
  split at hy
  ·unfold Points.extClip at hy
   split at hy
   ·cases hy;rfl
   ·exact upF_pure hy
  ·exact upF_pure hy
 ·cases hF
theorem law_callsS (rows:List Row) {f:FuncId} {vs:List V} {vargs:List Value} {b:Bool} (run:Ans (XS rows) f vs (.d (.bool b))) (hp:vs.all V.pure = true) {W:World} (hr:PtV X0 W (topG W) vargs vs) :
  Calls Try.prog f ⟨vargs⟩ W fun E W' => E = .returned (.bool b)∧Below W.heap.size W W':=by
 obtain ⟨K,hK⟩:=run
 have hr':PtV (XS rows) W (topG W) vargs vs:=⟨hr.1,fun j v x a b=>RepV.ctx (X:=X0) (Y:=XS rows) rfl (hr.2 j v x a b)⟩
 have hg:GlobOk (XS rows) W (topG W):=glob0 W (topG W)
 obtain ⟨fn,_,_,_,hc⟩:=(callN_ok (X:=XS rows) (fun _=>rfl) (extOkS rows) (extPureS rows) extIOk_up FUEL K).1 f vs _ (hK K (Nat.le_refl K)) hp W (topG W) vargs (Points.topFresh W) hg hr' (.slot 0) ⟨0,0,0,.inl rfl⟩
 refine hc.mono ?_
 rintro E w' ⟨v,g',rfl,hk,hv⟩
 refine ⟨?_,hk.below⟩
 cases hv with | d _ _ _ hv=>cases hv;rfl
theorem oneS:∀ (q:List Row),Ans (XS q) 11 [] (.d (.bool true)):=fun q=>ansUp (ds:=[]) rfl rfl rfl oneR
theorem madeNS:∀ (q:List Row) (s:Str) (il:List Inl) (fl:List Span) (tab wd:Int) (e:smallB s il fl tab wd 120 = false),Ans (XS q) FMade [.d (.agg (docL s il fl tab wd))] (.d (.tup [.sl [] 0,.bool false])):=fun q s il fl tab wd e=>ansUp (ds:=[.agg (docL s il fl tab wd)]) rfl rfl rfl (madeN s il fl tab wd e)
theorem madeYS:∀ (q:List Row) (s:Str) (il:List Inl) (fl:List Span) (tab wd:Int) (e:smallB s il fl tab wd 120 = true) (eq:docRows s il fl tab wd = q),Ans (XS q) FMade [.d (.agg (docL s il fl tab wd))] (.d (.tup [rowT.slD q,.bool true])):=fun q s il fl tab wd e eq=>ansUp (ds:=[.agg (docL s il fl tab wd)]) rfl rfl rfl (madeY s il fl tab wd e q eq)
theorem isS:∀ (q:List Row) (hs:Points.smallR q) (l:List Mark) (el:Points.allMarks q = l) (hl:l.length≤90000000) (r c:Int) (h:isPt l r c = true),Ans (XS q) 21 [.d (rowT.slD q),ptR2 r c] (.d (.bool true)):=fun q hs l el hl r c h=>ansUp (ds:=[rowT.slD q,.agg [.int .i64 r,.int .i64 c]]) rfl rfl rfl (isE q hs l el hl r c h)
theorem placeS:∀ (q:List Row) (hs:Points.smallR q) (l:List Mark) (el:Points.allMarks q = l) (hl:l.length≤90000000) (r c:Int) (h:isPt l r c = true) (n:Int) (en:plAt l r c = n),Ans (XS q) 18 [.d (rowT.slD q),ptR2 r c] (.d (.tup [.int .i64 n,.int .i64 0])):=fun q hs l el hl r c h n en=>ansUp (ds:=[rowT.slD q,.agg [.int .i64 r,.int .i64 c]]) rfl rfl rfl (placeE q hs l el hl r c h n en)
theorem show1S:∀ (q:List Row) (at_ en:Int) (k:Nat) (hq:k + 1 = q.length) (hq2:q.length≤10000000) (q0:¬ at_ < 0) (ee:endOfR q = en) (q1:¬ at_ > en) (hs:Points.smallR q) (l:List Mark) (el:Points.allMarks q = l) (hl:l.length≤90000000) (r c:Int) (e:showP at_ 1 l = (r,c)),Ans (XS q) FPSh [.d (rowT.slD q),rI at_,rI 1] (shwR r c 0):=fun q at_ en k hq hq2 q0 ee q1 hs l el hl r c e=>ansUp (ds:=[rowT.slD q,.int .i64 at_,.int .i64 1]) rfl rfl rfl (show1 q at_ en k hq hq2 q0 ee q1 hs l el (by omega) r c e)
def clipP (b:Int) (l:List Mark) (r c:Int):Int × Int:=if b = 0 then ptM (Points.pickBm l (ptT r c)) else ptM (Points.pickAm l.reverse (ptT r c))
theorem clip0S:∀ (q:List Row) (hs:Points.smallR q) (hq:1≤q.length) (l:List Mark) (el:Points.allMarks q = l) (hl:l.length≤90000000) (r c r2 c2:Int) (e:clipP 0 l r c = (r2,c2)),Ans (XS q) FCl [.d (rowT.slD q),ptR2 r c,rI 0] (shwR r2 c2 0):=fun q hs hq l el hl r c r2 c2 e=>by
 subst el
 have h:=Points.clip0 q (ptT r c) hs hq hs.1 (Points.marks_ne q hq) (by omega)
 have e1:ptM (Points.pickBm (Points.allMarks q) (ptT r c)) = (r2,c2):=e
 injection e1 with e2 e3
 subst e2;subst e3
 refine ansOfExt (F:=extClipR q) (ds:=[rowT.slD q,.agg [.int .i64 r,.int .i64 c],.int .i64 0]) rfl ?_ rfl
 unfold extClipR
 rw [dif_neg]
 ·exact Points.ansUpF (X:=X0) (f:=FCl) (ds:=[rowT.slD q,.agg [.int .i64 r,.int .i64 c],.int .i64 0]) rfl h
 ·rintro ⟨p,hp,_⟩
  simp at hp
theorem ptD_inj {p p':Points.Point} (h:Points.ptD p = Points.ptD p'):p = p':=by
 obtain ⟨a,b,u⟩:=p
 obtain ⟨a',b',u'⟩:=p'
 have h2:([D.int .i64 a,D.int .i64 b]:List D) = [D.int .i64 a',D.int .i64 b']:=by injection h
 injection h2 with h3 h4
 injection h4 with h5 h6
 injection h3 with _ h7
 injection h5 with _ h8
 subst h7;subst h8;rfl
theorem clip1S:∀ (q:List Row) (hs:Points.smallR q) (hq:1≤q.length) (l:List Mark) (el:Points.allMarks q = l) (hl:l.length≤90000000) (r c r2 c2:Int) (e:clipP 1 l r c = (r2,c2)),Ans (XS q) FCl [.d (rowT.slD q),ptR2 r c,rI 1] (shwR r2 c2 0):=fun q hs hq l el hl r c r2 c2 e=>by
 subst el
 have e1:ptM (Points.pickAm (Points.allMarks q).reverse (ptT r c)) = (r2,c2):=e
 injection e1 with e2 e3
 subst e2;subst e3
 refine ansOfExt (F:=extClipR q) (ds:=[rowT.slD q,.agg [.int .i64 r,.int .i64 c],.int .i64 1]) rfl ?_ rfl
 have hx:∃ p,Points.clipQ q p [rowT.slD q,.agg [.int .i64 r,.int .i64 c],.int .i64 1]:=⟨ptT r c,rfl,hs,hq,by omega⟩
 unfold extClipR
 rw [dif_pos hx]
 have hsp:=Classical.choose_spec hx
 have hpe:Classical.choose hx = ptT r c:=by
  have h1:=hsp.1
  injection h1 with _ h2
  injection h2 with h3 _
  exact (ptD_inj (p:=ptT r c) h3).symm
 rw [hpe]
 unfold Points.extClip
 rw [if_pos ⟨rfl,hs,hq,by omega⟩]
 rfl
theorem iaddrRowS:∀ (q l:List Row) (i:Nat) (hi:i < l.length),iaddrV (XS q) 26 (.d (rowT.slD l)) (.d (.int .i64 (i:Int))) = some (.d (.ref (l.flatMap rowT.enc) (i * 7))):=fun q l i hi=>(iaddrV_ctx (X:=XS q) (Y:=X0) rfl _ _ _).trans (iaddrSl (te := 37) (z:=7) (by kernel_rfl) (by kernel_rfl) (by omega) (by omega) (flat_len _ 7 (Ty.enc_length rowT) l))
theorem loadRowS:∀ (q l:List Row) (h:List Ob) (k:Nat) (hk:k < l.length) (cs:List Cell) (ec:cellsR (rowT.nth l k) = cs),loadV (XS q) h 35 (.d (.ref (l.flatMap rowT.enc) (k * 7 + 0))) = some (.d (cellT.slD cs)):=fun q l h k hk cs ec=>by
 subst ec
 exact (loadV_ctx (X:=XS q) (Y:=X0) rfl _ _ _).trans (Pv.loadCell (e:=rowT) (o:=0) (z1:=1) (by kernel_rfl) (by kernel_rfl) hk (by decide))
theorem iaddrCellS:∀ (q:List Row) (l:List Cell) (i:Nat) (hi:i < l.length),iaddrV (XS q) 35 (.d (cellT.slD l)) (.d (.int .i64 (i:Int))) = some (.d (.ref (l.flatMap cellT.enc) (i * 4))):=fun q l i hi=>(iaddrV_ctx (X:=XS q) (Y:=X0) rfl _ _ _).trans (iaddrCellN l i hi)
theorem loadCellS:∀ (q:List Row) (l:List Cell) (h:List Ob) (k:Nat) (hk:k < l.length) (z x w a:Int) (e:cellT.nth l k = C4 z x w a),loadV (XS q) h 62 (.d (.ref (l.flatMap cellT.enc) (k * 4))) = some (.d (.agg [.int .i32 z,.int .i64 x,.int .i64 w,.int .i64 a])):=fun q l h k hk z x w a e=>(loadV_ctx (X:=XS q) (Y:=X0) rfl _ _ _).trans (loadCellE l h k hk z x w a e)
theorem ptEqS:∀ (q:List Row) (a b:Int),binV (XS q) .eql 31 (.d (.agg [.int .i64 a,.int .i64 b])) (.d (.agg [.int .i64 a,.int .i64 b])) = some (.d (.bool true)):=fun q a b=>(binV_ctx (X:=XS q) (Y:=X0) rfl _ _ _ _).trans (ptEq a b)
theorem ptNqS:∀ (q:List Row) (a b:Int),binV (XS q) .neq 31 (.d (.agg [.int .i64 a,.int .i64 b])) (.d (.agg [.int .i64 a,.int .i64 b])) = some (.d (.bool false)):=fun q a b=>by
 have e:binV X0 .neq 31 (.d (.agg [.int .i64 a,.int .i64 b])) (.d (.agg [.int .i64 a,.int .i64 b])) = some (.d (.bool (!((a == a) && ((b == b) && true))))):=by kernel_rfl
 refine (binV_ctx (X:=XS q) (Y:=X0) rfl _ _ _ _).trans (e.trans ?_)
 simp
abbrev stayA (s:Str) (il:List Inl) (fl:List Span) (tab wd r0 c0 b:Int):List V:=[.d (.agg (docL s il fl tab wd)),ptR2 r0 c0,rI b]
open Go Pv G Utf
theorem sqN (q:List Row) (s:Str) (il:List Inl) (fl:List Span) (tab wd r0 c0 b:Int) (e:smallB s il fl tab wd 120 = false):Ans (XS q) FStay (stayA s il fl tab wd r0 c0 b) lawT:=by
 exact pV 12 [(1,.v (V.d (D.tup [(D.sl [] 0),(D.bool false)]))),(8,.v (zb true))] (cC (@oneS (q)) (cC (@madeNS (q) (s) (il) (fl) (tab) (wd) e) nilE)) (by kernel_rfl) rfl rfl
theorem sqE (q:List Row) (s:Str) (il:List Inl) (fl:List Span) (tab wd r0 c0 b:Int) (e:smallB s il fl tab wd 120 = true) (eq:docRows s il fl tab wd = q) (q0:¬ b = 0) (q1:¬ b = 1):Ans (XS q) FStay (stayA s il fl tab wd r0 c0 b) lawT:=by
 have hx0:(b != (0:Int)) = true:=by simp [*]
 have hx1:(b != (1:Int)) = true:=by simp [*]
 exact pV 12 [(1,.v (V.d (D.tup [(Ty.slD rowT q),(D.bool true)]))),(6,bt),(7,bt),(10,bt),(12,bt),(13,.v (zb true))] (cC (@oneS (q)) (cP hx1 (cP hx0 (cP hx0 (cP hx0 (cC (@madeYS (q) (s) (il) (fl) (tab) (wd) e eq) nilE)))))) (by kernel_rfl) rfl rfl
theorem sqA0 (q:List Row) (s:Str) (il:List Inl) (fl:List Span) (tab wd r0 c0:Int) (e:smallB s il fl tab wd 120 = true) (eq:docRows s il fl tab wd = q) (hs:Points.smallR q) (hq:1≤q.length) (hq2:q.length≤10000000) (l:List Mark) (el:Points.allMarks q = l) (hl:l.length≤90000000) (i j:Nat) (e1:clipP 0 l r0 c0 = ((i:Int),(j:Int))) (e2:clipP 0 l (i:Int) (j:Int) = ((i:Int),(j:Int))) (e3:clipP 1 l (i:Int) (j:Int) = ((i:Int),(j:Int))) (h1:isPt l (i:Int) (j:Int) = true) (hi:i < q.length) (cs:List Cell) (ec:cellsR (rowT.nth q i) = cs) (hj:j = cs.length) (hcl:cs.length≤100000):Ans (XS q) FStay (stayA s il fl tab wd r0 c0 0) lawT:=by
 have hx0:(decide ((↑i:Int) ≥ (↑q.length:Int))) = false:=decide_eq_false (by omega)
 have hx1:(decide ((↑j:Int) > (↑cs.length:Int))) = false:=decide_eq_false (by omega)
 have hx2:((↑j:Int) == (↑cs.length:Int)) = true:=decide_eq_true (by omega)
 exact pV 12 [(1,.v (V.d (D.tup [(Ty.slD rowT q),(D.bool true)]))),(13,.v (shwR (↑i:Int) (↑j:Int) (0:Int))),(15,.v (shwR (↑i:Int) (↑j:Int) (0:Int))),(18,.v (shwR (↑i:Int) (↑j:Int) (0:Int))),(33,.v (zb false)),(40,.v (zb false)),(46,.v (zb true)),(64,bf),(65,bf),(67,bf),(68,bf),(69,bf),(71,bf),(72,.v (V.d (D.ref (List.flatMap (Ty.enc rowT) q) (i * 7)))),(73,bf),(74,bf),(75,.v (V.d (Ty.slD cellT cs))),(76,bf),(78,bf),(80,bf),(81,bf),(84,.v (V.d (D.ref (List.flatMap (Ty.enc rowT) q) (i * 7)))),(85,.v (V.d (Ty.slD cellT cs))),(88,bt),(89,.v (zb true))] (cC (@oneS (q)) (cP hx2 (cP (@loadRowS (q) (q) ([(zc [(V.d (D.str s)),(zs inlT il),(zs spanT fl),(zv tab),(zv wd)]),(zc [(zv r0),(zv c0)]),(zc [(zv ↑i),(zv ↑j)]),(zc [(zv ↑i),(zv ↑j)]),(zc [(zv ↑i),(zv ↑j)])]) (i) hi (cs) ec) (cP (@iaddrRowS (q) (q) (i) hi) (cP hx1 (cP hx0 (cP hx0 (cP hx0 (cP (@loadRowS (q) (q) ([(zc [(V.d (D.str s)),(zs inlT il),(zs spanT fl),(zv tab),(zv wd)]),(zc [(zv r0),(zv c0)]),(zc [(zv ↑i),(zv ↑j)]),(zc [(zv ↑i),(zv ↑j)]),(zc [(zv ↑i),(zv ↑j)])]) (i) hi (cs) ec) (cP hx0 (cP hx0 (cP (@iaddrRowS (q) (q) (i) hi) (cP hx0 (cP hx0 (cP hx0 (cP hx0 (cP hx0 (cP hx0 (cC (@isS (q) hs (l) el hl ((↑i:Int)) ((↑j:Int)) h1) (cP (@ptNqS (q) ((↑i:Int)) ((↑j:Int))) (cP (@ptNqS (q) ((↑i:Int)) ((↑j:Int))) (cC (@clip1S (q) hs hq (l) el hl ((↑i:Int)) ((↑j:Int)) ((↑i:Int)) ((↑j:Int)) e3) (cC (@clip0S (q) hs hq (l) el hl ((↑i:Int)) ((↑j:Int)) ((↑i:Int)) ((↑j:Int)) e2) (cC (@clip0S (q) hs hq (l) el hl (r0) (c0) ((↑i:Int)) ((↑j:Int)) e1) (cC (@madeYS (q) (s) (il) (fl) (tab) (wd) e eq) nilE))))))))))))))))))))))))) (by kernel_rfl) rfl rfl
theorem sqA1 (q:List Row) (s:Str) (il:List Inl) (fl:List Span) (tab wd r0 c0:Int) (e:smallB s il fl tab wd 120 = true) (eq:docRows s il fl tab wd = q) (hs:Points.smallR q) (hq:1≤q.length) (hq2:q.length≤10000000) (l:List Mark) (el:Points.allMarks q = l) (hl:l.length≤90000000) (i j:Nat) (e1:clipP 1 l r0 c0 = ((i:Int),(j:Int))) (e2:clipP 1 l (i:Int) (j:Int) = ((i:Int),(j:Int))) (e3:clipP 0 l (i:Int) (j:Int) = ((i:Int),(j:Int))) (h1:isPt l (i:Int) (j:Int) = true) (hi:i < q.length) (cs:List Cell) (ec:cellsR (rowT.nth q i) = cs) (hj:j = cs.length) (hcl:cs.length≤100000):Ans (XS q) FStay (stayA s il fl tab wd r0 c0 1) lawT:=by
 have hx0:(decide ((↑i:Int) ≥ (↑q.length:Int))) = false:=decide_eq_false (by omega)
 have hx1:(decide ((↑j:Int) > (↑cs.length:Int))) = false:=decide_eq_false (by omega)
 have hx2:((↑j:Int) == (↑cs.length:Int)) = true:=decide_eq_true (by omega)
 exact pV 12 [(1,.v (V.d (D.tup [(Ty.slD rowT q),(D.bool true)]))),(14,.v (shwR (↑i:Int) (↑j:Int) (0:Int))),(16,.v (shwR (↑i:Int) (↑j:Int) (0:Int))),(19,.v (shwR (↑i:Int) (↑j:Int) (0:Int))),(34,.v (zb false)),(41,.v (zb false)),(47,.v (zb true)),(65,bf),(66,bf),(68,bf),(69,bf),(70,bf),(72,bf),(73,.v (V.d (D.ref (List.flatMap (Ty.enc rowT) q) (i * 7)))),(74,bf),(75,bf),(76,.v (V.d (Ty.slD cellT cs))),(77,bf),(79,bf),(81,bf),(82,bf),(85,.v (V.d (D.ref (List.flatMap (Ty.enc rowT) q) (i * 7)))),(86,.v (V.d (Ty.slD cellT cs))),(89,bt),(90,.v (zb true))] (cC (@oneS (q)) (cP hx2 (cP (@loadRowS (q) (q) ([(zc [(V.d (D.str s)),(zs inlT il),(zs spanT fl),(zv tab),(zv wd)]),(zc [(zv r0),(zv c0)]),(zc [(zv ↑i),(zv ↑j)]),(zc [(zv ↑i),(zv ↑j)]),(zc [(zv ↑i),(zv ↑j)])]) (i) hi (cs) ec) (cP (@iaddrRowS (q) (q) (i) hi) (cP hx1 (cP hx0 (cP hx0 (cP hx0 (cP (@loadRowS (q) (q) ([(zc [(V.d (D.str s)),(zs inlT il),(zs spanT fl),(zv tab),(zv wd)]),(zc [(zv r0),(zv c0)]),(zc [(zv ↑i),(zv ↑j)]),(zc [(zv ↑i),(zv ↑j)]),(zc [(zv ↑i),(zv ↑j)])]) (i) hi (cs) ec) (cP hx0 (cP hx0 (cP (@iaddrRowS (q) (q) (i) hi) (cP hx0 (cP hx0 (cP hx0 (cP hx0 (cP hx0 (cP hx0 (cC (@isS (q) hs (l) el hl ((↑i:Int)) ((↑j:Int)) h1) (cP (@ptNqS (q) ((↑i:Int)) ((↑j:Int))) (cP (@ptNqS (q) ((↑i:Int)) ((↑j:Int))) (cC (@clip0S (q) hs hq (l) el hl ((↑i:Int)) ((↑j:Int)) ((↑i:Int)) ((↑j:Int)) e3) (cC (@clip1S (q) hs hq (l) el hl ((↑i:Int)) ((↑j:Int)) ((↑i:Int)) ((↑j:Int)) e2) (cC (@clip1S (q) hs hq (l) el hl (r0) (c0) ((↑i:Int)) ((↑j:Int)) e1) (cC (@madeYS (q) (s) (il) (fl) (tab) (wd) e eq) nilE))))))))))))))))))))))))) (by kernel_rfl) rfl rfl
theorem sqB0 (q:List Row) (s:Str) (il:List Inl) (fl:List Span) (tab wd r0 c0:Int) (e:smallB s il fl tab wd 120 = true) (eq:docRows s il fl tab wd = q) (hs:Points.smallR q) (hq:1≤q.length) (hq2:q.length≤10000000) (l:List Mark) (el:Points.allMarks q = l) (hl:l.length≤90000000) (i j:Nat) (e1:clipP 0 l r0 c0 = ((i:Int),(j:Int))) (e2:clipP 0 l (i:Int) (j:Int) = ((i:Int),(j:Int))) (e3:clipP 1 l (i:Int) (j:Int) = ((i:Int),(j:Int))) (h1:isPt l (i:Int) (j:Int) = true) (hi:i < q.length) (cs:List Cell) (ec:cellsR (rowT.nth q i) = cs) (hj:j < cs.length) (hcl:cs.length≤100000) (z x w a:Int) (e4:cellT.nth cs j = C4 z x w a) (x1:¬ x = 1) (x3:¬ x = 3):Ans (XS q) FStay (stayA s il fl tab wd r0 c0 0) lawT:=by
 have hx0:(decide ((↑i:Int) ≥ (↑q.length:Int))) = false:=decide_eq_false (by omega)
 have hx1:(decide ((↑j:Int) > (↑cs.length:Int))) = false:=decide_eq_false (by omega)
 have hx2:((↑j:Int) == (↑cs.length:Int)) = false:=decide_eq_false (by omega)
 have hx3:(x != (1:Int)) = true:=by simp [*]
 have hx4:(x != (3:Int)) = true:=by simp [*]
 exact pV 12 [(1,.v (V.d (D.tup [(Ty.slD rowT q),(D.bool true)]))),(13,.v (shwR (↑i:Int) (↑j:Int) (0:Int))),(15,.v (shwR (↑i:Int) (↑j:Int) (0:Int))),(18,.v (shwR (↑i:Int) (↑j:Int) (0:Int))),(33,.v (zb false)),(40,.v (zb false)),(46,.v (zb true)),(64,bf),(65,bf),(67,bf),(68,bf),(69,bf),(71,bf),(72,.v (V.d (D.ref (List.flatMap (Ty.enc rowT) q) (i * 7)))),(73,bf),(74,bf),(75,.v (V.d (Ty.slD cellT cs))),(76,bf),(78,bf),(80,bf),(81,bf),(84,.v (V.d (D.ref (List.flatMap (Ty.enc rowT) q) (i * 7)))),(85,.v (V.d (Ty.slD cellT cs))),(88,bf),(90,.v (V.d (D.ref (List.flatMap (Ty.enc rowT) q) (i * 7)))),(91,.v (V.d (Ty.slD cellT cs))),(93,.v (V.d (D.ref (List.flatMap (Ty.enc cellT) cs) (j * 4)))),(94,.v (V.d (D.agg [(D.int IntKind.i32 z),(zi x),(zi w),(zi a)]))),(97,bt),(98,bt),(100,bt),(102,bt),(103,bt),(104,.v (zb true))] (cC (@oneS (q)) (cP hx4 (cP hx3 (cP hx3 (cP hx3 (cP hx3 (cP (@loadCellS (q) (cs) ([(zc [(V.d (D.str s)),(zs inlT il),(zs spanT fl),(zv tab),(zv wd)]),(zc [(zv r0),(zv c0)]),(zc [(zv ↑i),(zv ↑j)]),(zc [(zv ↑i),(zv ↑j)]),(zc [(zv ↑i),(zv ↑j)])]) (j) hj (z) (x) (w) (a) e4) (cP (@iaddrCellS (q) (cs) (j) hj) (cP (@loadRowS (q) (q) ([(zc [(V.d (D.str s)),(zs inlT il),(zs spanT fl),(zv tab),(zv wd)]),(zc [(zv r0),(zv c0)]),(zc [(zv ↑i),(zv ↑j)]),(zc [(zv ↑i),(zv ↑j)]),(zc [(zv ↑i),(zv ↑j)])]) (i) hi (cs) ec) (cP (@iaddrRowS (q) (q) (i) hi) (cP hx2 (cP (@loadRowS (q) (q) ([(zc [(V.d (D.str s)),(zs inlT il),(zs spanT fl),(zv tab),(zv wd)]),(zc [(zv r0),(zv c0)]),(zc [(zv ↑i),(zv ↑j)]),(zc [(zv ↑i),(zv ↑j)]),(zc [(zv ↑i),(zv ↑j)])]) (i) hi (cs) ec) (cP (@iaddrRowS (q) (q) (i) hi) (cP hx1 (cP hx0 (cP hx0 (cP hx0 (cP (@loadRowS (q) (q) ([(zc [(V.d (D.str s)),(zs inlT il),(zs spanT fl),(zv tab),(zv wd)]),(zc [(zv r0),(zv c0)]),(zc [(zv ↑i),(zv ↑j)]),(zc [(zv ↑i),(zv ↑j)]),(zc [(zv ↑i),(zv ↑j)])]) (i) hi (cs) ec) (cP hx0 (cP hx0 (cP (@iaddrRowS (q) (q) (i) hi) (cP hx0 (cP hx0 (cP hx0 (cP hx0 (cP hx0 (cP hx0 (cC (@isS (q) hs (l) el hl ((↑i:Int)) ((↑j:Int)) h1) (cP (@ptNqS (q) ((↑i:Int)) ((↑j:Int))) (cP (@ptNqS (q) ((↑i:Int)) ((↑j:Int))) (cC (@clip1S (q) hs hq (l) el hl ((↑i:Int)) ((↑j:Int)) ((↑i:Int)) ((↑j:Int)) e3) (cC (@clip0S (q) hs hq (l) el hl ((↑i:Int)) ((↑j:Int)) ((↑i:Int)) ((↑j:Int)) e2) (cC (@clip0S (q) hs hq (l) el hl (r0) (c0) ((↑i:Int)) ((↑j:Int)) e1) (cC (@madeYS (q) (s) (il) (fl) (tab) (wd) e eq) nilE)))))))))))))))))))))))))))))))))) (by kernel_rfl) rfl rfl
theorem sqB1 (q:List Row) (s:Str) (il:List Inl) (fl:List Span) (tab wd r0 c0:Int) (e:smallB s il fl tab wd 120 = true) (eq:docRows s il fl tab wd = q) (hs:Points.smallR q) (hq:1≤q.length) (hq2:q.length≤10000000) (l:List Mark) (el:Points.allMarks q = l) (hl:l.length≤90000000) (i j:Nat) (e1:clipP 1 l r0 c0 = ((i:Int),(j:Int))) (e2:clipP 1 l (i:Int) (j:Int) = ((i:Int),(j:Int))) (e3:clipP 0 l (i:Int) (j:Int) = ((i:Int),(j:Int))) (h1:isPt l (i:Int) (j:Int) = true) (hi:i < q.length) (cs:List Cell) (ec:cellsR (rowT.nth q i) = cs) (hj:j < cs.length) (hcl:cs.length≤100000) (z x w a:Int) (e4:cellT.nth cs j = C4 z x w a) (x1:¬ x = 1) (x3:¬ x = 3):Ans (XS q) FStay (stayA s il fl tab wd r0 c0 1) lawT:=by
 have hx0:(decide ((↑i:Int) ≥ (↑q.length:Int))) = false:=decide_eq_false (by omega)
 have hx1:(decide ((↑j:Int) > (↑cs.length:Int))) = false:=decide_eq_false (by omega)
 have hx2:((↑j:Int) == (↑cs.length:Int)) = false:=decide_eq_false (by omega)
 have hx3:(x != (1:Int)) = true:=by simp [*]
 have hx4:(x != (3:Int)) = true:=by simp [*]
 exact pV 12 [(1,.v (V.d (D.tup [(Ty.slD rowT q),(D.bool true)]))),(14,.v (shwR (↑i:Int) (↑j:Int) (0:Int))),(16,.v (shwR (↑i:Int) (↑j:Int) (0:Int))),(19,.v (shwR (↑i:Int) (↑j:Int) (0:Int))),(34,.v (zb false)),(41,.v (zb false)),(47,.v (zb true)),(65,bf),(66,bf),(68,bf),(69,bf),(70,bf),(72,bf),(73,.v (V.d (D.ref (List.flatMap (Ty.enc rowT) q) (i * 7)))),(74,bf),(75,bf),(76,.v (V.d (Ty.slD cellT cs))),(77,bf),(79,bf),(81,bf),(82,bf),(85,.v (V.d (D.ref (List.flatMap (Ty.enc rowT) q) (i * 7)))),(86,.v (V.d (Ty.slD cellT cs))),(89,bf),(91,.v (V.d (D.ref (List.flatMap (Ty.enc rowT) q) (i * 7)))),(92,.v (V.d (Ty.slD cellT cs))),(94,.v (V.d (D.ref (List.flatMap (Ty.enc cellT) cs) (j * 4)))),(95,.v (V.d (D.agg [(D.int IntKind.i32 z),(zi x),(zi w),(zi a)]))),(98,bt),(99,bt),(101,bt),(103,bt),(104,bt),(105,.v (zb true))] (cC (@oneS (q)) (cP hx4 (cP hx3 (cP hx3 (cP hx3 (cP hx3 (cP (@loadCellS (q) (cs) ([(zc [(V.d (D.str s)),(zs inlT il),(zs spanT fl),(zv tab),(zv wd)]),(zc [(zv r0),(zv c0)]),(zc [(zv ↑i),(zv ↑j)]),(zc [(zv ↑i),(zv ↑j)]),(zc [(zv ↑i),(zv ↑j)])]) (j) hj (z) (x) (w) (a) e4) (cP (@iaddrCellS (q) (cs) (j) hj) (cP (@loadRowS (q) (q) ([(zc [(V.d (D.str s)),(zs inlT il),(zs spanT fl),(zv tab),(zv wd)]),(zc [(zv r0),(zv c0)]),(zc [(zv ↑i),(zv ↑j)]),(zc [(zv ↑i),(zv ↑j)]),(zc [(zv ↑i),(zv ↑j)])]) (i) hi (cs) ec) (cP (@iaddrRowS (q) (q) (i) hi) (cP hx2 (cP (@loadRowS (q) (q) ([(zc [(V.d (D.str s)),(zs inlT il),(zs spanT fl),(zv tab),(zv wd)]),(zc [(zv r0),(zv c0)]),(zc [(zv ↑i),(zv ↑j)]),(zc [(zv ↑i),(zv ↑j)]),(zc [(zv ↑i),(zv ↑j)])]) (i) hi (cs) ec) (cP (@iaddrRowS (q) (q) (i) hi) (cP hx1 (cP hx0 (cP hx0 (cP hx0 (cP (@loadRowS (q) (q) ([(zc [(V.d (D.str s)),(zs inlT il),(zs spanT fl),(zv tab),(zv wd)]),(zc [(zv r0),(zv c0)]),(zc [(zv ↑i),(zv ↑j)]),(zc [(zv ↑i),(zv ↑j)]),(zc [(zv ↑i),(zv ↑j)])]) (i) hi (cs) ec) (cP hx0 (cP hx0 (cP (@iaddrRowS (q) (q) (i) hi) (cP hx0 (cP hx0 (cP hx0 (cP hx0 (cP hx0 (cP hx0 (cC (@isS (q) hs (l) el hl ((↑i:Int)) ((↑j:Int)) h1) (cP (@ptNqS (q) ((↑i:Int)) ((↑j:Int))) (cP (@ptNqS (q) ((↑i:Int)) ((↑j:Int))) (cC (@clip0S (q) hs hq (l) el hl ((↑i:Int)) ((↑j:Int)) ((↑i:Int)) ((↑j:Int)) e3) (cC (@clip1S (q) hs hq (l) el hl ((↑i:Int)) ((↑j:Int)) ((↑i:Int)) ((↑j:Int)) e2) (cC (@clip1S (q) hs hq (l) el hl (r0) (c0) ((↑i:Int)) ((↑j:Int)) e1) (cC (@madeYS (q) (s) (il) (fl) (tab) (wd) e eq) nilE)))))))))))))))))))))))))))))))))) (by kernel_rfl) rfl rfl
theorem sqC0 (q:List Row) (s:Str) (il:List Inl) (fl:List Span) (tab wd r0 c0:Int) (e:smallB s il fl tab wd 120 = true) (eq:docRows s il fl tab wd = q) (hs:Points.smallR q) (hq:1≤q.length) (hq2:q.length≤10000000) (l:List Mark) (el:Points.allMarks q = l) (hl:l.length≤90000000) (i j:Nat) (e1:clipP 0 l r0 c0 = ((i:Int),(j:Int))) (e2:clipP 0 l (i:Int) (j:Int) = ((i:Int),(j:Int))) (e3:clipP 1 l (i:Int) (j:Int) = ((i:Int),(j:Int))) (h1:isPt l (i:Int) (j:Int) = true) (hi:i < q.length) (cs:List Cell) (ec:cellsR (rowT.nth q i) = cs) (hj:j < cs.length) (hcl:cs.length≤100000) (z x w a:Int) (e4:cellT.nth cs j = C4 z x w a) (x1:x = 1∨x = 3) (h2:plAt l (i:Int) (j:Int) = a) (k:Nat) (hk:k + 1 = q.length) (en:Int) (ee:endOfR q = en) (q0:¬ a < 0) (q1:¬ a > en) (e5:showP a 1 l = ((i:Int),(j:Int))):Ans (XS q) FStay (stayA s il fl tab wd r0 c0 0) lawT:=by
 have hx0:(decide ((↑i:Int) ≥ (↑q.length:Int))) = false:=decide_eq_false (by omega)
 have hx1:(decide ((↑j:Int) > (↑cs.length:Int))) = false:=decide_eq_false (by omega)
 have hx2:((↑j:Int) == (↑cs.length:Int)) = false:=decide_eq_false (by omega)
 rcases Bool.eq_false_or_eq_true (x != (1:Int)) with hx3 | hx3
 ·have hx4:(x != (3:Int)) = false:=by (first | assumption | (((try simp only [SA] at *);(try simp (disch:=omega) only [SB,wrapI32,reduceCtorEq] at *)) <;> first | omega | assumption | (refine ⟨?_,?_⟩ <;> assumption) | (intros;assumption)))
  have hx5:(a == a) = true:=decide_eq_true (by omega)
  exact pV 12 [(1,.v (V.d (D.tup [(Ty.slD rowT q),(D.bool true)]))),(13,.v (shwR (↑i:Int) (↑j:Int) (0:Int))),(15,.v (shwR (↑i:Int) (↑j:Int) (0:Int))),(18,.v (shwR (↑i:Int) (↑j:Int) (0:Int))),(33,.v (zb false)),(40,.v (zb false)),(46,.v (zb true)),(64,bf),(65,bf),(67,bf),(68,bf),(69,bf),(71,bf),(72,.v (V.d (D.ref (List.flatMap (Ty.enc rowT) q) (i * 7)))),(73,bf),(74,bf),(75,.v (V.d (Ty.slD cellT cs))),(76,bf),(78,bf),(80,bf),(81,bf),(84,.v (V.d (D.ref (List.flatMap (Ty.enc rowT) q) (i * 7)))),(85,.v (V.d (Ty.slD cellT cs))),(88,bf),(90,.v (V.d (D.ref (List.flatMap (Ty.enc rowT) q) (i * 7)))),(91,.v (V.d (Ty.slD cellT cs))),(93,.v (V.d (D.ref (List.flatMap (Ty.enc cellT) cs) (j * 4)))),(94,.v (V.d (D.agg [(D.int IntKind.i32 z),(zi x),(zi w),(zi a)]))),(97,bt),(98,bt),(100,bt),(102,bt),(103,bf),(105,.v (V.d (D.tup [(zi a),(zi 0)]))),(106,.v (shwR (↑i:Int) (↑j:Int) (0:Int))),(119,bt),(121,bt),(123,bt),(124,.v (zb true)),(125,bt),(127,.v (zb true))] (cC (@oneS (q)) (cP hx5 (cP (@ptEqS (q) ((↑i:Int)) ((↑j:Int))) (cP hx5 (cP hx5 (cP hx5 (cC (@show1S (q) (a) (en) (k) hk hq2 q0 ee q1 hs (l) el hl ((↑i:Int)) ((↑j:Int)) e5) (cC (@placeS (q) hs (l) el hl ((↑i:Int)) ((↑j:Int)) h1 (a) h2) (cP hx4 (cP hx3 (cP hx3 (cP hx3 (cP hx3 (cP (@loadCellS (q) (cs) ([(zc [(V.d (D.str s)),(zs inlT il),(zs spanT fl),(zv tab),(zv wd)]),(zc [(zv r0),(zv c0)]),(zc [(zv ↑i),(zv ↑j)]),(zc [(zv ↑i),(zv ↑j)]),(zc [(zv ↑i),(zv ↑j)])]) (j) hj (z) (x) (w) (a) e4) (cP (@iaddrCellS (q) (cs) (j) hj) (cP (@loadRowS (q) (q) ([(zc [(V.d (D.str s)),(zs inlT il),(zs spanT fl),(zv tab),(zv wd)]),(zc [(zv r0),(zv c0)]),(zc [(zv ↑i),(zv ↑j)]),(zc [(zv ↑i),(zv ↑j)]),(zc [(zv ↑i),(zv ↑j)])]) (i) hi (cs) ec) (cP (@iaddrRowS (q) (q) (i) hi) (cP hx2 (cP (@loadRowS (q) (q) ([(zc [(V.d (D.str s)),(zs inlT il),(zs spanT fl),(zv tab),(zv wd)]),(zc [(zv r0),(zv c0)]),(zc [(zv ↑i),(zv ↑j)]),(zc [(zv ↑i),(zv ↑j)]),(zc [(zv ↑i),(zv ↑j)])]) (i) hi (cs) ec) (cP (@iaddrRowS (q) (q) (i) hi) (cP hx1 (cP hx0 (cP hx0 (cP hx0 (cP (@loadRowS (q) (q) ([(zc [(V.d (D.str s)),(zs inlT il),(zs spanT fl),(zv tab),(zv wd)]),(zc [(zv r0),(zv c0)]),(zc [(zv ↑i),(zv ↑j)]),(zc [(zv ↑i),(zv ↑j)]),(zc [(zv ↑i),(zv ↑j)])]) (i) hi (cs) ec) (cP hx0 (cP hx0 (cP (@iaddrRowS (q) (q) (i) hi) (cP hx0 (cP hx0 (cP hx0 (cP hx0 (cP hx0 (cP hx0 (cC (@isS (q) hs (l) el hl ((↑i:Int)) ((↑j:Int)) h1) (cP (@ptNqS (q) ((↑i:Int)) ((↑j:Int))) (cP (@ptNqS (q) ((↑i:Int)) ((↑j:Int))) (cC (@clip1S (q) hs hq (l) el hl ((↑i:Int)) ((↑j:Int)) ((↑i:Int)) ((↑j:Int)) e3) (cC (@clip0S (q) hs hq (l) el hl ((↑i:Int)) ((↑j:Int)) ((↑i:Int)) ((↑j:Int)) e2) (cC (@clip0S (q) hs hq (l) el hl (r0) (c0) ((↑i:Int)) ((↑j:Int)) e1) (cC (@madeYS (q) (s) (il) (fl) (tab) (wd) e eq) nilE))))))))))))))))))))))))))))))))))))))))) (by kernel_rfl) rfl rfl
 ·have hx4:(a == a) = true:=decide_eq_true (by omega)
  exact pV 12 [(1,.v (V.d (D.tup [(Ty.slD rowT q),(D.bool true)]))),(13,.v (shwR (↑i:Int) (↑j:Int) (0:Int))),(15,.v (shwR (↑i:Int) (↑j:Int) (0:Int))),(18,.v (shwR (↑i:Int) (↑j:Int) (0:Int))),(33,.v (zb false)),(40,.v (zb false)),(46,.v (zb true)),(64,bf),(65,bf),(67,bf),(68,bf),(69,bf),(71,bf),(72,.v (V.d (D.ref (List.flatMap (Ty.enc rowT) q) (i * 7)))),(73,bf),(74,bf),(75,.v (V.d (Ty.slD cellT cs))),(76,bf),(78,bf),(80,bf),(81,bf),(84,.v (V.d (D.ref (List.flatMap (Ty.enc rowT) q) (i * 7)))),(85,.v (V.d (Ty.slD cellT cs))),(88,bf),(90,.v (V.d (D.ref (List.flatMap (Ty.enc rowT) q) (i * 7)))),(91,.v (V.d (Ty.slD cellT cs))),(93,.v (V.d (D.ref (List.flatMap (Ty.enc cellT) cs) (j * 4)))),(94,.v (V.d (D.agg [(D.int IntKind.i32 z),(zi x),(zi w),(zi a)]))),(97,bf),(98,bf),(99,bf),(100,bf),(103,.v (V.d (D.tup [(zi a),(zi 0)]))),(104,.v (shwR (↑i:Int) (↑j:Int) (0:Int))),(117,bt),(119,bt),(121,bt),(122,.v (zb true)),(123,bt),(125,.v (zb true))] (cC (@oneS (q)) (cP hx4 (cP (@ptEqS (q) ((↑i:Int)) ((↑j:Int))) (cP hx4 (cP hx4 (cP hx4 (cC (@show1S (q) (a) (en) (k) hk hq2 q0 ee q1 hs (l) el hl ((↑i:Int)) ((↑j:Int)) e5) (cC (@placeS (q) hs (l) el hl ((↑i:Int)) ((↑j:Int)) h1 (a) h2) (cP hx3 (cP hx3 (cP hx3 (cP hx3 (cP (@loadCellS (q) (cs) ([(zc [(V.d (D.str s)),(zs inlT il),(zs spanT fl),(zv tab),(zv wd)]),(zc [(zv r0),(zv c0)]),(zc [(zv ↑i),(zv ↑j)]),(zc [(zv ↑i),(zv ↑j)]),(zc [(zv ↑i),(zv ↑j)])]) (j) hj (z) (x) (w) (a) e4) (cP (@iaddrCellS (q) (cs) (j) hj) (cP (@loadRowS (q) (q) ([(zc [(V.d (D.str s)),(zs inlT il),(zs spanT fl),(zv tab),(zv wd)]),(zc [(zv r0),(zv c0)]),(zc [(zv ↑i),(zv ↑j)]),(zc [(zv ↑i),(zv ↑j)]),(zc [(zv ↑i),(zv ↑j)])]) (i) hi (cs) ec) (cP (@iaddrRowS (q) (q) (i) hi) (cP hx2 (cP (@loadRowS (q) (q) ([(zc [(V.d (D.str s)),(zs inlT il),(zs spanT fl),(zv tab),(zv wd)]),(zc [(zv r0),(zv c0)]),(zc [(zv ↑i),(zv ↑j)]),(zc [(zv ↑i),(zv ↑j)]),(zc [(zv ↑i),(zv ↑j)])]) (i) hi (cs) ec) (cP (@iaddrRowS (q) (q) (i) hi) (cP hx1 (cP hx0 (cP hx0 (cP hx0 (cP (@loadRowS (q) (q) ([(zc [(V.d (D.str s)),(zs inlT il),(zs spanT fl),(zv tab),(zv wd)]),(zc [(zv r0),(zv c0)]),(zc [(zv ↑i),(zv ↑j)]),(zc [(zv ↑i),(zv ↑j)]),(zc [(zv ↑i),(zv ↑j)])]) (i) hi (cs) ec) (cP hx0 (cP hx0 (cP (@iaddrRowS (q) (q) (i) hi) (cP hx0 (cP hx0 (cP hx0 (cP hx0 (cP hx0 (cP hx0 (cC (@isS (q) hs (l) el hl ((↑i:Int)) ((↑j:Int)) h1) (cP (@ptNqS (q) ((↑i:Int)) ((↑j:Int))) (cP (@ptNqS (q) ((↑i:Int)) ((↑j:Int))) (cC (@clip1S (q) hs hq (l) el hl ((↑i:Int)) ((↑j:Int)) ((↑i:Int)) ((↑j:Int)) e3) (cC (@clip0S (q) hs hq (l) el hl ((↑i:Int)) ((↑j:Int)) ((↑i:Int)) ((↑j:Int)) e2) (cC (@clip0S (q) hs hq (l) el hl (r0) (c0) ((↑i:Int)) ((↑j:Int)) e1) (cC (@madeYS (q) (s) (il) (fl) (tab) (wd) e eq) nilE)))))))))))))))))))))))))))))))))))))))) (by kernel_rfl) rfl rfl
theorem sqC1 (q:List Row) (s:Str) (il:List Inl) (fl:List Span) (tab wd r0 c0:Int) (e:smallB s il fl tab wd 120 = true) (eq:docRows s il fl tab wd = q) (hs:Points.smallR q) (hq:1≤q.length) (hq2:q.length≤10000000) (l:List Mark) (el:Points.allMarks q = l) (hl:l.length≤90000000) (i j:Nat) (e1:clipP 1 l r0 c0 = ((i:Int),(j:Int))) (e2:clipP 1 l (i:Int) (j:Int) = ((i:Int),(j:Int))) (e3:clipP 0 l (i:Int) (j:Int) = ((i:Int),(j:Int))) (h1:isPt l (i:Int) (j:Int) = true) (hi:i < q.length) (cs:List Cell) (ec:cellsR (rowT.nth q i) = cs) (hj:j < cs.length) (hcl:cs.length≤100000) (z x w a:Int) (e4:cellT.nth cs j = C4 z x w a) (x1:x = 1∨x = 3) (h2:plAt l (i:Int) (j:Int) = a) (k:Nat) (hk:k + 1 = q.length) (en:Int) (ee:endOfR q = en) (q0:¬ a < 0) (q1:¬ a > en) (e5:showP a 1 l = ((i:Int),(j:Int))):Ans (XS q) FStay (stayA s il fl tab wd r0 c0 1) lawT:=by
 have hx0:(decide ((↑i:Int) ≥ (↑q.length:Int))) = false:=decide_eq_false (by omega)
 have hx1:(decide ((↑j:Int) > (↑cs.length:Int))) = false:=decide_eq_false (by omega)
 have hx2:((↑j:Int) == (↑cs.length:Int)) = false:=decide_eq_false (by omega)
 rcases Bool.eq_false_or_eq_true (x != (1:Int)) with hx3 | hx3
 ·have hx4:(x != (3:Int)) = false:=by (first | assumption | (((try simp only [SA] at *);(try simp (disch:=omega) only [SB,wrapI32,reduceCtorEq] at *)) <;> first | omega | assumption | (refine ⟨?_,?_⟩ <;> assumption) | (intros;assumption)))
  have hx5:(a == a) = true:=decide_eq_true (by omega)
  exact pV 12 [(1,.v (V.d (D.tup [(Ty.slD rowT q),(D.bool true)]))),(14,.v (shwR (↑i:Int) (↑j:Int) (0:Int))),(16,.v (shwR (↑i:Int) (↑j:Int) (0:Int))),(19,.v (shwR (↑i:Int) (↑j:Int) (0:Int))),(34,.v (zb false)),(41,.v (zb false)),(47,.v (zb true)),(65,bf),(66,bf),(68,bf),(69,bf),(70,bf),(72,bf),(73,.v (V.d (D.ref (List.flatMap (Ty.enc rowT) q) (i * 7)))),(74,bf),(75,bf),(76,.v (V.d (Ty.slD cellT cs))),(77,bf),(79,bf),(81,bf),(82,bf),(85,.v (V.d (D.ref (List.flatMap (Ty.enc rowT) q) (i * 7)))),(86,.v (V.d (Ty.slD cellT cs))),(89,bf),(91,.v (V.d (D.ref (List.flatMap (Ty.enc rowT) q) (i * 7)))),(92,.v (V.d (Ty.slD cellT cs))),(94,.v (V.d (D.ref (List.flatMap (Ty.enc cellT) cs) (j * 4)))),(95,.v (V.d (D.agg [(D.int IntKind.i32 z),(zi x),(zi w),(zi a)]))),(98,bt),(99,bt),(101,bt),(103,bt),(104,bf),(106,.v (V.d (D.tup [(zi a),(zi 0)]))),(107,.v (shwR (↑i:Int) (↑j:Int) (0:Int))),(120,bt),(122,bt),(124,bt),(125,.v (zb true)),(126,bt),(128,.v (zb true))] (cC (@oneS (q)) (cP hx5 (cP (@ptEqS (q) ((↑i:Int)) ((↑j:Int))) (cP hx5 (cP hx5 (cP hx5 (cC (@show1S (q) (a) (en) (k) hk hq2 q0 ee q1 hs (l) el hl ((↑i:Int)) ((↑j:Int)) e5) (cC (@placeS (q) hs (l) el hl ((↑i:Int)) ((↑j:Int)) h1 (a) h2) (cP hx4 (cP hx3 (cP hx3 (cP hx3 (cP hx3 (cP (@loadCellS (q) (cs) ([(zc [(V.d (D.str s)),(zs inlT il),(zs spanT fl),(zv tab),(zv wd)]),(zc [(zv r0),(zv c0)]),(zc [(zv ↑i),(zv ↑j)]),(zc [(zv ↑i),(zv ↑j)]),(zc [(zv ↑i),(zv ↑j)])]) (j) hj (z) (x) (w) (a) e4) (cP (@iaddrCellS (q) (cs) (j) hj) (cP (@loadRowS (q) (q) ([(zc [(V.d (D.str s)),(zs inlT il),(zs spanT fl),(zv tab),(zv wd)]),(zc [(zv r0),(zv c0)]),(zc [(zv ↑i),(zv ↑j)]),(zc [(zv ↑i),(zv ↑j)]),(zc [(zv ↑i),(zv ↑j)])]) (i) hi (cs) ec) (cP (@iaddrRowS (q) (q) (i) hi) (cP hx2 (cP (@loadRowS (q) (q) ([(zc [(V.d (D.str s)),(zs inlT il),(zs spanT fl),(zv tab),(zv wd)]),(zc [(zv r0),(zv c0)]),(zc [(zv ↑i),(zv ↑j)]),(zc [(zv ↑i),(zv ↑j)]),(zc [(zv ↑i),(zv ↑j)])]) (i) hi (cs) ec) (cP (@iaddrRowS (q) (q) (i) hi) (cP hx1 (cP hx0 (cP hx0 (cP hx0 (cP (@loadRowS (q) (q) ([(zc [(V.d (D.str s)),(zs inlT il),(zs spanT fl),(zv tab),(zv wd)]),(zc [(zv r0),(zv c0)]),(zc [(zv ↑i),(zv ↑j)]),(zc [(zv ↑i),(zv ↑j)]),(zc [(zv ↑i),(zv ↑j)])]) (i) hi (cs) ec) (cP hx0 (cP hx0 (cP (@iaddrRowS (q) (q) (i) hi) (cP hx0 (cP hx0 (cP hx0 (cP hx0 (cP hx0 (cP hx0 (cC (@isS (q) hs (l) el hl ((↑i:Int)) ((↑j:Int)) h1) (cP (@ptNqS (q) ((↑i:Int)) ((↑j:Int))) (cP (@ptNqS (q) ((↑i:Int)) ((↑j:Int))) (cC (@clip0S (q) hs hq (l) el hl ((↑i:Int)) ((↑j:Int)) ((↑i:Int)) ((↑j:Int)) e3) (cC (@clip1S (q) hs hq (l) el hl ((↑i:Int)) ((↑j:Int)) ((↑i:Int)) ((↑j:Int)) e2) (cC (@clip1S (q) hs hq (l) el hl (r0) (c0) ((↑i:Int)) ((↑j:Int)) e1) (cC (@madeYS (q) (s) (il) (fl) (tab) (wd) e eq) nilE))))))))))))))))))))))))))))))))))))))))) (by kernel_rfl) rfl rfl
 ·have hx4:(a == a) = true:=decide_eq_true (by omega)
  exact pV 12 [(1,.v (V.d (D.tup [(Ty.slD rowT q),(D.bool true)]))),(14,.v (shwR (↑i:Int) (↑j:Int) (0:Int))),(16,.v (shwR (↑i:Int) (↑j:Int) (0:Int))),(19,.v (shwR (↑i:Int) (↑j:Int) (0:Int))),(34,.v (zb false)),(41,.v (zb false)),(47,.v (zb true)),(65,bf),(66,bf),(68,bf),(69,bf),(70,bf),(72,bf),(73,.v (V.d (D.ref (List.flatMap (Ty.enc rowT) q) (i * 7)))),(74,bf),(75,bf),(76,.v (V.d (Ty.slD cellT cs))),(77,bf),(79,bf),(81,bf),(82,bf),(85,.v (V.d (D.ref (List.flatMap (Ty.enc rowT) q) (i * 7)))),(86,.v (V.d (Ty.slD cellT cs))),(89,bf),(91,.v (V.d (D.ref (List.flatMap (Ty.enc rowT) q) (i * 7)))),(92,.v (V.d (Ty.slD cellT cs))),(94,.v (V.d (D.ref (List.flatMap (Ty.enc cellT) cs) (j * 4)))),(95,.v (V.d (D.agg [(D.int IntKind.i32 z),(zi x),(zi w),(zi a)]))),(98,bf),(99,bf),(100,bf),(101,bf),(104,.v (V.d (D.tup [(zi a),(zi 0)]))),(105,.v (shwR (↑i:Int) (↑j:Int) (0:Int))),(118,bt),(120,bt),(122,bt),(123,.v (zb true)),(124,bt),(126,.v (zb true))] (cC (@oneS (q)) (cP hx4 (cP (@ptEqS (q) ((↑i:Int)) ((↑j:Int))) (cP hx4 (cP hx4 (cP hx4 (cC (@show1S (q) (a) (en) (k) hk hq2 q0 ee q1 hs (l) el hl ((↑i:Int)) ((↑j:Int)) e5) (cC (@placeS (q) hs (l) el hl ((↑i:Int)) ((↑j:Int)) h1 (a) h2) (cP hx3 (cP hx3 (cP hx3 (cP hx3 (cP (@loadCellS (q) (cs) ([(zc [(V.d (D.str s)),(zs inlT il),(zs spanT fl),(zv tab),(zv wd)]),(zc [(zv r0),(zv c0)]),(zc [(zv ↑i),(zv ↑j)]),(zc [(zv ↑i),(zv ↑j)]),(zc [(zv ↑i),(zv ↑j)])]) (j) hj (z) (x) (w) (a) e4) (cP (@iaddrCellS (q) (cs) (j) hj) (cP (@loadRowS (q) (q) ([(zc [(V.d (D.str s)),(zs inlT il),(zs spanT fl),(zv tab),(zv wd)]),(zc [(zv r0),(zv c0)]),(zc [(zv ↑i),(zv ↑j)]),(zc [(zv ↑i),(zv ↑j)]),(zc [(zv ↑i),(zv ↑j)])]) (i) hi (cs) ec) (cP (@iaddrRowS (q) (q) (i) hi) (cP hx2 (cP (@loadRowS (q) (q) ([(zc [(V.d (D.str s)),(zs inlT il),(zs spanT fl),(zv tab),(zv wd)]),(zc [(zv r0),(zv c0)]),(zc [(zv ↑i),(zv ↑j)]),(zc [(zv ↑i),(zv ↑j)]),(zc [(zv ↑i),(zv ↑j)])]) (i) hi (cs) ec) (cP (@iaddrRowS (q) (q) (i) hi) (cP hx1 (cP hx0 (cP hx0 (cP hx0 (cP (@loadRowS (q) (q) ([(zc [(V.d (D.str s)),(zs inlT il),(zs spanT fl),(zv tab),(zv wd)]),(zc [(zv r0),(zv c0)]),(zc [(zv ↑i),(zv ↑j)]),(zc [(zv ↑i),(zv ↑j)]),(zc [(zv ↑i),(zv ↑j)])]) (i) hi (cs) ec) (cP hx0 (cP hx0 (cP (@iaddrRowS (q) (q) (i) hi) (cP hx0 (cP hx0 (cP hx0 (cP hx0 (cP hx0 (cP hx0 (cC (@isS (q) hs (l) el hl ((↑i:Int)) ((↑j:Int)) h1) (cP (@ptNqS (q) ((↑i:Int)) ((↑j:Int))) (cP (@ptNqS (q) ((↑i:Int)) ((↑j:Int))) (cC (@clip0S (q) hs hq (l) el hl ((↑i:Int)) ((↑j:Int)) ((↑i:Int)) ((↑j:Int)) e3) (cC (@clip1S (q) hs hq (l) el hl ((↑i:Int)) ((↑j:Int)) ((↑i:Int)) ((↑j:Int)) e2) (cC (@clip1S (q) hs hq (l) el hl (r0) (c0) ((↑i:Int)) ((↑j:Int)) e1) (cC (@madeYS (q) (s) (il) (fl) (tab) (wd) e eq) nilE)))))))))))))))))))))))))))))))))))))))) (by kernel_rfl) rfl rfl
theorem rmM_of (i:Nat) (L:List Cell) (r:Row) (k0:Nat) (M:List Mark):∀ c,∀ m ∈ Points.rmM i L r k0 M c,m ∈ M∨∃ col,col < c∧m = Points.cm r i col
 | 0=>fun m hm=>.inl hm
 | c + 1=>by
  have h1:∀ m ∈ Points.rmM i L r k0 M c,m ∈ M∨∃ col,col < c + 1∧m = Points.cm r i col:=fun m hm=>by
   rcases rmM_of i L r k0 M c m hm with h | ⟨col,h,e⟩
   ·exact .inl h
   ·exact .inr ⟨col,by omega,e⟩
  simp only [Points.rmM]
  split
  ·exact h1
  ·split
   ·intro m hm
    rcases List.mem_append.1 hm with hm | hm
    ·exact h1 m hm
    ·rw [List.mem_singleton] at hm
     exact .inr ⟨c,by omega,hm⟩
   ·exact h1
def MarkOf (q:List Row) (n:Nat) (m:Mark):Prop:=∃ i,i < n∧((∃ j,j < (cellsR (rowT.nth q i)).length∧m = Points.cm (rowT.nth q i) i j)∨m = Points.endMark q i)
theorem refFold_of (q:List Row):∀ i,∀ m ∈ Points.refFold q i,MarkOf q i m
 | 0=>by intro m hm;cases hm
 | i + 1=>by
  have h1:∀ m ∈ Points.rowMarks q (Points.refFold q i) i,MarkOf q (i + 1) m:=fun m hm=>by
   rcases rmM_of i _ _ _ _ _ m hm with h | ⟨col,h,e⟩
   ·obtain ⟨k,hk,h2⟩:=refFold_of q i m h
    exact ⟨k,by omega,h2⟩
   ·exact ⟨i,by omega,.inl ⟨col,h,e⟩⟩
  show ∀ m ∈ Points.refStep q (Points.refFold q i) i,MarkOf q (i + 1) m
  unfold Points.refStep
  split
  ·intro m hm
   rcases List.mem_append.1 hm with hm | hm
   ·exact h1 m hm
   ·rw [List.mem_singleton] at hm
    exact ⟨i,by omega,.inr hm⟩
  ·exact h1
theorem marks_of (q:List Row):∀ m ∈ Points.allMarks q,MarkOf q q.length m:=by
 rw [Points.marks_same]
 exact refFold_of q q.length
theorem pkB_mem (l:List Mark) (p:Points.Point):∀ f i b,i + f≤l.length→b ∈ l→Points.pkB l p f i b ∈ l
 | 0,i,b,_,hb=>hb
 | f + 1,i,b,h,hb=>by
  simp only [Points.pkB]
  refine pkB_mem l p f (i + 1) _ (by omega) ?_
  split
  ·exact hb
  ·rw [nth_get (e:=markT) (show i < l.length by omega)];exact List.getElem_mem _
theorem pkA_mem (l:List Mark) (p:Points.Point):∀ f i b,i + f≤l.length→b ∈ l→Points.pkA l p f i b ∈ l
 | 0,i,b,_,hb=>hb
 | f + 1,i,b,h,hb=>by
  simp only [Points.pkA]
  refine pkA_mem l p f (i + 1) _ (by omega) ?_
  split
  ·exact hb
  ·rw [nth_get (e:=markT) (show i < l.length by omega)];exact List.getElem_mem _
theorem pkB_at (l:List Mark) (p:Points.Point) (j:Nat) (hj:j < l.length) (h1:∀ i,i≤j→¬ Points.isBh (markT.nth l i) p) (h2:∀ i,j < i→i < l.length→Points.isBh (markT.nth l i) p):∀ f i b,i + f = l.length→(j < i→b = markT.nth l j)→Points.pkB l p f i b = markT.nth l j
 | 0,i,b,h,hb=>hb (by omega)
 | f + 1,i,b,h,hb=>by
  simp only [Points.pkB]
  refine pkB_at l p j hj h1 h2 f (i + 1) _ (by omega) (fun hji=>?_)
  by_cases e:i = j
  ·subst e
   rw [if_neg (h1 i (Nat.le_refl _))]
  ·rw [if_pos (h2 i (by omega) (by omega))]
   exact hb (by omega)
theorem pkA_at (l:List Mark) (p:Points.Point) (j:Nat) (hj:j < l.length) (h1:∀ i,i≤j→¬ Points.isAh (markT.nth l i) p) (h2:∀ i,j < i→i < l.length→Points.isAh (markT.nth l i) p):∀ f i b,i + f = l.length→(j < i→b = markT.nth l j)→Points.pkA l p f i b = markT.nth l j
 | 0,i,b,h,hb=>hb (by omega)
 | f + 1,i,b,h,hb=>by
  simp only [Points.pkA]
  refine pkA_at l p j hj h1 h2 f (i + 1) _ (by omega) (fun hji=>?_)
  by_cases e:i = j
  ·subst e
   rw [if_neg (h1 i (Nat.le_refl _))]
  ·rw [if_pos (h2 i (by omega) (by omega))]
   exact hb (by omega)
theorem isBh_iff (m:Mark) (r c:Int):Points.isBh m (ptT r c) ↔ (r < rOfM m∨(rOfM m = r∧c < cOfM m)):=Iff.rfl
theorem isAh_iff (m:Mark) (r c:Int):Points.isAh m (ptT r c) ↔ (rOfM m < r∨(rOfM m = r∧cOfM m < c)):=Iff.rfl
theorem clip_fix {l:List Mark} (hl:l.Pairwise ptLt) {m:Mark} (hm:m ∈ l) (b:Int):clipP b l (rOfM m) (cOfM m) = ptM m:=by
 obtain ⟨j,hj,e⟩:=List.mem_iff_getElem.1 hm
 have hp:=List.pairwise_iff_getElem.1 hl
 unfold clipP
 split
 ·unfold Points.pickBm
  have e2:markT.nth l j = m:=by rw [nth_get (e:=markT) hj];exact e
  rw [pkB_at l (ptT (rOfM m) (cOfM m)) j hj (fun i hi=>?_) (fun i hi hi2=>?_) l.length 0 _ (by omega) (fun h=>by omega),e2]
  ·rw [isBh_iff,nth_get (e:=markT) (show i < l.length by omega)]
   by_cases q:i = j
   ·subst q;rw [e];omega
   ·have h3:=hp i j (by omega) hj (by omega)
    rw [e] at h3
    unfold ptLt at h3
    omega
  ·rw [isBh_iff,nth_get (e:=markT) hi2]
   have h3:=hp j i hj hi2 hi
   rw [e] at h3
   unfold ptLt at h3
   omega
 ·unfold Points.pickAm
  have hL:l.reverse.length = l.length:=List.length_reverse
  have e2:markT.nth l.reverse (l.length - 1 - j) = m:=by
   rw [nth_get (e:=markT) (by omega),List.getElem_reverse]
   rw [← e];congr 1;omega
  rw [pkA_at l.reverse (ptT (rOfM m) (cOfM m)) (l.length - 1 - j) (by omega) (fun i hi=>?_) (fun i hi hi2=>?_) l.reverse.length 0 _ (by omega) (fun h=>by omega),e2]
  ·rw [isAh_iff,nth_get (e:=markT) (show i < l.reverse.length by omega),List.getElem_reverse]
   by_cases q:l.length - 1 - i = j
   ·have h4:l[l.length - 1 - i]'(by omega) = m:=by rw [← e];congr 1
    rw [h4];omega
   ·have h3:=hp j (l.length - 1 - i) hj (by omega) (by omega)
    rw [e] at h3
    unfold ptLt at h3
    omega
  ·rw [isAh_iff,nth_get (e:=markT) hi2,List.getElem_reverse]
   have h3:=hp (l.length - 1 - i) j (by omega) hj (by omega)
   rw [e] at h3
   unfold ptLt at h3
   omega
theorem clip_mem (l:List Mark) (h0:0 < l.length) (b r c:Int):∃ m ∈ l,clipP b l r c = ptM m:=by
 unfold clipP
 split
 ·refine ⟨_,?_,rfl⟩
  unfold Points.pickBm
  exact pkB_mem l _ _ _ _ (by omega) (by rw [nth_get (e:=markT) h0];exact List.getElem_mem _)
 ·refine ⟨_,?_,rfl⟩
  unfold Points.pickAm
  have h1:0 < l.reverse.length:=by rw [List.length_reverse];exact h0
  exact List.mem_reverse.1 (pkA_mem l.reverse _ _ _ _ (by omega) (by rw [nth_get (e:=markT) h1];exact List.getElem_mem _))
theorem visA_le {n:Nat} {hid:List Span} (hok:HidOk n hid):∀ f k,k≤n→∀ x ∈ visA n hid f k,x≤n
 | 0,k,h=>by intro x hx;rw [show visA n hid 0 k = [(k:Int)] from rfl,List.mem_singleton] at hx;omega
 | f + 1,k,h=>by
  intro x hx
  rcases List.mem_cons.1 hx with hx | hx
  ·omega
  ·split at hx
   ·rename_i hk
    exact visA_le hok f _ (nxP_le hok hk) x hx
   ·cases hx
theorem DocM.org_self {n:Nat} {hid:List Span} {l:List Mark} (h:DocM n hid l) {m:Mark} (hm:m ∈ l) (hk:¬ kOfM m = 2):orgM (aOfM m) l = some m∧0≤aOfM m∧aOfM m≤n:=by
 have hinc:(l.filter nvM).Pairwise (fun a b=>aOfM a < aOfM b):=by
  have:=visA_inc n hid n 0
  rw [show visA n hid n 0 = visD n hid from rfl,← h.vis,List.pairwise_map] at this
  exact this
 have hmN:m ∈ l.filter nvM:=List.mem_filter.2 ⟨hm,by unfold nvM;rw [decide_eq_true_eq];exact hk⟩
 have hv:aOfM m ∈ visD n hid:=by rw [← h.vis];exact List.mem_map_of_mem hmN
 have h0:=visA_ge n hid n 0 _ hv
 have h1:=visA_le h.hidD.ok n 0 (Nat.zero_le _) _ hv
 refine ⟨?_,by omega,h1⟩
 obtain ⟨o,ho⟩:=org_some (at_:=aOfM m) hm (by unfold nvLe;simp [hk])
 obtain ⟨o1,o2,o3⟩:=org_mem ho
 have ho2:=ho
 unfold orgM at ho2
 rw [filter_nvLe] at ho2
 rcases last_max _ (hinc.sublist List.filter_sublist) ho2 m (List.mem_filter.2 ⟨hmN,by rw [decide_eq_true_eq];exact Int.le_refl _⟩) with h6 | h6
 ·omega
 ·rw [ho,h6]
theorem stayLaw (s:Str) (il:List Inl) (fl:List Span) (tab wd r0 c0 b:Int):∃ q,Ans (XS q) FStay (stayA s il fl tab wd r0 c0 b) lawT:=by
 refine ⟨docRows s il fl tab wd,?_⟩
 cases e:smallB s il fl tab wd 120 with
 | false=>exact sqN _ s il fl tab wd r0 c0 b e
 | true =>
  have h:=smallB_yes e
  obtain ⟨h1,h2⟩:=docRows_last h
  have h3:=h.rows.1
  have h4:=h.many
  have hd:=h.docM
  obtain ⟨k,hk⟩:∃ k,k + 1 = (docRows s il fl tab wd).length:=⟨(docRows s il fl tab wd).length - 1,by omega⟩
  have h5:=h3.1
  have hne:=Points.marks_ne (docRows s il fl tab wd) h1
  by_cases hb:b = 0∨b = 1
  ·obtain ⟨m,hm,em⟩:=clip_mem (Points.allMarks (docRows s il fl tab wd)) hne b r0 c0
   obtain ⟨m3,m4⟩:=mark_pt hd.inc hm
   have f0:=clip_fix hd.inc hm 0
   have f1:=clip_fix hd.inc hm 1
   obtain ⟨i,hi,hcase⟩:=marks_of _ m hm
   have hcl:(cellsR (rowT.nth (docRows s il fl tab wd) i)).length≤100000:=h3.2.1 i
   rcases hcase with ⟨j,hj,ej⟩ | ej
   ·have er:rOfM m = (i:Int):=by rw [ej];rfl
    have ec:cOfM m = (j:Int):=by rw [ej];rfl
    obtain ⟨z,x,w,a,e4⟩:∃ z x w a,cellT.nth (cellsR (rowT.nth (docRows s il fl tab wd) i)) j = C4 z x w a:=⟨_,_,_,_,rfl⟩
    have ek:kOfM m = x:=by
     have:kOfM m = kdC (cellT.nth (cellsR (rowT.nth (docRows s il fl tab wd) i)) j):=by rw [ej];rfl
     rw [this,e4];rfl
    have ea:aOfM m = a:=by
     have:aOfM m = atC (cellT.nth (cellsR (rowT.nth (docRows s il fl tab wd) i)) j):=by rw [ej];rfl
     rw [this,e4];rfl
    have ept:ptM m = ((i:Int),(j:Int)):=by unfold ptM;rw [er,ec]
    rw [ept] at em f0 f1
    rw [er,ec] at f0 f1 m3 m4
    by_cases hx:x = 1∨x = 3
    ·obtain ⟨g1,g2,g3⟩:=hd.org_self hm (by rw [ek];omega)
     rw [ea] at g1 g2 g3 m4
     have g4:showP a 1 (Points.allMarks (docRows s il fl tab wd)) = ((i:Int),(j:Int)):=by
      rw [showP_eq a 1 _ m g1]
      unfold shownM
      rw [if_neg (fun h=>absurd h.1 (by decide)),ept]
     rcases hb with rfl | rfl
     ·exact sqC0 _ s il fl tab wd r0 c0 e rfl h3 h1 h5 _ rfl h4 i j em f0 f1 m3 hi _ rfl hj hcl z x w a e4 hx m4 k hk _ h2 (by omega) (by omega) g4
     ·exact sqC1 _ s il fl tab wd r0 c0 e rfl h3 h1 h5 _ rfl h4 i j em f1 f0 m3 hi _ rfl hj hcl z x w a e4 hx m4 k hk _ h2 (by omega) (by omega) g4
    ·rcases hb with rfl | rfl
     ·exact sqB0 _ s il fl tab wd r0 c0 e rfl h3 h1 h5 _ rfl h4 i j em f0 f1 m3 hi _ rfl hj hcl z x w a e4 (by omega) (by omega)
     ·exact sqB1 _ s il fl tab wd r0 c0 e rfl h3 h1 h5 _ rfl h4 i j em f1 f0 m3 hi _ rfl hj hcl z x w a e4 (by omega) (by omega)
   ·have er:rOfM m = (i:Int):=by rw [ej];rfl
    have ec:cOfM m = ((cellsR (rowT.nth (docRows s il fl tab wd) i)).length:Int):=by rw [ej];rfl
    have ept:ptM m = ((i:Int),((cellsR (rowT.nth (docRows s il fl tab wd) i)).length:Int)):=by unfold ptM;rw [er,ec]
    rw [ept] at em f0 f1
    rw [er,ec] at f0 f1 m3
    rcases hb with rfl | rfl
    ·exact sqA0 _ s il fl tab wd r0 c0 e rfl h3 h1 h5 _ rfl h4 i _ em f0 f1 m3 hi _ rfl rfl hcl
    ·exact sqA1 _ s il fl tab wd r0 c0 e rfl h3 h1 h5 _ rfl h4 i _ em f1 f0 m3 hi _ rfl rfl hcl
  ·exact sqE _ s il fl tab wd r0 c0 b e rfl (fun h=>hb (.inl h)) (fun h=>hb (.inr h))
end Go.Proofs.Ytaobccodpdmieaa.Lay
namespace Go.Proofs.Ytaobccodpdmieaa.pointsStay
open Go Go.ChangeShapes Go.WideShapes Go.ChangeAt Go.RowKit Pv G
abbrev T0:Ty:=(.st (.cons .str (.cons (.sl (.st (.cons (.int .i64) (.cons (.int .i64) (.cons (.int .i64) (.cons (.int .i64) (.cons .str .nil))))))) (.cons (.sl (.st (.cons (.int .i64) (.cons (.int .i64) .nil)))) (.cons (.int .i64) (.cons (.int .i64) .nil))))))
abbrev T1:Ty:=(.st (.cons (.int .i64) (.cons (.int .i64) .nil)))
abbrev T2:Ty:=(.int .i64)
def Law:Prop:=∀ (y0:T0.ty) (y1:T1.ty) (y2:T2.ty),T0.ok y0→T1.ok y1→T2.ok y2→∃ q,Ans (Lay.XS q) 8 [.d (T0.argD y0),.d (T1.argD y1),.d (T2.argD y2)] (.d (.bool true))
theorem law:Law:=fun y0 y1 y2 _ _ _=>Lay.stayLaw y0.1 y0.2.1 y0.2.2.1 y0.2.2.2.1 y0.2.2.2.2.1 y1.1 y1.2.1 y2
theorem own:ownKnob Try.prog.godebug = none:=by kernel_rfl
set_option maxRecDepth 100000 in
theorem contract (H:Type) (enc:TypeId × Value→H) (W:World) (base:Nat) (args:Array Value) (ds gs:List (DataW H)) (before:List MemPlace)
  (hval:∀ (j:Nat) t v,Try.f8.params[j]? = some t→args[j]? = some v→Value.okWide Try.prog W .any base t v)
  (hW:DataW.Whole enc Try.prog Try.f8.params.toList Rows.pointsStaySpec.vars false W args.toList ds gs before)
  (hsz:(DataW.weightsEach Try.prog (Try.f8.params.toList ++ Rows.pointsStaySpec.plain.varTypes Try.prog) (ds ++ gs)).all (· ≤ reachBytes) = true) :
  Calls Try.prog 8 args W fun e W' => ∃ v,e = .returned v∧Rows.pointsStaySpec.post enc Try.prog Try.f8 false true false false W args v W':=by
 have hW':=hW
 have hlt:=hW.lt
 obtain ⟨p,q,hA0,hV,rfl,hfz,hnd⟩:=hW
 have hA:DataW.TrodAll enc Try.prog W 0 (fun _=>true) true Try.f8.params.toList args.toList ds p:=hA0
 rw [Try.params8] at hA hval hsz
 obtain ⟨v0,vs0,d0,ds0,p0,q0,hargs,rfl,rfl,h0,r0⟩:=trodAll_cons hA
 obtain ⟨v1,vs1,d1,ds1,p1,q1,rfl,rfl,rfl,h1,r1⟩:=trodAll_cons r0
 obtain ⟨v2,vs2,d2,ds2,p2,q2,rfl,rfl,rfl,h2,r2⟩:=trodAll_cons r1
 obtain ⟨rfl,rfl,rfl⟩:=trodAll_nil r2
 obtain rfl:args = #[v0,v1,v2]:=by cases args;simp_all
 obtain ⟨rfl,rfl⟩:=trodVars_none hV
 obtain ⟨y0,o0,e0⟩:=open_arg (T:=T0) (by kernel_rfl) (hval 0 _ v0 rfl rfl) h0 (fun n hn=>of_decide_eq_true (List.all_eq_true.1 hsz n (DataW.weights_mem_each (j:=0) rfl rfl n hn)))
 obtain ⟨y1,o1,e1⟩:=open_arg (T:=T1) (by kernel_rfl) (hval 1 _ v1 rfl rfl) h1 (fun n hn=>of_decide_eq_true (List.all_eq_true.1 hsz n (DataW.weights_mem_each (j:=1) rfl rfl n hn)))
 obtain ⟨y2,o2,e2⟩:=open_arg (T:=T2) (by kernel_rfl) (hval 2 _ v2 rfl rfl) h2 (fun n hn=>of_decide_eq_true (List.all_eq_true.1 hsz n (DataW.weights_mem_each (j:=2) rfl rfl n hn)))
 obtain ⟨rq,run⟩:=law y0 y1 y2 o0 o1 o2
 have hp:PtV X0 W (topG W) [v0,v1,v2] [.d (T0.argD y0),.d (T1.argD y1),.d (T2.argD y2)]:=by
  refine ⟨rfl,fun j v x k1 k2=>?_⟩
  match j with
  | 0=>simp at k1 k2;subst k1;subst k2;exact e0 _ _
  | 1=>simp at k1 k2;subst k1;subst k2;exact e1 _ _
  | 2=>simp at k1 k2;subst k1;subst k2;exact e2 _ _
  | j + 3=>simp at k1
 clear hA0
 simp only [List.append_nil] at hW'
 refine (Lay.law_callsS rq run rfl hp).mono fun e W' ⟨he,hb⟩=>?_
 subst he
 exact ⟨_,rfl,post_of_below (pa:=_) (pv:=[]) hW' (fun _ _ _=>trodAll_cons_mk (shut_bool Try.underlying4 _) trodAll_mk0)
  (fun sp hsp=>(trodAll_cons_mk (WideElems.Trod_stays (by kernel_rfl) (by kernel_rfl) (of_decide_eq_true (by kernel_rfl)) h0 (fun x hx=>hb.same (hlt x (by simp [hx]))) (fun x hx=>hsp x (by simp [hx]))) (trodAll_cons_mk (WideElems.Trod_stays (by kernel_rfl) (by kernel_rfl) (of_decide_eq_true (by kernel_rfl)) h1 (fun x hx=>hb.same (hlt x (by simp [hx]))) (fun x hx=>hsp x (by simp [hx]))) (trodAll_cons_mk (WideElems.Trod_stays (by kernel_rfl) (by kernel_rfl) (of_decide_eq_true (by kernel_rfl)) h2 (fun x hx=>hb.same (hlt x (by simp [hx]))) (fun x hx=>hsp x (by simp [hx]))) trodAll_mk0))))
  (fun _ _=>rfl) (by simp) hb (ok_one (by kernel_rfl) rfl (okWide_bool_mk Try.underlying4 _))⟩
set_option maxRecDepth 100000 in
theorem lifted (os:Os) (started:os.Started) (H:Type) (enc:TypeId × Value→H) :
  ReturnsInHanded {} Try.checked os 8 .any (Rows.pointsStaySpec.pre6 enc Try.prog Try.f8 Rows.pointsStayRow.domain false) (Rows.pointsStaySpec.post enc Try.prog Try.f8 false true false false):=by
 refine returnsInHanded_of_change_sized (C:=Try.checked) own started (by kernel_rfl) Try.func8
  (ChangeSpec.witness6 (enc:=enc) (C:=Try.checked) false ⟨#[],#[.agg #[.string ⟨#[]⟩,.slice none 0 0,.slice none 0 0,.int .i64 0,.int .i64 0],.agg #[.int .i64 0,.int .i64 0],.int .i64 0],[]⟩ 8 (by kernel_rfl) (by kernel_rfl) (by kernel_rfl) (by kernel_rfl)) ?_
 intro W base args ds gs before hval hW hcnd hsz _
 exact contract H enc W base args ds gs before hval hW hsz
theorem holds:Rows.PointsStaySaid :=
 OpenClaim.holds_of_wide 8 Try.f8 rfl rfl rfl rfl rfl rfl rfl ⟨rfl,rfl,rfl,rfl,rfl⟩ rfl rfl rfl rfl rfl (by kernel_rfl) Try.func8 (by kernel_rfl)
  (of_decide_eq_true (by kernel_rfl)) (by unfold Func.isWrapper;first | (rw [if_pos (by decide +kernel)];kernel_rfl) | (rw [if_neg (by decide +kernel)];exact ⟨rfl,rfl⟩))
  (fun os started H enc _=>lifted os started H enc)
end Go.Proofs.Ytaobccodpdmieaa.pointsStay
