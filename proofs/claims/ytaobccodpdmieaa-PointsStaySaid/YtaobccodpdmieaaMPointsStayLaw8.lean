/- Lemmas for the law PointsStayLaw: texts of mine, merged. -/
import Derived.Test.YtaobccodpdmieaaMPointsStayLaw7
set_option linter.unusedVariables false
set_option linter.unusedSimpArgs false
set_option maxRecDepth 100000
set_option maxHeartbeats 4000000
namespace Go.Proofs.Ytaobccodpdmieaa.Lay
open Go Pv G Utf
theorem indentC_ge (l:List Cell) (hw:WOk l):0≤indentC l∧indentC l≤8:=by
 unfold indentC
 have:=widthC_le _ (hw.take (lead blC l))
 split <;> omega
theorem hangC_ge (l:List Cell) (hw:WOk l) (wd:Int):0≤hangC l wd∧hangC l wd≤8:=by
 have:=indentC_ge l hw
 unfold hangC;split <;> omega
def rowsOf (l:List Cell) (wd:Int):List (List Cell) :=
 if wd = 0 then [l] else if startC l wd < l.length then rowsM l wd (wd - hangC l wd) (hangC l wd).toNat else [l]
theorem rows20:∀ (l:List Cell) (hl:l.length≤100000) (hw:WOk l) (wd:Int) (h0:0≤wd) (h1:wd≤200) (L:List (List Cell)) (e:rowsOf l wd = L),Ans XR FRows [.d (cellT.slD l),.d (.int .i64 wd)] (.d (rowsT.slD L)):=fun l hl hw wd h0 h1 L e=>by
 subst e
 have hg:=hangC_ge l hw wd
 unfold rowsOf
 by_cases q0:wd = 0
 ·subst q0
  rw [if_pos rfl];exact rw0 l hl hw _ rfl
 rw [if_neg q0]
 have hA:=atL l wd (wd - hangC l wd) hl hw
 by_cases q1:startC l wd < l.length
 ·rw [if_pos q1] at hA ⊢
  have hlen:=takG_len l (wd - hangC l wd) l.length (startC l wd)
  have e:(natI (takA l wd (wd - hangC l wd))).length = (takG l (wd - hangC l wd) l.length (startC l wd)).length + 1:=by simp [natI,takA]
  have hR:=rwL l (hangC l wd).toNat wd (wd - hangC l wd) hl (by omega)
  rw [Int.toNat_of_nonneg hg.1] at hR
  have hW:IntKind.wrap .i64 (wd - hangC l wd) = wd - hangC l wd:=wrapId _ (by omega) (by omega)
  exact rw2 l hl hw wd (by omega) h1 _ rfl hg.1 (by omega) _ rfl _ _ (by omega) (by rw [hW];exact hA) _ _ _ hR
 ·rw [if_neg q1] at hA ⊢
  have:=(startC_le l wd).2
  exact rw1 l hl hw wd (by omega) h1 _ rfl hg.1 (by omega) _ rfl _ hA (by omega)
abbrev FBr:FuncId := 57
theorem sliceRuneTo:∀ (l:List Int) (n:Nat) (hl:l.length≤1000000) (h2:n≤l.length) (l2:List Int) (e:l.take n = l2),sliceV XR 65 (.d (i32T.slD l)) none (some (.d (.int .i64 (n:Int)))) none = some (.d (i32T.slD l2)):=fun l n hl h2 l2 e=>by subst e;exact sliceHi (e:=i32T) (te := 21) (by kernel_rfl) (by kernel_rfl) (by omega) (by omega)
abbrev stBr (r2:List Int) (n k:Int):St:=⟨[(5,.d (.int .i64 n)),(10,.d (i32T.slD r2)),(11,.d (.int .i64 (r2.length:Int))),(12,.d (.int .i64 k))],[],[]⟩
abbrev stBrx (r2:List Int) (n k:Int):St:=⟨[(5,.d (.int .i64 n)),(10,.d (i32T.slD r2)),(11,.d (.int .i64 (r2.length:Int))),(12,.d (.int .i64 k)),(13,.d (.bool false))],[],[]⟩
abbrev FLine:FuncId := 44
abbrev rowT:Ty:=.st (.cons (.sl cellT) (.cons i64 (.cons i64 (.cons i64 (.cons .bool (.cons .bool (.cons i64 .nil)))))))
abbrev Row:=rowT.ty
abbrev R7 (c:List Cell) (st en bu:Int) (wr fo:Bool) (wd:Int):Row:=(c,st,en,bu,wr,fo,wd,())
theorem iaddrRw:∀ (l:List (List Cell)) (i:Nat) (hi:i < l.length),iaddrV XR 121 (.d (rowsT.slD l)) (.d (.int .i64 (i:Int))) = some (.d (.ref (l.flatMap rowsT.enc) (i * 1))):=fun l i hi=>iaddrSl (te := 35) (z:=1) (by kernel_rfl) (by kernel_rfl) (by omega) (by omega) (flat_len _ 1 (Ty.enc_length rowsT) l)
theorem loadRw:∀ (l:List (List Cell)) (h:List Ob) (k:Nat) (hk:k < l.length) (z:List Cell) (e:rowsT.nth l k = z),loadV XR h 35 (.d (.ref (l.flatMap rowsT.enc) (k * 1))) = some (.d (cellT.slD z)):=fun l h k hk z e=>by subst e;exact Pv.loadCell (e:=rowsT) (z1:=1) (by kernel_rfl) (by kernel_rfl) hk (show 0 < 1 by omega)
abbrev viewL (r:List Int) (n:Int) (il:List Inl) (w:Int) (hid:List Span) (zl wl:List Rng) (tab wd:Int):List D:=textL r n il w hid ++ [tabD zl wl,.int .i64 tab,.int .i64 wd]
abbrev vO (r:List Int) (n:Int) (il:List Inl) (w:Int) (hid:List Span) (tb:D) (tab wd:Int):Ob:=.cells [.d (i32T.slD r),.d (.int .i64 n),.d (inlT.slD il),.d (.int .i64 w),.d (spanT.slD hid),.d tb,.d (.int .i64 tab),.d (.int .i64 wd)]
abbrev lO (p:List Part) (fr to:Int):Ob:=.cells [.d (partT.slD p),.d (.int .i64 fr),.d (.int .i64 to)]
abbrev stLn (o1 o2:Ob) (ov:V) (L:List (List Cell)) (i:Int):St:=⟨[(2,.obj 0 0),(3,.obj 1 0),(5,ov),(6,.d (rowsT.slD L)),(7,.d (.int .i64 i))],[o1,o2],[]⟩
abbrev rO (c:List Cell) (st en bu:Int) (wr fo:Bool) (wc:Int):Ob:=.cells [.d (cellT.slD c),.d (.int .i64 st),.d (.int .i64 en),.d (.int .i64 bu),.d (.bool wr),.d (.bool fo),.d (.int .i64 wc)]
abbrev stL2 (o1 o2:Ob) (ov:V) (L:List (List Cell)) (i:Int) (k:Int) (o3:Ob):St:=⟨[(2,.obj 0 0),(3,.obj 1 0),(5,ov),(6,.d (rowsT.slD L)),(7,.d (.int .i64 i)),(8,.obj 2 0),(9,.d (.int .i64 k))],[o1,o2,o3],[]⟩
abbrev stL2x (o1 o2:Ob) (ov:V) (L:List (List Cell)) (i:Int) (k:Int) (o3:Ob):St:=⟨[(2,.obj 0 0),(3,.obj 1 0),(5,ov),(6,.d (rowsT.slD L)),(7,.d (.int .i64 i)),(8,.obj 2 0),(9,.d (.int .i64 k)),(52,.d (.bool false))],[o1,o2,o3],[]⟩
abbrev rvE:V:=.tail 37 [] 0
abbrev rvF (c0:List Cell) (s0 e0 b0:Int) (w0 f0:Bool) (d0:Int):V:=.full [cellT.slD c0,.int .i64 s0,.int .i64 e0,.int .i64 b0,.bool w0,.bool f0,.int .i64 d0] 1
abbrev rvT (out:List Row):V:=.d (rowT.slD out)
theorem br1 (r2:List Int) (n:Int) (h0:0≤n) (h1:n≤1000000) (k:Nat) (hl:r2.length≤1000000) (hk:k < r2.length) (z:Int) (e:i32T.nth r2 k = z) (q:z = 10):RdC XR 0 (ntOf XR FBr) (lpKeep XR FBr 0) (lpBody XR FBr 0) 0 (stBr r2 n k) (stBr r2 (n + 1) (k + 1)):=by
 have hx0:(decide ((↑k:Int) < (↑r2.length:Int))) = true:=decide_eq_true (by omega)
 have hx1:(z == (10:Int)) = true:=decide_eq_true (by omega)
 exact (pC (st':={ s:=[(5,(zv (zw (n + (1:Int))))),(10,(zs i32T r2)),(11,(zv (↑r2.length:Int))),(12,(zv (zw ((↑k:Int) + (1:Int)))))],h:=[],og:=[] }) 12 [(1,bt),(2,.v (V.d (D.ref (List.flatMap (Ty.enc i32T) r2) (k * 1)))),(3,.v (V.d (D.int IntKind.i32 z))),(5,bt)] (cP hx1 (cP (@loadRuneE (r2) ([]) (k) hk (z) e) (cP (@iaddrRuneN (r2) (k) hk) (cP hx0 nilE)))) (by kernel_rfl)).to (by simp (disch:=omega) [wrapId, *])
theorem br2 (r2:List Int) (n:Int) (k:Nat) (hl:r2.length≤1000000) (hk:k < r2.length) (z:Int) (e:i32T.nth r2 k = z) (q:z ≠ 10):RdC XR 0 (ntOf XR FBr) (lpKeep XR FBr 0) (lpBody XR FBr 0) 0 (stBr r2 n k) (stBr r2 n (k + 1)):=by
 have hx0:(decide ((↑k:Int) < (↑r2.length:Int))) = true:=decide_eq_true (by omega)
 have hx1:(z == (10:Int)) = false:=decide_eq_false (by omega)
 exact (pC (st':={ s:=[(5,(zv n)),(10,(zs i32T r2)),(11,(zv (↑r2.length:Int))),(12,(zv (zw ((↑k:Int) + (1:Int)))))],h:=[],og:=[] }) 12 [(1,bt),(2,.v (V.d (D.ref (List.flatMap (Ty.enc i32T) r2) (k * 1)))),(3,.v (V.d (D.int IntKind.i32 z))),(5,bf)] (cP hx1 (cP (@loadRuneE (r2) ([]) (k) hk (z) e) (cP (@iaddrRuneN (r2) (k) hk) (cP hx0 nilE)))) (by kernel_rfl)).to (by simp (disch:=omega) [wrapId, *])
theorem brX (r2:List Int) (n:Int):Rd XR 0 (ntOf XR FBr) (lpBody XR FBr 0) (stBr r2 n r2.length) (.exit 0,stBrx r2 n r2.length):=by
 have hx0:(decide ((↑r2.length:Int) < (↑r2.length:Int))) = false:=decide_eq_false (by omega)
 exact (pR (r:=((Ex.exit 0),{ s:=[(5,(zv n)),(10,(zs i32T r2)),(11,(zv (↑r2.length:Int))),(12,(zv (↑r2.length:Int))),(13,(zb (decide ((↑r2.length:Int) < (↑r2.length:Int)))))],h:=[],og:=[] })) 12 [(1,bf)] (cP hx0 nilE) (by kernel_rfl)).to (by simp (disch:=omega) [wrapId, *])
theorem l2AE (r:List Int) (n:Int) (il:List Inl) (w0_:Int) (hid:List Span) (tb:D) (tab wd:Int) (p:List Part) (fr to:Int) (L:List (List Cell)) (hL:L.length≤1000000) (i:Nat) (hi:i < L.length) (c:List Cell) (ec:rowsT.nth L i = c) (hc:c.length≤100000) (k:Nat) (hk:k < c.length) (z x w a:Int) (e:cellT.nth c k = C4 z x w a) (q:x ≠ 5) (st en bu:Int) (wr:Bool) (wc:Int):RdC XR 0 (ntOf XR FLine) (lpKeep XR FLine 1) (lpBody XR FLine 1) 3 (stL2 (vO r n il w0_ hid tb tab wd) (lO p fr to) rvE L i k (rO c st en bu wr true wc)) (stL2 (vO r n il w0_ hid tb tab wd) (lO p fr to) rvE L i ((k:Int) - 1) (rO c a en bu wr true wc)):=by
 have hx0:(x != (5:Int)) = true:=by simp [*]
 exact (pC (st':={ s:=[(2,(zo 0 0)),(3,(zo 1 0)),(5,(V.tail (nat_lit 37) [] 0)),(6,(zs rowsT L)),(7,(zv ↑i)),(8,(zo 2 0)),(9,(zv (zw ((↑k:Int) - (1:Int)))))],h:=[(zc [(zs i32T r),(zv n),(zs inlT il),(zv w0_),(zs spanT hid),(V.d tb),(zv tab),(zv wd)]),(zc [(zs partT p),(zv fr),(zv to)]),(zc [(zs cellT c),(zv a),(zv en),(zv bu),(zb wr),(zb true),(zv wc)])],og:=[] }) 12 [(2,.v (V.d (D.ref (List.flatMap (Ty.enc rowsT) L) (i * 1)))),(3,.v (V.d (Ty.slD cellT c))),(4,.v (V.d (D.ref (List.flatMap (Ty.enc cellT) c) (k * 4)))),(5,.v (V.d (D.agg [(D.int IntKind.i32 z),(zi x),(zi w),(zi a)]))),(8,bt)] (cP hx0 (cP (@loadCellE (c) ([(zc [(zs i32T r),(zv n),(zs inlT il),(zv w0_),(zs spanT hid),(V.d tb),(zv tab),(zv wd)]),(zc [(zs partT p),(zv fr),(zv to)]),(zc [(zs cellT c),(zv st),(zv en),(zv bu),(zb wr),(zb true),(zv wc)])]) (k) hk (z) (x) (w) (a) e) (cP (@iaddrCellN (c) (k) hk) (cP (@loadRw (L) ([(zc [(zs i32T r),(zv n),(zs inlT il),(zv w0_),(zs spanT hid),(V.d tb),(zv tab),(zv wd)]),(zc [(zs partT p),(zv fr),(zv to)]),(zc [(zs cellT c),(zv st),(zv en),(zv bu),(zb wr),(zb true),(zv wc)])]) (i) hi (c) ec) (cP (@iaddrRw (L) (i) hi) nilE))))) (by kernel_rfl)).to (by simp (disch:=omega) [wrapId, *])
theorem l2AF (r:List Int) (n:Int) (il:List Inl) (w0_:Int) (hid:List Span) (tb:D) (tab wd:Int) (p:List Part) (fr to:Int) (c0:List Cell) (s0 e0 b0:Int) (w0 f0:Bool) (d0:Int) (L:List (List Cell)) (hL:L.length≤1000000) (i:Nat) (hi:i < L.length) (c:List Cell) (ec:rowsT.nth L i = c) (hc:c.length≤100000) (k:Nat) (hk:k < c.length) (z x w a:Int) (e:cellT.nth c k = C4 z x w a) (q:x ≠ 5) (st en bu:Int) (wr:Bool) (wc:Int):RdC XR 0 (ntOf XR FLine) (lpKeep XR FLine 1) (lpBody XR FLine 1) 3 (stL2 (vO r n il w0_ hid tb tab wd) (lO p fr to) (rvF c0 s0 e0 b0 w0 f0 d0) L i k (rO c st en bu wr true wc)) (stL2 (vO r n il w0_ hid tb tab wd) (lO p fr to) (rvF c0 s0 e0 b0 w0 f0 d0) L i ((k:Int) - 1) (rO c a en bu wr true wc)):=by
 have hx0:(x != (5:Int)) = true:=by simp [*]
 exact (pC (st':={ s:=[(2,(zo 0 0)),(3,(zo 1 0)),(5,(V.full [(zd cellT c0),(zi s0),(zi e0),(zi b0),(D.bool w0),(D.bool f0),(zi d0)] 1)),(6,(zs rowsT L)),(7,(zv ↑i)),(8,(zo 2 0)),(9,(zv (zw ((↑k:Int) - (1:Int)))))],h:=[(zc [(zs i32T r),(zv n),(zs inlT il),(zv w0_),(zs spanT hid),(V.d tb),(zv tab),(zv wd)]),(zc [(zs partT p),(zv fr),(zv to)]),(zc [(zs cellT c),(zv a),(zv en),(zv bu),(zb wr),(zb true),(zv wc)])],og:=[] }) 12 [(2,.v (V.d (D.ref (List.flatMap (Ty.enc rowsT) L) (i * 1)))),(3,.v (V.d (Ty.slD cellT c))),(4,.v (V.d (D.ref (List.flatMap (Ty.enc cellT) c) (k * 4)))),(5,.v (V.d (D.agg [(D.int IntKind.i32 z),(zi x),(zi w),(zi a)]))),(8,bt)] (cP hx0 (cP (@loadCellE (c) ([(zc [(zs i32T r),(zv n),(zs inlT il),(zv w0_),(zs spanT hid),(V.d tb),(zv tab),(zv wd)]),(zc [(zs partT p),(zv fr),(zv to)]),(zc [(zs cellT c),(zv st),(zv en),(zv bu),(zb wr),(zb true),(zv wc)])]) (k) hk (z) (x) (w) (a) e) (cP (@iaddrCellN (c) (k) hk) (cP (@loadRw (L) ([(zc [(zs i32T r),(zv n),(zs inlT il),(zv w0_),(zs spanT hid),(V.d tb),(zv tab),(zv wd)]),(zc [(zs partT p),(zv fr),(zv to)]),(zc [(zs cellT c),(zv st),(zv en),(zv bu),(zb wr),(zb true),(zv wc)])]) (i) hi (c) ec) (cP (@iaddrRw (L) (i) hi) nilE))))) (by kernel_rfl)).to (by simp (disch:=omega) [wrapId, *])
theorem l2AT (r:List Int) (n:Int) (il:List Inl) (w0_:Int) (hid:List Span) (tb:D) (tab wd:Int) (p:List Part) (fr to:Int) (out:List Row) (L:List (List Cell)) (hL:L.length≤1000000) (i:Nat) (hi:i < L.length) (c:List Cell) (ec:rowsT.nth L i = c) (hc:c.length≤100000) (k:Nat) (hk:k < c.length) (z x w a:Int) (e:cellT.nth c k = C4 z x w a) (q:x ≠ 5) (st en bu:Int) (wr:Bool) (wc:Int):RdC XR 0 (ntOf XR FLine) (lpKeep XR FLine 1) (lpBody XR FLine 1) 3 (stL2 (vO r n il w0_ hid tb tab wd) (lO p fr to) (rvT out) L i k (rO c st en bu wr true wc)) (stL2 (vO r n il w0_ hid tb tab wd) (lO p fr to) (rvT out) L i ((k:Int) - 1) (rO c a en bu wr true wc)):=by
 have hx0:(x != (5:Int)) = true:=by simp [*]
 exact (pC (st':={ s:=[(2,(zo 0 0)),(3,(zo 1 0)),(5,(zs rowT out)),(6,(zs rowsT L)),(7,(zv ↑i)),(8,(zo 2 0)),(9,(zv (zw ((↑k:Int) - (1:Int)))))],h:=[(zc [(zs i32T r),(zv n),(zs inlT il),(zv w0_),(zs spanT hid),(V.d tb),(zv tab),(zv wd)]),(zc [(zs partT p),(zv fr),(zv to)]),(zc [(zs cellT c),(zv a),(zv en),(zv bu),(zb wr),(zb true),(zv wc)])],og:=[] }) 12 [(2,.v (V.d (D.ref (List.flatMap (Ty.enc rowsT) L) (i * 1)))),(3,.v (V.d (Ty.slD cellT c))),(4,.v (V.d (D.ref (List.flatMap (Ty.enc cellT) c) (k * 4)))),(5,.v (V.d (D.agg [(D.int IntKind.i32 z),(zi x),(zi w),(zi a)]))),(8,bt)] (cP hx0 (cP (@loadCellE (c) ([(zc [(zs i32T r),(zv n),(zs inlT il),(zv w0_),(zs spanT hid),(V.d tb),(zv tab),(zv wd)]),(zc [(zs partT p),(zv fr),(zv to)]),(zc [(zs cellT c),(zv st),(zv en),(zv bu),(zb wr),(zb true),(zv wc)])]) (k) hk (z) (x) (w) (a) e) (cP (@iaddrCellN (c) (k) hk) (cP (@loadRw (L) ([(zc [(zs i32T r),(zv n),(zs inlT il),(zv w0_),(zs spanT hid),(V.d tb),(zv tab),(zv wd)]),(zc [(zs partT p),(zv fr),(zv to)]),(zc [(zs cellT c),(zv st),(zv en),(zv bu),(zb wr),(zb true),(zv wc)])]) (i) hi (c) ec) (cP (@iaddrRw (L) (i) hi) nilE))))) (by kernel_rfl)).to (by simp (disch:=omega) [wrapId, *])
theorem l2BE (r:List Int) (n:Int) (il:List Inl) (w0_:Int) (hid:List Span) (tb:D) (tab wd:Int) (p:List Part) (fr to:Int) (L:List (List Cell)) (hL:L.length≤1000000) (i:Nat) (hi:i < L.length) (c:List Cell) (ec:rowsT.nth L i = c) (hc:c.length≤100000) (k:Nat) (hk:k < c.length) (z x w a:Int) (e:cellT.nth c k = C4 z x w a) (q:x = 3) (st en bu:Int) (wr:Bool) (wc:Int):RdC XR 0 (ntOf XR FLine) (lpKeep XR FLine 1) (lpBody XR FLine 1) 3 (stL2 (vO r n il w0_ hid tb tab wd) (lO p fr to) rvE L i k (rO c st en bu wr false wc)) (stL2 (vO r n il w0_ hid tb tab wd) (lO p fr to) rvE L i ((k:Int) - 1) (rO c a en bu wr true wc)):=by
 have hx0:(x != (5:Int)) = true:=by simp [*]
 exact (pC (st':={ s:=[(2,(zo 0 0)),(3,(zo 1 0)),(5,(V.tail (nat_lit 37) [] 0)),(6,(zs rowsT L)),(7,(zv ↑i)),(8,(zo 2 0)),(9,(zv (zw ((↑k:Int) - (1:Int)))))],h:=[(zc [(zs i32T r),(zv n),(zs inlT il),(zv w0_),(zs spanT hid),(V.d tb),(zv tab),(zv wd)]),(zc [(zs partT p),(zv fr),(zv to)]),(zc [(zs cellT c),(zv a),(zv en),(zv bu),(zb wr),(zb (x == (3:Int))),(zv wc)])],og:=[] }) 12 [(2,.v (V.d (D.ref (List.flatMap (Ty.enc rowsT) L) (i * 1)))),(3,.v (V.d (Ty.slD cellT c))),(4,.v (V.d (D.ref (List.flatMap (Ty.enc cellT) c) (k * 4)))),(5,.v (V.d (D.agg [(D.int IntKind.i32 z),(zi x),(zi w),(zi a)]))),(8,bt)] (cP hx0 (cP (@loadCellE (c) ([(zc [(zs i32T r),(zv n),(zs inlT il),(zv w0_),(zs spanT hid),(V.d tb),(zv tab),(zv wd)]),(zc [(zs partT p),(zv fr),(zv to)]),(zc [(zs cellT c),(zv st),(zv en),(zv bu),(zb wr),(zb false),(zv wc)])]) (k) hk (z) (x) (w) (a) e) (cP (@iaddrCellN (c) (k) hk) (cP (@loadRw (L) ([(zc [(zs i32T r),(zv n),(zs inlT il),(zv w0_),(zs spanT hid),(V.d tb),(zv tab),(zv wd)]),(zc [(zs partT p),(zv fr),(zv to)]),(zc [(zs cellT c),(zv st),(zv en),(zv bu),(zb wr),(zb false),(zv wc)])]) (i) hi (c) ec) (cP (@iaddrRw (L) (i) hi) nilE))))) (by kernel_rfl)).to (by simp (disch:=omega) [wrapId, *])
theorem l2BF (r:List Int) (n:Int) (il:List Inl) (w0_:Int) (hid:List Span) (tb:D) (tab wd:Int) (p:List Part) (fr to:Int) (c0:List Cell) (s0 e0 b0:Int) (w0 f0:Bool) (d0:Int) (L:List (List Cell)) (hL:L.length≤1000000) (i:Nat) (hi:i < L.length) (c:List Cell) (ec:rowsT.nth L i = c) (hc:c.length≤100000) (k:Nat) (hk:k < c.length) (z x w a:Int) (e:cellT.nth c k = C4 z x w a) (q:x = 3) (st en bu:Int) (wr:Bool) (wc:Int):RdC XR 0 (ntOf XR FLine) (lpKeep XR FLine 1) (lpBody XR FLine 1) 3 (stL2 (vO r n il w0_ hid tb tab wd) (lO p fr to) (rvF c0 s0 e0 b0 w0 f0 d0) L i k (rO c st en bu wr false wc)) (stL2 (vO r n il w0_ hid tb tab wd) (lO p fr to) (rvF c0 s0 e0 b0 w0 f0 d0) L i ((k:Int) - 1) (rO c a en bu wr true wc)):=by
 have hx0:(x != (5:Int)) = true:=by simp [*]
 exact (pC (st':={ s:=[(2,(zo 0 0)),(3,(zo 1 0)),(5,(V.full [(zd cellT c0),(zi s0),(zi e0),(zi b0),(D.bool w0),(D.bool f0),(zi d0)] 1)),(6,(zs rowsT L)),(7,(zv ↑i)),(8,(zo 2 0)),(9,(zv (zw ((↑k:Int) - (1:Int)))))],h:=[(zc [(zs i32T r),(zv n),(zs inlT il),(zv w0_),(zs spanT hid),(V.d tb),(zv tab),(zv wd)]),(zc [(zs partT p),(zv fr),(zv to)]),(zc [(zs cellT c),(zv a),(zv en),(zv bu),(zb wr),(zb (x == (3:Int))),(zv wc)])],og:=[] }) 12 [(2,.v (V.d (D.ref (List.flatMap (Ty.enc rowsT) L) (i * 1)))),(3,.v (V.d (Ty.slD cellT c))),(4,.v (V.d (D.ref (List.flatMap (Ty.enc cellT) c) (k * 4)))),(5,.v (V.d (D.agg [(D.int IntKind.i32 z),(zi x),(zi w),(zi a)]))),(8,bt)] (cP hx0 (cP (@loadCellE (c) ([(zc [(zs i32T r),(zv n),(zs inlT il),(zv w0_),(zs spanT hid),(V.d tb),(zv tab),(zv wd)]),(zc [(zs partT p),(zv fr),(zv to)]),(zc [(zs cellT c),(zv st),(zv en),(zv bu),(zb wr),(zb false),(zv wc)])]) (k) hk (z) (x) (w) (a) e) (cP (@iaddrCellN (c) (k) hk) (cP (@loadRw (L) ([(zc [(zs i32T r),(zv n),(zs inlT il),(zv w0_),(zs spanT hid),(V.d tb),(zv tab),(zv wd)]),(zc [(zs partT p),(zv fr),(zv to)]),(zc [(zs cellT c),(zv st),(zv en),(zv bu),(zb wr),(zb false),(zv wc)])]) (i) hi (c) ec) (cP (@iaddrRw (L) (i) hi) nilE))))) (by kernel_rfl)).to (by simp (disch:=omega) [wrapId, *])
theorem l2BT (r:List Int) (n:Int) (il:List Inl) (w0_:Int) (hid:List Span) (tb:D) (tab wd:Int) (p:List Part) (fr to:Int) (out:List Row) (L:List (List Cell)) (hL:L.length≤1000000) (i:Nat) (hi:i < L.length) (c:List Cell) (ec:rowsT.nth L i = c) (hc:c.length≤100000) (k:Nat) (hk:k < c.length) (z x w a:Int) (e:cellT.nth c k = C4 z x w a) (q:x = 3) (st en bu:Int) (wr:Bool) (wc:Int):RdC XR 0 (ntOf XR FLine) (lpKeep XR FLine 1) (lpBody XR FLine 1) 3 (stL2 (vO r n il w0_ hid tb tab wd) (lO p fr to) (rvT out) L i k (rO c st en bu wr false wc)) (stL2 (vO r n il w0_ hid tb tab wd) (lO p fr to) (rvT out) L i ((k:Int) - 1) (rO c a en bu wr true wc)):=by
 have hx0:(x != (5:Int)) = true:=by simp [*]
 exact (pC (st':={ s:=[(2,(zo 0 0)),(3,(zo 1 0)),(5,(zs rowT out)),(6,(zs rowsT L)),(7,(zv ↑i)),(8,(zo 2 0)),(9,(zv (zw ((↑k:Int) - (1:Int)))))],h:=[(zc [(zs i32T r),(zv n),(zs inlT il),(zv w0_),(zs spanT hid),(V.d tb),(zv tab),(zv wd)]),(zc [(zs partT p),(zv fr),(zv to)]),(zc [(zs cellT c),(zv a),(zv en),(zv bu),(zb wr),(zb (x == (3:Int))),(zv wc)])],og:=[] }) 12 [(2,.v (V.d (D.ref (List.flatMap (Ty.enc rowsT) L) (i * 1)))),(3,.v (V.d (Ty.slD cellT c))),(4,.v (V.d (D.ref (List.flatMap (Ty.enc cellT) c) (k * 4)))),(5,.v (V.d (D.agg [(D.int IntKind.i32 z),(zi x),(zi w),(zi a)]))),(8,bt)] (cP hx0 (cP (@loadCellE (c) ([(zc [(zs i32T r),(zv n),(zs inlT il),(zv w0_),(zs spanT hid),(V.d tb),(zv tab),(zv wd)]),(zc [(zs partT p),(zv fr),(zv to)]),(zc [(zs cellT c),(zv st),(zv en),(zv bu),(zb wr),(zb false),(zv wc)])]) (k) hk (z) (x) (w) (a) e) (cP (@iaddrCellN (c) (k) hk) (cP (@loadRw (L) ([(zc [(zs i32T r),(zv n),(zs inlT il),(zv w0_),(zs spanT hid),(V.d tb),(zv tab),(zv wd)]),(zc [(zs partT p),(zv fr),(zv to)]),(zc [(zs cellT c),(zv st),(zv en),(zv bu),(zb wr),(zb false),(zv wc)])]) (i) hi (c) ec) (cP (@iaddrRw (L) (i) hi) nilE))))) (by kernel_rfl)).to (by simp (disch:=omega) [wrapId, *])
theorem l2CE (r:List Int) (n:Int) (il:List Inl) (w0_:Int) (hid:List Span) (tb:D) (tab wd:Int) (p:List Part) (fr to:Int) (L:List (List Cell)) (hL:L.length≤1000000) (i:Nat) (hi:i < L.length) (c:List Cell) (ec:rowsT.nth L i = c) (hc:c.length≤100000) (k:Nat) (hk:k < c.length) (z x w a:Int) (e:cellT.nth c k = C4 z x w a) (q:x ≠ 5) (q2:x ≠ 3) (st en bu:Int) (wr:Bool) (wc:Int):RdC XR 0 (ntOf XR FLine) (lpKeep XR FLine 1) (lpBody XR FLine 1) 3 (stL2 (vO r n il w0_ hid tb tab wd) (lO p fr to) rvE L i k (rO c st en bu wr false wc)) (stL2 (vO r n il w0_ hid tb tab wd) (lO p fr to) rvE L i ((k:Int) - 1) (rO c a en bu wr false wc)):=by
 have hx0:(x != (5:Int)) = true:=by simp [*]
 exact (pC (st':={ s:=[(2,(zo 0 0)),(3,(zo 1 0)),(5,(V.tail (nat_lit 37) [] 0)),(6,(zs rowsT L)),(7,(zv ↑i)),(8,(zo 2 0)),(9,(zv (zw ((↑k:Int) - (1:Int)))))],h:=[(zc [(zs i32T r),(zv n),(zs inlT il),(zv w0_),(zs spanT hid),(V.d tb),(zv tab),(zv wd)]),(zc [(zs partT p),(zv fr),(zv to)]),(zc [(zs cellT c),(zv a),(zv en),(zv bu),(zb wr),(zb (x == (3:Int))),(zv wc)])],og:=[] }) 12 [(2,.v (V.d (D.ref (List.flatMap (Ty.enc rowsT) L) (i * 1)))),(3,.v (V.d (Ty.slD cellT c))),(4,.v (V.d (D.ref (List.flatMap (Ty.enc cellT) c) (k * 4)))),(5,.v (V.d (D.agg [(D.int IntKind.i32 z),(zi x),(zi w),(zi a)]))),(8,bt)] (cP hx0 (cP (@loadCellE (c) ([(zc [(zs i32T r),(zv n),(zs inlT il),(zv w0_),(zs spanT hid),(V.d tb),(zv tab),(zv wd)]),(zc [(zs partT p),(zv fr),(zv to)]),(zc [(zs cellT c),(zv st),(zv en),(zv bu),(zb wr),(zb false),(zv wc)])]) (k) hk (z) (x) (w) (a) e) (cP (@iaddrCellN (c) (k) hk) (cP (@loadRw (L) ([(zc [(zs i32T r),(zv n),(zs inlT il),(zv w0_),(zs spanT hid),(V.d tb),(zv tab),(zv wd)]),(zc [(zs partT p),(zv fr),(zv to)]),(zc [(zs cellT c),(zv st),(zv en),(zv bu),(zb wr),(zb false),(zv wc)])]) (i) hi (c) ec) (cP (@iaddrRw (L) (i) hi) nilE))))) (by kernel_rfl)).to (by simp (disch:=omega) [wrapId, *])
theorem l2CF (r:List Int) (n:Int) (il:List Inl) (w0_:Int) (hid:List Span) (tb:D) (tab wd:Int) (p:List Part) (fr to:Int) (c0:List Cell) (s0 e0 b0:Int) (w0 f0:Bool) (d0:Int) (L:List (List Cell)) (hL:L.length≤1000000) (i:Nat) (hi:i < L.length) (c:List Cell) (ec:rowsT.nth L i = c) (hc:c.length≤100000) (k:Nat) (hk:k < c.length) (z x w a:Int) (e:cellT.nth c k = C4 z x w a) (q:x ≠ 5) (q2:x ≠ 3) (st en bu:Int) (wr:Bool) (wc:Int):RdC XR 0 (ntOf XR FLine) (lpKeep XR FLine 1) (lpBody XR FLine 1) 3 (stL2 (vO r n il w0_ hid tb tab wd) (lO p fr to) (rvF c0 s0 e0 b0 w0 f0 d0) L i k (rO c st en bu wr false wc)) (stL2 (vO r n il w0_ hid tb tab wd) (lO p fr to) (rvF c0 s0 e0 b0 w0 f0 d0) L i ((k:Int) - 1) (rO c a en bu wr false wc)):=by
 have hx0:(x != (5:Int)) = true:=by simp [*]
 exact (pC (st':={ s:=[(2,(zo 0 0)),(3,(zo 1 0)),(5,(V.full [(zd cellT c0),(zi s0),(zi e0),(zi b0),(D.bool w0),(D.bool f0),(zi d0)] 1)),(6,(zs rowsT L)),(7,(zv ↑i)),(8,(zo 2 0)),(9,(zv (zw ((↑k:Int) - (1:Int)))))],h:=[(zc [(zs i32T r),(zv n),(zs inlT il),(zv w0_),(zs spanT hid),(V.d tb),(zv tab),(zv wd)]),(zc [(zs partT p),(zv fr),(zv to)]),(zc [(zs cellT c),(zv a),(zv en),(zv bu),(zb wr),(zb (x == (3:Int))),(zv wc)])],og:=[] }) 12 [(2,.v (V.d (D.ref (List.flatMap (Ty.enc rowsT) L) (i * 1)))),(3,.v (V.d (Ty.slD cellT c))),(4,.v (V.d (D.ref (List.flatMap (Ty.enc cellT) c) (k * 4)))),(5,.v (V.d (D.agg [(D.int IntKind.i32 z),(zi x),(zi w),(zi a)]))),(8,bt)] (cP hx0 (cP (@loadCellE (c) ([(zc [(zs i32T r),(zv n),(zs inlT il),(zv w0_),(zs spanT hid),(V.d tb),(zv tab),(zv wd)]),(zc [(zs partT p),(zv fr),(zv to)]),(zc [(zs cellT c),(zv st),(zv en),(zv bu),(zb wr),(zb false),(zv wc)])]) (k) hk (z) (x) (w) (a) e) (cP (@iaddrCellN (c) (k) hk) (cP (@loadRw (L) ([(zc [(zs i32T r),(zv n),(zs inlT il),(zv w0_),(zs spanT hid),(V.d tb),(zv tab),(zv wd)]),(zc [(zs partT p),(zv fr),(zv to)]),(zc [(zs cellT c),(zv st),(zv en),(zv bu),(zb wr),(zb false),(zv wc)])]) (i) hi (c) ec) (cP (@iaddrRw (L) (i) hi) nilE))))) (by kernel_rfl)).to (by simp (disch:=omega) [wrapId, *])
theorem l2CT (r:List Int) (n:Int) (il:List Inl) (w0_:Int) (hid:List Span) (tb:D) (tab wd:Int) (p:List Part) (fr to:Int) (out:List Row) (L:List (List Cell)) (hL:L.length≤1000000) (i:Nat) (hi:i < L.length) (c:List Cell) (ec:rowsT.nth L i = c) (hc:c.length≤100000) (k:Nat) (hk:k < c.length) (z x w a:Int) (e:cellT.nth c k = C4 z x w a) (q:x ≠ 5) (q2:x ≠ 3) (st en bu:Int) (wr:Bool) (wc:Int):RdC XR 0 (ntOf XR FLine) (lpKeep XR FLine 1) (lpBody XR FLine 1) 3 (stL2 (vO r n il w0_ hid tb tab wd) (lO p fr to) (rvT out) L i k (rO c st en bu wr false wc)) (stL2 (vO r n il w0_ hid tb tab wd) (lO p fr to) (rvT out) L i ((k:Int) - 1) (rO c a en bu wr false wc)):=by
 have hx0:(x != (5:Int)) = true:=by simp [*]
 exact (pC (st':={ s:=[(2,(zo 0 0)),(3,(zo 1 0)),(5,(zs rowT out)),(6,(zs rowsT L)),(7,(zv ↑i)),(8,(zo 2 0)),(9,(zv (zw ((↑k:Int) - (1:Int)))))],h:=[(zc [(zs i32T r),(zv n),(zs inlT il),(zv w0_),(zs spanT hid),(V.d tb),(zv tab),(zv wd)]),(zc [(zs partT p),(zv fr),(zv to)]),(zc [(zs cellT c),(zv a),(zv en),(zv bu),(zb wr),(zb (x == (3:Int))),(zv wc)])],og:=[] }) 12 [(2,.v (V.d (D.ref (List.flatMap (Ty.enc rowsT) L) (i * 1)))),(3,.v (V.d (Ty.slD cellT c))),(4,.v (V.d (D.ref (List.flatMap (Ty.enc cellT) c) (k * 4)))),(5,.v (V.d (D.agg [(D.int IntKind.i32 z),(zi x),(zi w),(zi a)]))),(8,bt)] (cP hx0 (cP (@loadCellE (c) ([(zc [(zs i32T r),(zv n),(zs inlT il),(zv w0_),(zs spanT hid),(V.d tb),(zv tab),(zv wd)]),(zc [(zs partT p),(zv fr),(zv to)]),(zc [(zs cellT c),(zv st),(zv en),(zv bu),(zb wr),(zb false),(zv wc)])]) (k) hk (z) (x) (w) (a) e) (cP (@iaddrCellN (c) (k) hk) (cP (@loadRw (L) ([(zc [(zs i32T r),(zv n),(zs inlT il),(zv w0_),(zs spanT hid),(V.d tb),(zv tab),(zv wd)]),(zc [(zs partT p),(zv fr),(zv to)]),(zc [(zs cellT c),(zv st),(zv en),(zv bu),(zb wr),(zb false),(zv wc)])]) (i) hi (c) ec) (cP (@iaddrRw (L) (i) hi) nilE))))) (by kernel_rfl)).to (by simp (disch:=omega) [wrapId, *])
theorem l2DE (r:List Int) (n:Int) (il:List Inl) (w0_:Int) (hid:List Span) (tb:D) (tab wd:Int) (p:List Part) (fr to:Int) (L:List (List Cell)) (hL:L.length≤1000000) (i:Nat) (hi:i < L.length) (c:List Cell) (ec:rowsT.nth L i = c) (hc:c.length≤100000) (k:Nat) (hk:k < c.length) (z x w a:Int) (e:cellT.nth c k = C4 z x w a) (q:x = 5) (st en bu:Int) (wr:Bool) (wc:Int):RdC XR 0 (ntOf XR FLine) (lpKeep XR FLine 1) (lpBody XR FLine 1) 3 (stL2 (vO r n il w0_ hid tb tab wd) (lO p fr to) rvE L i k (rO c st en bu wr true wc)) (stL2 (vO r n il w0_ hid tb tab wd) (lO p fr to) rvE L i ((k:Int) - 1) (rO c st en bu wr true wc)):=by
 have hx0:(x != (5:Int)) = false:=by simp [*]
 exact (pC (st':={ s:=[(2,(zo 0 0)),(3,(zo 1 0)),(5,(V.tail (nat_lit 37) [] 0)),(6,(zs rowsT L)),(7,(zv ↑i)),(8,(zo 2 0)),(9,(zv (zw ((↑k:Int) - (1:Int)))))],h:=[(zc [(zs i32T r),(zv n),(zs inlT il),(zv w0_),(zs spanT hid),(V.d tb),(zv tab),(zv wd)]),(zc [(zs partT p),(zv fr),(zv to)]),(zc [(zs cellT c),(zv st),(zv en),(zv bu),(zb wr),(zb true),(zv wc)])],og:=[] }) 12 [(2,.v (V.d (D.ref (List.flatMap (Ty.enc rowsT) L) (i * 1)))),(3,.v (V.d (Ty.slD cellT c))),(4,.v (V.d (D.ref (List.flatMap (Ty.enc cellT) c) (k * 4)))),(5,.v (V.d (D.agg [(D.int IntKind.i32 z),(zi x),(zi w),(zi a)]))),(8,bf)] (cP hx0 (cP (@loadCellE (c) ([(zc [(zs i32T r),(zv n),(zs inlT il),(zv w0_),(zs spanT hid),(V.d tb),(zv tab),(zv wd)]),(zc [(zs partT p),(zv fr),(zv to)]),(zc [(zs cellT c),(zv st),(zv en),(zv bu),(zb wr),(zb true),(zv wc)])]) (k) hk (z) (x) (w) (a) e) (cP (@iaddrCellN (c) (k) hk) (cP (@loadRw (L) ([(zc [(zs i32T r),(zv n),(zs inlT il),(zv w0_),(zs spanT hid),(V.d tb),(zv tab),(zv wd)]),(zc [(zs partT p),(zv fr),(zv to)]),(zc [(zs cellT c),(zv st),(zv en),(zv bu),(zb wr),(zb true),(zv wc)])]) (i) hi (c) ec) (cP (@iaddrRw (L) (i) hi) nilE))))) (by kernel_rfl)).to (by simp (disch:=omega) [wrapId, *])
theorem l2DF (r:List Int) (n:Int) (il:List Inl) (w0_:Int) (hid:List Span) (tb:D) (tab wd:Int) (p:List Part) (fr to:Int) (c0:List Cell) (s0 e0 b0:Int) (w0 f0:Bool) (d0:Int) (L:List (List Cell)) (hL:L.length≤1000000) (i:Nat) (hi:i < L.length) (c:List Cell) (ec:rowsT.nth L i = c) (hc:c.length≤100000) (k:Nat) (hk:k < c.length) (z x w a:Int) (e:cellT.nth c k = C4 z x w a) (q:x = 5) (st en bu:Int) (wr:Bool) (wc:Int):RdC XR 0 (ntOf XR FLine) (lpKeep XR FLine 1) (lpBody XR FLine 1) 3 (stL2 (vO r n il w0_ hid tb tab wd) (lO p fr to) (rvF c0 s0 e0 b0 w0 f0 d0) L i k (rO c st en bu wr true wc)) (stL2 (vO r n il w0_ hid tb tab wd) (lO p fr to) (rvF c0 s0 e0 b0 w0 f0 d0) L i ((k:Int) - 1) (rO c st en bu wr true wc)):=by
 have hx0:(x != (5:Int)) = false:=by simp [*]
 exact (pC (st':={ s:=[(2,(zo 0 0)),(3,(zo 1 0)),(5,(V.full [(zd cellT c0),(zi s0),(zi e0),(zi b0),(D.bool w0),(D.bool f0),(zi d0)] 1)),(6,(zs rowsT L)),(7,(zv ↑i)),(8,(zo 2 0)),(9,(zv (zw ((↑k:Int) - (1:Int)))))],h:=[(zc [(zs i32T r),(zv n),(zs inlT il),(zv w0_),(zs spanT hid),(V.d tb),(zv tab),(zv wd)]),(zc [(zs partT p),(zv fr),(zv to)]),(zc [(zs cellT c),(zv st),(zv en),(zv bu),(zb wr),(zb true),(zv wc)])],og:=[] }) 12 [(2,.v (V.d (D.ref (List.flatMap (Ty.enc rowsT) L) (i * 1)))),(3,.v (V.d (Ty.slD cellT c))),(4,.v (V.d (D.ref (List.flatMap (Ty.enc cellT) c) (k * 4)))),(5,.v (V.d (D.agg [(D.int IntKind.i32 z),(zi x),(zi w),(zi a)]))),(8,bf)] (cP hx0 (cP (@loadCellE (c) ([(zc [(zs i32T r),(zv n),(zs inlT il),(zv w0_),(zs spanT hid),(V.d tb),(zv tab),(zv wd)]),(zc [(zs partT p),(zv fr),(zv to)]),(zc [(zs cellT c),(zv st),(zv en),(zv bu),(zb wr),(zb true),(zv wc)])]) (k) hk (z) (x) (w) (a) e) (cP (@iaddrCellN (c) (k) hk) (cP (@loadRw (L) ([(zc [(zs i32T r),(zv n),(zs inlT il),(zv w0_),(zs spanT hid),(V.d tb),(zv tab),(zv wd)]),(zc [(zs partT p),(zv fr),(zv to)]),(zc [(zs cellT c),(zv st),(zv en),(zv bu),(zb wr),(zb true),(zv wc)])]) (i) hi (c) ec) (cP (@iaddrRw (L) (i) hi) nilE))))) (by kernel_rfl)).to (by simp (disch:=omega) [wrapId, *])
theorem l2DT (r:List Int) (n:Int) (il:List Inl) (w0_:Int) (hid:List Span) (tb:D) (tab wd:Int) (p:List Part) (fr to:Int) (out:List Row) (L:List (List Cell)) (hL:L.length≤1000000) (i:Nat) (hi:i < L.length) (c:List Cell) (ec:rowsT.nth L i = c) (hc:c.length≤100000) (k:Nat) (hk:k < c.length) (z x w a:Int) (e:cellT.nth c k = C4 z x w a) (q:x = 5) (st en bu:Int) (wr:Bool) (wc:Int):RdC XR 0 (ntOf XR FLine) (lpKeep XR FLine 1) (lpBody XR FLine 1) 3 (stL2 (vO r n il w0_ hid tb tab wd) (lO p fr to) (rvT out) L i k (rO c st en bu wr true wc)) (stL2 (vO r n il w0_ hid tb tab wd) (lO p fr to) (rvT out) L i ((k:Int) - 1) (rO c st en bu wr true wc)):=by
 have hx0:(x != (5:Int)) = false:=by simp [*]
 exact (pC (st':={ s:=[(2,(zo 0 0)),(3,(zo 1 0)),(5,(zs rowT out)),(6,(zs rowsT L)),(7,(zv ↑i)),(8,(zo 2 0)),(9,(zv (zw ((↑k:Int) - (1:Int)))))],h:=[(zc [(zs i32T r),(zv n),(zs inlT il),(zv w0_),(zs spanT hid),(V.d tb),(zv tab),(zv wd)]),(zc [(zs partT p),(zv fr),(zv to)]),(zc [(zs cellT c),(zv st),(zv en),(zv bu),(zb wr),(zb true),(zv wc)])],og:=[] }) 12 [(2,.v (V.d (D.ref (List.flatMap (Ty.enc rowsT) L) (i * 1)))),(3,.v (V.d (Ty.slD cellT c))),(4,.v (V.d (D.ref (List.flatMap (Ty.enc cellT) c) (k * 4)))),(5,.v (V.d (D.agg [(D.int IntKind.i32 z),(zi x),(zi w),(zi a)]))),(8,bf)] (cP hx0 (cP (@loadCellE (c) ([(zc [(zs i32T r),(zv n),(zs inlT il),(zv w0_),(zs spanT hid),(V.d tb),(zv tab),(zv wd)]),(zc [(zs partT p),(zv fr),(zv to)]),(zc [(zs cellT c),(zv st),(zv en),(zv bu),(zb wr),(zb true),(zv wc)])]) (k) hk (z) (x) (w) (a) e) (cP (@iaddrCellN (c) (k) hk) (cP (@loadRw (L) ([(zc [(zs i32T r),(zv n),(zs inlT il),(zv w0_),(zs spanT hid),(V.d tb),(zv tab),(zv wd)]),(zc [(zs partT p),(zv fr),(zv to)]),(zc [(zs cellT c),(zv st),(zv en),(zv bu),(zb wr),(zb true),(zv wc)])]) (i) hi (c) ec) (cP (@iaddrRw (L) (i) hi) nilE))))) (by kernel_rfl)).to (by simp (disch:=omega) [wrapId, *])
theorem l2EE (r:List Int) (n:Int) (il:List Inl) (w0_:Int) (hid:List Span) (tb:D) (tab wd:Int) (p:List Part) (fr to:Int) (L:List (List Cell)) (hL:L.length≤1000000) (i:Nat) (hi:i < L.length) (c:List Cell) (ec:rowsT.nth L i = c) (hc:c.length≤100000) (k:Nat) (hk:k < c.length) (z x w a:Int) (e:cellT.nth c k = C4 z x w a) (q:x = 5) (st en bu:Int) (wr:Bool) (wc:Int):RdC XR 0 (ntOf XR FLine) (lpKeep XR FLine 1) (lpBody XR FLine 1) 3 (stL2 (vO r n il w0_ hid tb tab wd) (lO p fr to) rvE L i k (rO c st en bu wr false wc)) (stL2 (vO r n il w0_ hid tb tab wd) (lO p fr to) rvE L i ((k:Int) - 1) (rO c st en bu wr false wc)):=by
 have hx0:(x != (5:Int)) = false:=by simp [*]
 exact (pC (st':={ s:=[(2,(zo 0 0)),(3,(zo 1 0)),(5,(V.tail (nat_lit 37) [] 0)),(6,(zs rowsT L)),(7,(zv ↑i)),(8,(zo 2 0)),(9,(zv (zw ((↑k:Int) - (1:Int)))))],h:=[(zc [(zs i32T r),(zv n),(zs inlT il),(zv w0_),(zs spanT hid),(V.d tb),(zv tab),(zv wd)]),(zc [(zs partT p),(zv fr),(zv to)]),(zc [(zs cellT c),(zv st),(zv en),(zv bu),(zb wr),(zb (x == (3:Int))),(zv wc)])],og:=[] }) 12 [(2,.v (V.d (D.ref (List.flatMap (Ty.enc rowsT) L) (i * 1)))),(3,.v (V.d (Ty.slD cellT c))),(4,.v (V.d (D.ref (List.flatMap (Ty.enc cellT) c) (k * 4)))),(5,.v (V.d (D.agg [(D.int IntKind.i32 z),(zi x),(zi w),(zi a)]))),(8,bf)] (cP hx0 (cP (@loadCellE (c) ([(zc [(zs i32T r),(zv n),(zs inlT il),(zv w0_),(zs spanT hid),(V.d tb),(zv tab),(zv wd)]),(zc [(zs partT p),(zv fr),(zv to)]),(zc [(zs cellT c),(zv st),(zv en),(zv bu),(zb wr),(zb false),(zv wc)])]) (k) hk (z) (x) (w) (a) e) (cP (@iaddrCellN (c) (k) hk) (cP (@loadRw (L) ([(zc [(zs i32T r),(zv n),(zs inlT il),(zv w0_),(zs spanT hid),(V.d tb),(zv tab),(zv wd)]),(zc [(zs partT p),(zv fr),(zv to)]),(zc [(zs cellT c),(zv st),(zv en),(zv bu),(zb wr),(zb false),(zv wc)])]) (i) hi (c) ec) (cP (@iaddrRw (L) (i) hi) nilE))))) (by kernel_rfl)).to (by simp (disch:=omega) [wrapId, *])
theorem l2EF (r:List Int) (n:Int) (il:List Inl) (w0_:Int) (hid:List Span) (tb:D) (tab wd:Int) (p:List Part) (fr to:Int) (c0:List Cell) (s0 e0 b0:Int) (w0 f0:Bool) (d0:Int) (L:List (List Cell)) (hL:L.length≤1000000) (i:Nat) (hi:i < L.length) (c:List Cell) (ec:rowsT.nth L i = c) (hc:c.length≤100000) (k:Nat) (hk:k < c.length) (z x w a:Int) (e:cellT.nth c k = C4 z x w a) (q:x = 5) (st en bu:Int) (wr:Bool) (wc:Int):RdC XR 0 (ntOf XR FLine) (lpKeep XR FLine 1) (lpBody XR FLine 1) 3 (stL2 (vO r n il w0_ hid tb tab wd) (lO p fr to) (rvF c0 s0 e0 b0 w0 f0 d0) L i k (rO c st en bu wr false wc)) (stL2 (vO r n il w0_ hid tb tab wd) (lO p fr to) (rvF c0 s0 e0 b0 w0 f0 d0) L i ((k:Int) - 1) (rO c st en bu wr false wc)):=by
 have hx0:(x != (5:Int)) = false:=by simp [*]
 exact (pC (st':={ s:=[(2,(zo 0 0)),(3,(zo 1 0)),(5,(V.full [(zd cellT c0),(zi s0),(zi e0),(zi b0),(D.bool w0),(D.bool f0),(zi d0)] 1)),(6,(zs rowsT L)),(7,(zv ↑i)),(8,(zo 2 0)),(9,(zv (zw ((↑k:Int) - (1:Int)))))],h:=[(zc [(zs i32T r),(zv n),(zs inlT il),(zv w0_),(zs spanT hid),(V.d tb),(zv tab),(zv wd)]),(zc [(zs partT p),(zv fr),(zv to)]),(zc [(zs cellT c),(zv st),(zv en),(zv bu),(zb wr),(zb (x == (3:Int))),(zv wc)])],og:=[] }) 12 [(2,.v (V.d (D.ref (List.flatMap (Ty.enc rowsT) L) (i * 1)))),(3,.v (V.d (Ty.slD cellT c))),(4,.v (V.d (D.ref (List.flatMap (Ty.enc cellT) c) (k * 4)))),(5,.v (V.d (D.agg [(D.int IntKind.i32 z),(zi x),(zi w),(zi a)]))),(8,bf)] (cP hx0 (cP (@loadCellE (c) ([(zc [(zs i32T r),(zv n),(zs inlT il),(zv w0_),(zs spanT hid),(V.d tb),(zv tab),(zv wd)]),(zc [(zs partT p),(zv fr),(zv to)]),(zc [(zs cellT c),(zv st),(zv en),(zv bu),(zb wr),(zb false),(zv wc)])]) (k) hk (z) (x) (w) (a) e) (cP (@iaddrCellN (c) (k) hk) (cP (@loadRw (L) ([(zc [(zs i32T r),(zv n),(zs inlT il),(zv w0_),(zs spanT hid),(V.d tb),(zv tab),(zv wd)]),(zc [(zs partT p),(zv fr),(zv to)]),(zc [(zs cellT c),(zv st),(zv en),(zv bu),(zb wr),(zb false),(zv wc)])]) (i) hi (c) ec) (cP (@iaddrRw (L) (i) hi) nilE))))) (by kernel_rfl)).to (by simp (disch:=omega) [wrapId, *])
theorem l2ET (r:List Int) (n:Int) (il:List Inl) (w0_:Int) (hid:List Span) (tb:D) (tab wd:Int) (p:List Part) (fr to:Int) (out:List Row) (L:List (List Cell)) (hL:L.length≤1000000) (i:Nat) (hi:i < L.length) (c:List Cell) (ec:rowsT.nth L i = c) (hc:c.length≤100000) (k:Nat) (hk:k < c.length) (z x w a:Int) (e:cellT.nth c k = C4 z x w a) (q:x = 5) (st en bu:Int) (wr:Bool) (wc:Int):RdC XR 0 (ntOf XR FLine) (lpKeep XR FLine 1) (lpBody XR FLine 1) 3 (stL2 (vO r n il w0_ hid tb tab wd) (lO p fr to) (rvT out) L i k (rO c st en bu wr false wc)) (stL2 (vO r n il w0_ hid tb tab wd) (lO p fr to) (rvT out) L i ((k:Int) - 1) (rO c st en bu wr false wc)):=by
 have hx0:(x != (5:Int)) = false:=by simp [*]
 exact (pC (st':={ s:=[(2,(zo 0 0)),(3,(zo 1 0)),(5,(zs rowT out)),(6,(zs rowsT L)),(7,(zv ↑i)),(8,(zo 2 0)),(9,(zv (zw ((↑k:Int) - (1:Int)))))],h:=[(zc [(zs i32T r),(zv n),(zs inlT il),(zv w0_),(zs spanT hid),(V.d tb),(zv tab),(zv wd)]),(zc [(zs partT p),(zv fr),(zv to)]),(zc [(zs cellT c),(zv st),(zv en),(zv bu),(zb wr),(zb (x == (3:Int))),(zv wc)])],og:=[] }) 12 [(2,.v (V.d (D.ref (List.flatMap (Ty.enc rowsT) L) (i * 1)))),(3,.v (V.d (Ty.slD cellT c))),(4,.v (V.d (D.ref (List.flatMap (Ty.enc cellT) c) (k * 4)))),(5,.v (V.d (D.agg [(D.int IntKind.i32 z),(zi x),(zi w),(zi a)]))),(8,bf)] (cP hx0 (cP (@loadCellE (c) ([(zc [(zs i32T r),(zv n),(zs inlT il),(zv w0_),(zs spanT hid),(V.d tb),(zv tab),(zv wd)]),(zc [(zs partT p),(zv fr),(zv to)]),(zc [(zs cellT c),(zv st),(zv en),(zv bu),(zb wr),(zb false),(zv wc)])]) (k) hk (z) (x) (w) (a) e) (cP (@iaddrCellN (c) (k) hk) (cP (@loadRw (L) ([(zc [(zs i32T r),(zv n),(zs inlT il),(zv w0_),(zs spanT hid),(V.d tb),(zv tab),(zv wd)]),(zc [(zs partT p),(zv fr),(zv to)]),(zc [(zs cellT c),(zv st),(zv en),(zv bu),(zb wr),(zb false),(zv wc)])]) (i) hi (c) ec) (cP (@iaddrRw (L) (i) hi) nilE))))) (by kernel_rfl)).to (by simp (disch:=omega) [wrapId, *])
theorem l2XE (r:List Int) (n:Int) (il:List Inl) (w0_:Int) (hid:List Span) (tb:D) (tab wd:Int) (p:List Part) (fr to:Int) (L:List (List Cell)) (i:Int) (c:List Cell) (st en bu:Int) (wr fo:Bool) (wc:Int):Rd XR 0 (ntOf XR FLine) (lpBody XR FLine 1) (stL2 (vO r n il w0_ hid tb tab wd) (lO p fr to) rvE L i (-1) (rO c st en bu wr fo wc)) (.exit 2,stL2x (vO r n il w0_ hid tb tab wd) (lO p fr to) rvE L i (-1) (rO c st en bu wr fo wc)):=by
 exact pR 12 [] nilE (by kernel_rfl)
theorem l2XF (r:List Int) (n:Int) (il:List Inl) (w0_:Int) (hid:List Span) (tb:D) (tab wd:Int) (p:List Part) (fr to:Int) (c0:List Cell) (s0 e0 b0:Int) (w0 f0:Bool) (d0:Int) (L:List (List Cell)) (i:Int) (c:List Cell) (st en bu:Int) (wr fo:Bool) (wc:Int):Rd XR 0 (ntOf XR FLine) (lpBody XR FLine 1) (stL2 (vO r n il w0_ hid tb tab wd) (lO p fr to) (rvF c0 s0 e0 b0 w0 f0 d0) L i (-1) (rO c st en bu wr fo wc)) (.exit 2,stL2x (vO r n il w0_ hid tb tab wd) (lO p fr to) (rvF c0 s0 e0 b0 w0 f0 d0) L i (-1) (rO c st en bu wr fo wc)):=by
 exact pR 12 [] nilE (by kernel_rfl)
theorem l2XT (r:List Int) (n:Int) (il:List Inl) (w0_:Int) (hid:List Span) (tb:D) (tab wd:Int) (p:List Part) (fr to:Int) (out:List Row) (L:List (List Cell)) (i:Int) (c:List Cell) (st en bu:Int) (wr fo:Bool) (wc:Int):Rd XR 0 (ntOf XR FLine) (lpBody XR FLine 1) (stL2 (vO r n il w0_ hid tb tab wd) (lO p fr to) (rvT out) L i (-1) (rO c st en bu wr fo wc)) (.exit 2,stL2x (vO r n il w0_ hid tb tab wd) (lO p fr to) (rvT out) L i (-1) (rO c st en bu wr fo wc)):=by
 exact pR 12 [] nilE (by kernel_rfl)
def nl (z:Int):Bool:=z == 10
def brk (l:List Int):Int:=((l.countP nl:Nat):Int)
def BrL (r2:List Int) (n:Int):Prop:=Lp XR 0 (ntOf XR FBr) (lpKeep XR FBr 0) (lpBody XR FBr 0) 0 FUEL (stBr r2 0 0) (.exit 0,stBrx r2 n r2.length)
theorem brL (r2:List Int) (hl:r2.length≤100000):BrL r2 (brk r2):=by
 have hx:Rd XR 0 (ntOf XR FBr) (lpBody XR FBr 0) (stBr r2 (brk (r2.take r2.length)) r2.length) (.exit 0,stBrx r2 (brk r2) r2.length):=by rw [List.take_length];exact brX r2 _
 refine Lp.run (fun k=>stBr r2 (brk (r2.take k)) k) r2.length (by omega) (by kernel_rfl) (fun k hk=>?_) hx (by simp)
 show RdC XR 0 (ntOf XR FBr) (lpKeep XR FBr 0) (lpBody XR FBr 0) 0 (stBr r2 (brk (r2.take k)) k) (stBr r2 (brk (r2.take (k + 1))) ((k + 1:Nat):Int))
 have hc:=List.countP_le_length (p:=nl) (l:=r2.take k)
 rw [List.length_take] at hc
 have e1:brk (r2.take (k + 1)) = brk (r2.take k) + (if i32T.nth r2 k = 10 then 1 else 0):=by
  unfold brk
  rw [take_succ_nth (e:=i32T) hk,List.countP_append]
  by_cases q:i32T.nth r2 k = 10
  ·rw [if_pos q,List.countP_cons_of_pos (by simp [nl,q])];simp
  ·rw [if_neg q,List.countP_cons_of_neg (by simp [nl,q])];simp
 rw [e1]
 by_cases q:i32T.nth r2 k = 10
 ·rw [if_pos q];exact br1 r2 _ (by unfold brk;omega) (by unfold brk;omega) k (by omega) hk _ rfl q
 ·rw [if_neg q,Int.add_zero];exact br2 r2 _ k (by omega) hk _ rfl q
theorem brLp:∀ (r2:List Int) (n:Int) (h:BrL r2 n),Lp XR 0 (ntOf XR FBr) (lpKeep XR FBr 0) (lpBody XR FBr 0) 0 FUEL (stBr r2 0 0) (.exit 0,stBrx r2 n r2.length):=fun _ _ h=>h
def kdOf (l:List Cell) (k:Nat):Int:=(cellT.nth l k).2.1
def sfA (c:List Cell) (st:Int) (fo:Bool) (k:Nat):Int × Bool:=(if kdOf c k = 5 then st else atOf c k,fo || kdOf c k == 3)
def sfR (c:List Cell) (st:Int):Nat→Int × Bool
 | 0=>(st,false)
 | j + 1=>sfA c (sfR c st j).1 (sfR c st j).2 (c.length - 1 - j)
def LnI (o1 o2:Ob) (rv:V) (L:List (List Cell)) (i:Nat) (c:List Cell) (st en bu:Int) (wr:Bool) (wc:Int) (st2:Int) (fo2:Bool):Prop :=
 Lp XR 0 (ntOf XR FLine) (lpKeep XR FLine 1) (lpBody XR FLine 1) 3 FUEL (stL2 o1 o2 rv L i (IntKind.wrap .i64 ((c.length:Int) - 1)) (rO c st en bu wr false wc)) (.exit 2,stL2x o1 o2 rv L i (-1) (rO c st2 en bu wr fo2 wc))
theorem lnIg (o1 o2:Ob) (rv:V) (L:List (List Cell)) (i:Nat) (c:List Cell) (hc:c.length≤100000) (st en bu:Int) (wr:Bool) (wc:Int)
  (hcl:∀ k o,clean (lpKeep XR FLine 1) 3 (stL2 o1 o2 rv L i k (rO c o en bu wr false wc)) = stL2 o1 o2 rv L i k (rO c o en bu wr false wc))
  (hR:∀ k,k < c.length→∀ st fo,RdC XR 0 (ntOf XR FLine) (lpKeep XR FLine 1) (lpBody XR FLine 1) 3 (stL2 o1 o2 rv L i k (rO c st en bu wr fo wc)) (stL2 o1 o2 rv L i ((k:Int) - 1) (rO c (sfA c st fo k).1 en bu wr (sfA c st fo k).2 wc)))
  (hX:∀ st fo,Rd XR 0 (ntOf XR FLine) (lpBody XR FLine 1) (stL2 o1 o2 rv L i (-1) (rO c st en bu wr fo wc)) (.exit 2,stL2x o1 o2 rv L i (-1) (rO c st en bu wr fo wc))) :
  LnI o1 o2 rv L i c st en bu wr wc (sfR c st c.length).1 (sfR c st c.length).2:=by
 unfold LnI
 rw [show IntKind.wrap .i64 ((c.length:Int) - 1) = (c.length:Int) - 1 - ((0:Nat):Int) by rw [wrapId _ (by omega) (by omega)];omega]
 refine Lp.run (fun j=>stL2 o1 o2 rv L i ((c.length:Int) - 1 - ((j:Nat):Int)) (rO c (sfR c st j).1 en bu wr (sfR c st j).2 wc)) c.length (by omega) (hcl _ _) (fun j hj=>?_) ?_ (by simp)
 ·have h:=hR (c.length - 1 - j) (by omega) (sfR c st j).1 (sfR c st j).2
  have e1:((c.length - 1 - j:Nat):Int) = (c.length:Int) - 1 - (j:Int):=by omega
  have e2:((c.length - 1 - j:Nat):Int) - 1 = (c.length:Int) - 1 - ((j + 1:Nat):Int):=by omega
  rw [e2,e1] at h
  exact h
 ·have h:=hX (sfR c st c.length).1 (sfR c st c.length).2
  rw [show (-1:Int) = (c.length:Int) - 1 - ((c.length:Nat):Int) by omega] at h
  have h':(.exit 2,stL2x o1 o2 rv L i ((c.length:Int) - 1 - ((c.length:Nat):Int)) (rO c (sfR c st c.length).1 en bu wr (sfR c st c.length).2 wc)) = ((.exit 2,stL2x o1 o2 rv L i (-1) (rO c (sfR c st c.length).1 en bu wr (sfR c st c.length).2 wc)):Ex × St):=by
   rw [show (c.length:Int) - 1 - ((c.length:Nat):Int) = -1 by omega]
  rw [h'] at h
  exact h
theorem lnIE (r:List Int) (n:Int) (il:List Inl) (w0_:Int) (hid:List Span) (tb:D) (tab wd:Int) (p:List Part) (fr to:Int) (L:List (List Cell)) (hL:L.length≤1000000) (i:Nat) (hi:i < L.length) (c:List Cell) (ec:rowsT.nth L i = c) (hc:c.length≤100000) (st en bu:Int) (wr:Bool) (wc:Int) :
  LnI (vO r n il w0_ hid tb tab wd) (lO p fr to) rvE L i c st en bu wr wc (sfR c st c.length).1 (sfR c st c.length).2:=by
 refine lnIg (vO r n il w0_ hid tb tab wd) (lO p fr to) rvE L i c hc st en bu wr wc (fun k o=>by kernel_rfl) (fun k hk st fo=>?_) (fun st fo=>l2XE r n il w0_ hid tb tab wd p fr to L i c st en bu wr fo wc)
 unfold sfA
 by_cases q:kdOf c k = 5
 ·rw [if_pos q]
  have q3:(kdOf c k == 3) = false:=by rw [q];rfl
  rw [q3,Bool.or_false]
  cases fo with
  | true=>exact l2DE r n il w0_ hid tb tab wd p fr to L hL i hi c ec hc k hk _ _ _ _ rfl q st en bu wr wc
  | false=>exact l2EE r n il w0_ hid tb tab wd p fr to L hL i hi c ec hc k hk _ _ _ _ rfl q st en bu wr wc
 ·rw [if_neg q]
  cases fo with
  | true=>exact l2AE r n il w0_ hid tb tab wd p fr to L hL i hi c ec hc k hk _ _ _ _ rfl q st en bu wr wc
  | false =>
   by_cases q3:kdOf c k = 3
   ·have:(false || kdOf c k == 3) = true:=by rw [q3];rfl
    rw [this];exact l2BE r n il w0_ hid tb tab wd p fr to L hL i hi c ec hc k hk _ _ _ _ rfl q3 st en bu wr wc
   ·have:(false || kdOf c k == 3) = false:=by simp [q3]
    rw [this];exact l2CE r n il w0_ hid tb tab wd p fr to L hL i hi c ec hc k hk _ _ _ _ rfl q q3 st en bu wr wc
def lnLpE_T:Prop:=∀ (r:List Int) (n:Int) (il:List Inl) (w0_:Int) (hid:List Span) (tb:D) (tab wd:Int) (p:List Part) (fr to:Int) (L:List (List Cell)) (i:Nat) (c:List Cell) (st en bu:Int) (wr:Bool) (wc:Int) (st2:Int) (fo2:Bool) (h:LnI (vO r n il w0_ hid tb tab wd) (lO p fr to) rvE L i c st en bu wr wc st2 fo2),Lp XR 0 (ntOf XR FLine) (lpKeep XR FLine 1) (lpBody XR FLine 1) 3 FUEL (stL2 (vO r n il w0_ hid tb tab wd) (lO p fr to) rvE L i (IntKind.wrap .i64 ((c.length:Int) - 1)) (rO c st en bu wr false wc)) (.exit 2,stL2x (vO r n il w0_ hid tb tab wd) (lO p fr to) rvE L i (-1) (rO c st2 en bu wr fo2 wc))
theorem lnLpE:lnLpE_T:=by unfold lnLpE_T;intros;rename_i h;exact h
theorem lnIF (r:List Int) (n:Int) (il:List Inl) (w0_:Int) (hid:List Span) (tb:D) (tab wd:Int) (p:List Part) (fr to:Int) (c0:List Cell) (s0 e0 b0:Int) (w0 f0:Bool) (d0:Int) (L:List (List Cell)) (hL:L.length≤1000000) (i:Nat) (hi:i < L.length) (c:List Cell) (ec:rowsT.nth L i = c) (hc:c.length≤100000) (st en bu:Int) (wr:Bool) (wc:Int) :
  LnI (vO r n il w0_ hid tb tab wd) (lO p fr to) (rvF c0 s0 e0 b0 w0 f0 d0) L i c st en bu wr wc (sfR c st c.length).1 (sfR c st c.length).2:=by
 refine lnIg (vO r n il w0_ hid tb tab wd) (lO p fr to) (rvF c0 s0 e0 b0 w0 f0 d0) L i c hc st en bu wr wc (fun k o=>by kernel_rfl) (fun k hk st fo=>?_) (fun st fo=>l2XF r n il w0_ hid tb tab wd p fr to c0 s0 e0 b0 w0 f0 d0 L i c st en bu wr fo wc)
 unfold sfA
 by_cases q:kdOf c k = 5
 ·rw [if_pos q]
  have q3:(kdOf c k == 3) = false:=by rw [q];rfl
  rw [q3,Bool.or_false]
  cases fo with
  | true=>exact l2DF r n il w0_ hid tb tab wd p fr to c0 s0 e0 b0 w0 f0 d0 L hL i hi c ec hc k hk _ _ _ _ rfl q st en bu wr wc
  | false=>exact l2EF r n il w0_ hid tb tab wd p fr to c0 s0 e0 b0 w0 f0 d0 L hL i hi c ec hc k hk _ _ _ _ rfl q st en bu wr wc
 ·rw [if_neg q]
  cases fo with
  | true=>exact l2AF r n il w0_ hid tb tab wd p fr to c0 s0 e0 b0 w0 f0 d0 L hL i hi c ec hc k hk _ _ _ _ rfl q st en bu wr wc
  | false =>
   by_cases q3:kdOf c k = 3
   ·have:(false || kdOf c k == 3) = true:=by rw [q3];rfl
    rw [this];exact l2BF r n il w0_ hid tb tab wd p fr to c0 s0 e0 b0 w0 f0 d0 L hL i hi c ec hc k hk _ _ _ _ rfl q3 st en bu wr wc
   ·have:(false || kdOf c k == 3) = false:=by simp [q3]
    rw [this];exact l2CF r n il w0_ hid tb tab wd p fr to c0 s0 e0 b0 w0 f0 d0 L hL i hi c ec hc k hk _ _ _ _ rfl q q3 st en bu wr wc
def lnLpF_T:Prop:=∀ (r:List Int) (n:Int) (il:List Inl) (w0_:Int) (hid:List Span) (tb:D) (tab wd:Int) (p:List Part) (fr to:Int) (c0:List Cell) (s0 e0 b0:Int) (w0 f0:Bool) (d0:Int) (L:List (List Cell)) (i:Nat) (c:List Cell) (st en bu:Int) (wr:Bool) (wc:Int) (st2:Int) (fo2:Bool) (h:LnI (vO r n il w0_ hid tb tab wd) (lO p fr to) (rvF c0 s0 e0 b0 w0 f0 d0) L i c st en bu wr wc st2 fo2),Lp XR 0 (ntOf XR FLine) (lpKeep XR FLine 1) (lpBody XR FLine 1) 3 FUEL (stL2 (vO r n il w0_ hid tb tab wd) (lO p fr to) (rvF c0 s0 e0 b0 w0 f0 d0) L i (IntKind.wrap .i64 ((c.length:Int) - 1)) (rO c st en bu wr false wc)) (.exit 2,stL2x (vO r n il w0_ hid tb tab wd) (lO p fr to) (rvF c0 s0 e0 b0 w0 f0 d0) L i (-1) (rO c st2 en bu wr fo2 wc))
theorem lnLpF:lnLpF_T:=by unfold lnLpF_T;intros;rename_i h;exact h
theorem lnIT (r:List Int) (n:Int) (il:List Inl) (w0_:Int) (hid:List Span) (tb:D) (tab wd:Int) (p:List Part) (fr to:Int) (out:List Row) (L:List (List Cell)) (hL:L.length≤1000000) (i:Nat) (hi:i < L.length) (c:List Cell) (ec:rowsT.nth L i = c) (hc:c.length≤100000) (st en bu:Int) (wr:Bool) (wc:Int) :
  LnI (vO r n il w0_ hid tb tab wd) (lO p fr to) (rvT out) L i c st en bu wr wc (sfR c st c.length).1 (sfR c st c.length).2:=by
 refine lnIg (vO r n il w0_ hid tb tab wd) (lO p fr to) (rvT out) L i c hc st en bu wr wc (fun k o=>by kernel_rfl) (fun k hk st fo=>?_) (fun st fo=>l2XT r n il w0_ hid tb tab wd p fr to out L i c st en bu wr fo wc)
 unfold sfA
 by_cases q:kdOf c k = 5
 ·rw [if_pos q]
  have q3:(kdOf c k == 3) = false:=by rw [q];rfl
  rw [q3,Bool.or_false]
  cases fo with
  | true=>exact l2DT r n il w0_ hid tb tab wd p fr to out L hL i hi c ec hc k hk _ _ _ _ rfl q st en bu wr wc
  | false=>exact l2ET r n il w0_ hid tb tab wd p fr to out L hL i hi c ec hc k hk _ _ _ _ rfl q st en bu wr wc
 ·rw [if_neg q]
  cases fo with
  | true=>exact l2AT r n il w0_ hid tb tab wd p fr to out L hL i hi c ec hc k hk _ _ _ _ rfl q st en bu wr wc
  | false =>
   by_cases q3:kdOf c k = 3
   ·have:(false || kdOf c k == 3) = true:=by rw [q3];rfl
    rw [this];exact l2BT r n il w0_ hid tb tab wd p fr to out L hL i hi c ec hc k hk _ _ _ _ rfl q3 st en bu wr wc
   ·have:(false || kdOf c k == 3) = false:=by simp [q3]
    rw [this];exact l2CT r n il w0_ hid tb tab wd p fr to out L hL i hi c ec hc k hk _ _ _ _ rfl q q3 st en bu wr wc
def lnLpT_T:Prop:=∀ (r:List Int) (n:Int) (il:List Inl) (w0_:Int) (hid:List Span) (tb:D) (tab wd:Int) (p:List Part) (fr to:Int) (out:List Row) (L:List (List Cell)) (i:Nat) (c:List Cell) (st en bu:Int) (wr:Bool) (wc:Int) (st2:Int) (fo2:Bool) (h:LnI (vO r n il w0_ hid tb tab wd) (lO p fr to) (rvT out) L i c st en bu wr wc st2 fo2),Lp XR 0 (ntOf XR FLine) (lpKeep XR FLine 1) (lpBody XR FLine 1) 3 FUEL (stL2 (vO r n il w0_ hid tb tab wd) (lO p fr to) (rvT out) L i (IntKind.wrap .i64 ((c.length:Int) - 1)) (rO c st en bu wr false wc)) (.exit 2,stL2x (vO r n il w0_ hid tb tab wd) (lO p fr to) (rvT out) L i (-1) (rO c st2 en bu wr fo2 wc))
theorem lnLpT:lnLpT_T:=by unfold lnLpT_T;intros;rename_i h;exact h
theorem br0 (r:List Int) (hr:r.length≤100000) (k:Nat) (hk:k≤r.length) (r2:List Int) (e:r.take k = r2) (n:Int) (h:BrL r2 n):Ans XR FBr [.d (i32T.slD r),.d (.int .i64 (k:Int))] (.d (.int .i64 n)):=by
 exact pV 12 [(0,.v (V.d (Ty.slD i32T r2))),(2,.l (Ex.exit (0:Nat)) (stBrx r2 n (↑r2.length:Int)))] (cE (@brLp (r2) (n) h) (cP (@sliceRuneTo (r) (k) (by omega) hk (r2) e) nilE)) (by kernel_rfl) rfl rfl
theorem appendFullL {X:Ctx} {t u E:TypeId} {e:Ty} {i:TypeInfo} (hE:elemT X.P t = some E) (hu:(elemT X.P u).isSome = true) (hi:X.P.info? E = some i) (hsz:i.size = e.size) (h0:i.size ≠ 0) (hb:i.bytes≤4096) (hzz:(zeroT X.P E).any (fun z=>z.cells.length == i.size) = true)
  (hone:∀ x,(e.enc x).all D.one = true) {l m:List e.ty} {x:V} (hx:x.slice? = some (m.flatMap e.enc,m.length)) (hl:l.length < 2 ^ 33) (hm:m.length < 2 ^ 33) (hm0:m.length ≠ 0) :
  appendV X t u (.full (l.flatMap e.enc) l.length) x = some (e.tailV E (l ++ m)):=by
 have hs:srcOf X.P u x = some (m.flatMap e.enc,m.length):=by
  obtain ⟨e',he⟩:=Option.isSome_iff_exists.1 hu
  unfold elemT at he
  unfold srcOf
  split at he
  ·rename_i hu'
   rw [hu']
   exact hx
  ·cases he
 have hall:∀ m:List e.ty,(m.flatMap e.enc).all D.one = true:=by
  intro m
  rw [List.all_eq_true]
  intro d hd
  obtain ⟨y,_,hy⟩:=List.mem_flatMap.1 hd
  exact List.all_eq_true.1 (hone y) d hy
 unfold appendV
 have hi':(elemT X.P t).bind (X.P.info? ·) = some i:=by rw [hE];exact hi
 rw [hi',hs,hE]
 simp only
 rw [if_pos (by simp only [Bool.and_eq_true];exact ⟨⟨⟨by simp [h0],by simp [flat_len e.enc e.size e.enc_length,hsz]⟩,hall m⟩,hzz⟩)]
 rw [if_neg hm0,if_pos ⟨by rw [flat_len e.enc e.size e.enc_length,hsz],hall l⟩]
 have h1:(l.length + m.length) * i.bytes≤(2 ^ 34) * 4096:=Nat.mul_le_mul (by omega) hb
 rw [if_pos ⟨by simp only [bigLen];omega,by simp only [bigLen];omega⟩]
 simp [Ty.tailV,List.flatMap_append]
theorem appendRowL (x:Row) (m:List Row) (v:V) (hv:v.slice? = some (m.flatMap rowT.enc,m.length)) (hm:m.length≤1000000) (h0:m.length ≠ 0):appendV XR 26 26 (.full ([x].flatMap rowT.enc) [x].length) v = some (rowT.tailV 37 (x :: m)) :=
 appendFullL (e:=rowT) (E := 37) (i:=(XR.P.info? 37).getD default) (by kernel_rfl) (by kernel_rfl) (by kernel_rfl) (by kernel_rfl) (by decide +kernel) (by decide +kernel) (by kernel_rfl) (fun _=>rfl) (l:=[x]) (m:=m) hv (by simp) (by omega) h0
theorem appendRF:∀ (c:List Cell) (st en bu:Int) (wr fo:Bool) (wc:Int) (c0:List Cell) (s0 e0 b0:Int) (w0 f0:Bool) (d0:Int) (out2:List Row) (e:[R7 c st en bu wr fo wc,R7 c0 s0 e0 b0 w0 f0 d0] = out2),
 appendV XR 26 26 (.full [cellT.slD c,.int .i64 st,.int .i64 en,.int .i64 bu,.bool wr,.bool fo,.int .i64 wc] 1) (rvF c0 s0 e0 b0 w0 f0 d0) = some (rowT.tailV 37 out2):=fun c st en bu wr fo wc c0 s0 e0 b0 w0 f0 d0 out2 e=>by
 subst e;exact appendRowL (R7 c st en bu wr fo wc) [R7 c0 s0 e0 b0 w0 f0 d0] _ rfl (by simp) (by simp)
theorem appendRT:∀ (c:List Cell) (st en bu:Int) (wr fo:Bool) (wc:Int) (out:List Row) (ho:out.length≤1000000) (ho0:out.length ≠ 0) (out2:List Row) (e:R7 c st en bu wr fo wc :: out = out2),
 appendV XR 26 26 (.full [cellT.slD c,.int .i64 st,.int .i64 en,.int .i64 bu,.bool wr,.bool fo,.int .i64 wc] 1) (rvT out) = some (rowT.tailV 37 out2):=fun c st en bu wr fo wc out ho ho0 out2 e=>by
 subst e;exact appendRowL (R7 c st en bu wr fo wc) out _ rfl (by omega) ho0
theorem brks:∀ (r:List Int) (hr:r.length≤100000) (a:Int) (ha0:0≤a) (ha1:a≤r.length) (n:Int) (e:brk (r.take a.toNat) = n),Ans XR FBr [.d (i32T.slD r),.d (.int .i64 a)] (.d (.int .i64 n)):=fun r hr a ha0 ha1 n e=>by
 subst e
 have h:=br0 r hr a.toNat (by omega) _ rfl _ (brL (r.take a.toNat) (by rw [List.length_take];omega))
 rwa [Int.toNat_of_nonneg ha0] at h
theorem iaddrRow0:∀ (l:List Row) (hi:0 < l.length),iaddrV XR 26 (rvT l) (.d (.int .i64 0)) = some (.d (.ref (l.flatMap rowT.enc) 0)):=fun l hi=>by
 have:=iaddrSl (X:=XR) (t := 26) (te := 37) (z:=7) (c:=l.flatMap rowT.enc) (n:=l.length) (K:=.i64) (i:=0) (by kernel_rfl) (by kernel_rfl) (by omega) (by omega) (flat_len _ 7 (Ty.enc_length rowT) l)
 exact this
abbrev stLnx (o1 o2:Ob) (ov:V) (L:List (List Cell)) (i:Int):St:=⟨[(2,.obj 0 0),(3,.obj 1 0),(5,ov),(6,.d (rowsT.slD L)),(7,.d (.int .i64 i)),(26,.d (.bool false))],[o1,o2],[]⟩
theorem loadRowSt:∀ (l:List Row) (h:List Ob) (hk:0 < l.length) (c0:List Cell) (s0 e0 b0:Int) (w0 f0:Bool) (d0:Int) (e:rowT.nth l 0 = R7 c0 s0 e0 b0 w0 f0 d0),loadV XR h 3 (.d (.ref (l.flatMap rowT.enc) (0 + 1))) = some (.d (.int .i64 s0)):=fun l h hk c0 s0 e0 b0 w0 f0 d0 e=>by
 have:=Pv.loadCell (X:=XR) (h:=h) (t := 3) (e:=rowT) (z1:=1) (k:=0) (o:=1) (by kernel_rfl) (by kernel_rfl) hk (show 1 < 7 by omega)
 rw [e] at this
 exact this
theorem lnE (r:List Int) (hrl:r.length≤100000) (n:Int) (il:List Inl) (w0_:Int) (hid:List Span) (tb:D) (tab wd:Int) (p:List Part) (fr to:Int) (L:List (List Cell)) (hL:L.length≤1000000) (i:Nat) (hi:i < L.length) (c:List Cell) (ec:rowsT.nth L i = c) (hc:c.length≤100000) (hw:WOk c) (wc:Int) (ew:widthC c = wc) (st2:Int) (fo2:Bool) (h:LnI (vO r n il w0_ hid tb tab wd) (lO p fr to) rvE L i c fr to 0 (decide ((i:Int) > 0)) wc st2 fo2) (hs0:0≤st2) (hs1:st2≤r.length) (bu:Int) (eb:brk (r.take st2.toNat) = bu):RdC XR 0 (ntOf XR FLine) (lpKeep XR FLine 0) (lpBody XR FLine 0) 2 (stLn (vO r n il w0_ hid tb tab wd) (lO p fr to) rvE L i) (stLn (vO r n il w0_ hid tb tab wd) (lO p fr to) (rvF c st2 to bu (decide ((i:Int) > 0)) fo2 wc) L ((i:Int) - 1)):=by
 exact (pC (st':={ s:=[(2,(zo 0 0)),(3,(zo 1 0)),(5,(V.full [(zd cellT c),(zi st2),(zi to),(zi bu),(D.bool (decide ((↑i:Int) > (0:Int)))),(D.bool fo2),(zi wc)] 1)),(6,(zs rowsT L)),(7,(zv (zw ((↑i:Int) - (1:Int)))))],h:=[(zc [(zs i32T r),(zv n),(zs inlT il),(zv w0_),(zs spanT hid),(V.d tb),(zv tab),(zv wd)]),(zc [(zs partT p),(zv fr),(zv to)])],og:=[] }) 12 [(2,.v (V.d (D.ref (List.flatMap (Ty.enc rowsT) L) (i * 1)))),(3,.v (V.d (Ty.slD cellT c))),(7,.v (V.d (D.ref (List.flatMap (Ty.enc rowsT) L) (i * 1)))),(8,.v (V.d (Ty.slD cellT c))),(9,.v (zv wc)),(10,.v (V.d (D.ref (List.flatMap (Ty.enc rowsT) L) (i * 1)))),(11,.v (V.d (Ty.slD cellT c))),(14,.l (Ex.exit 2) (stL2x (vO r n il w0_ hid tb tab wd) (lO p fr to) rvE L (↑i:Int) ((-1):Int) (rO c st2 to (0:Int) (decide ((↑i:Int) > (0:Int))) fo2 wc))),(17,.v (zv bu))] (cC (@brks (r) hrl (st2) hs0 hs1 (bu) eb) (cE (@lnLpE (r) (n) (il) (w0_) (hid) (tb) (tab) (wd) (p) (fr) (to) (L) (i) (c) (fr) (to) ((0:Int)) (decide ((↑i:Int) > (0:Int))) (wc) (st2) (fo2) h) (cP (@loadRw (L) ([(zc [(zs i32T r),(zv n),(zs inlT il),(zv w0_),(zs spanT hid),(V.d tb),(zv tab),(zv wd)]),(zc [(zs partT p),(zv fr),(zv to)]),(zc [(zs cellT c),(zv fr),(zv to),(zv 0),(zb (decide ((↑i:Int) > (0:Int)))),(zb false),(zv wc)])]) (i) hi (c) ec) (cP (@iaddrRw (L) (i) hi) (cC (@width (c) (by omega) hw (wc) ew) (cP (@loadRw (L) ([(zc [(zs i32T r),(zv n),(zs inlT il),(zv w0_),(zs spanT hid),(V.d tb),(zv tab),(zv wd)]),(zc [(zs partT p),(zv fr),(zv to)])]) (i) hi (c) ec) (cP (@iaddrRw (L) (i) hi) (cP (@loadRw (L) ([(zc [(zs i32T r),(zv n),(zs inlT il),(zv w0_),(zs spanT hid),(V.d tb),(zv tab),(zv wd)]),(zc [(zs partT p),(zv fr),(zv to)])]) (i) hi (c) ec) (cP (@iaddrRw (L) (i) hi) nilE))))))))) (by kernel_rfl)).to (by simp (disch:=omega) [wrapId, *])
theorem lnF (r:List Int) (hrl:r.length≤100000) (n:Int) (il:List Inl) (w0_:Int) (hid:List Span) (tb:D) (tab wd:Int) (p:List Part) (fr to:Int) (c0:List Cell) (s0 e0 b0:Int) (w0 f0:Bool) (d0:Int) (L:List (List Cell)) (hL:L.length≤1000000) (i:Nat) (hi:i < L.length) (c:List Cell) (ec:rowsT.nth L i = c) (hc:c.length≤100000) (hw:WOk c) (wc:Int) (ew:widthC c = wc) (st2:Int) (fo2:Bool) (h:LnI (vO r n il w0_ hid tb tab wd) (lO p fr to) (rvF c0 s0 e0 b0 w0 f0 d0) L i c fr to 0 (decide ((i:Int) > 0)) wc st2 fo2) (hs0:0≤st2) (hs1:st2≤r.length) (bu:Int) (eb:brk (r.take st2.toNat) = bu) (out2:List Row) (eo:[R7 c st2 s0 bu (decide ((i:Int) > 0)) fo2 wc,R7 c0 s0 e0 b0 w0 f0 d0] = out2):RdC XR 0 (ntOf XR FLine) (lpKeep XR FLine 0) (lpBody XR FLine 0) 2 (stLn (vO r n il w0_ hid tb tab wd) (lO p fr to) (rvF c0 s0 e0 b0 w0 f0 d0) L i) (stLn (vO r n il w0_ hid tb tab wd) (lO p fr to) (rvT out2) L ((i:Int) - 1)):=by
 exact (pC (st':={ s:=[(2,(zo 0 0)),(3,(zo 1 0)),(5,(zs rowT out2)),(6,(zs rowsT L)),(7,(zv (zw ((↑i:Int) - (1:Int)))))],h:=[(zc [(zs i32T r),(zv n),(zs inlT il),(zv w0_),(zs spanT hid),(V.d tb),(zv tab),(zv wd)]),(zc [(zs partT p),(zv fr),(zv to)])],og:=[] }) 12 [(2,.v (V.d (D.ref (List.flatMap (Ty.enc rowsT) L) (i * 1)))),(3,.v (V.d (Ty.slD cellT c))),(7,.v (V.d (D.ref (List.flatMap (Ty.enc rowsT) L) (i * 1)))),(8,.v (V.d (Ty.slD cellT c))),(9,.v (zv wc)),(10,.v (V.d (D.ref (List.flatMap (Ty.enc rowsT) L) (i * 1)))),(11,.v (V.d (Ty.slD cellT c))),(14,.l (Ex.exit 2) (stL2x (vO r n il w0_ hid tb tab wd) (lO p fr to) (rvF c0 s0 e0 b0 w0 f0 d0) L (↑i:Int) ((-1):Int) (rO c st2 to (0:Int) (decide ((↑i:Int) > (0:Int))) fo2 wc))),(17,.v (zv bu)),(24,.v (Ty.tailV rowT (37 : TypeId) out2))] (cP (@appendRF (c) (st2) (s0) (bu) (decide ((↑i:Int) > (0:Int))) (fo2) (wc) (c0) (s0) (e0) (b0) (w0) (f0) (d0) (out2) eo) (cC (@brks (r) hrl (st2) hs0 hs1 (bu) eb) (cE (@lnLpF (r) (n) (il) (w0_) (hid) (tb) (tab) (wd) (p) (fr) (to) (c0) (s0) (e0) (b0) (w0) (f0) (d0) (L) (i) (c) (fr) (to) ((0:Int)) (decide ((↑i:Int) > (0:Int))) (wc) (st2) (fo2) h) (cP (@loadRw (L) ([(zc [(zs i32T r),(zv n),(zs inlT il),(zv w0_),(zs spanT hid),(V.d tb),(zv tab),(zv wd)]),(zc [(zs partT p),(zv fr),(zv to)]),(zc [(zs cellT c),(zv fr),(zv to),(zv 0),(zb (decide ((↑i:Int) > (0:Int)))),(zb false),(zv wc)])]) (i) hi (c) ec) (cP (@iaddrRw (L) (i) hi) (cC (@width (c) (by omega) hw (wc) ew) (cP (@loadRw (L) ([(zc [(zs i32T r),(zv n),(zs inlT il),(zv w0_),(zs spanT hid),(V.d tb),(zv tab),(zv wd)]),(zc [(zs partT p),(zv fr),(zv to)])]) (i) hi (c) ec) (cP (@iaddrRw (L) (i) hi) (cP (@loadRw (L) ([(zc [(zs i32T r),(zv n),(zs inlT il),(zv w0_),(zs spanT hid),(V.d tb),(zv tab),(zv wd)]),(zc [(zs partT p),(zv fr),(zv to)])]) (i) hi (c) ec) (cP (@iaddrRw (L) (i) hi) nilE)))))))))) (by kernel_rfl)).to (by simp (disch:=omega) [wrapId, *])
theorem lnT (r:List Int) (hrl:r.length≤100000) (n:Int) (il:List Inl) (w0_:Int) (hid:List Span) (tb:D) (tab wd:Int) (p:List Part) (fr to:Int) (out:List Row) (ho:out.length≤1000000) (ho0:0 < out.length) (c0:List Cell) (s0 e0 b0:Int) (w0 f0:Bool) (d0:Int) (e0r:rowT.nth out 0 = R7 c0 s0 e0 b0 w0 f0 d0) (L:List (List Cell)) (hL:L.length≤1000000) (i:Nat) (hi:i < L.length) (c:List Cell) (ec:rowsT.nth L i = c) (hc:c.length≤100000) (hw:WOk c) (wc:Int) (ew:widthC c = wc) (st2:Int) (fo2:Bool) (h:LnI (vO r n il w0_ hid tb tab wd) (lO p fr to) (rvT out) L i c fr to 0 (decide ((i:Int) > 0)) wc st2 fo2) (hs0:0≤st2) (hs1:st2≤r.length) (bu:Int) (eb:brk (r.take st2.toNat) = bu) (out2:List Row) (eo:R7 c st2 s0 bu (decide ((i:Int) > 0)) fo2 wc :: out = out2):RdC XR 0 (ntOf XR FLine) (lpKeep XR FLine 0) (lpBody XR FLine 0) 2 (stLn (vO r n il w0_ hid tb tab wd) (lO p fr to) (rvT out) L i) (stLn (vO r n il w0_ hid tb tab wd) (lO p fr to) (rvT out2) L ((i:Int) - 1)):=by
 have hx0:(decide ((↑out.length:Int) > (0:Int))) = true:=decide_eq_true (by omega)
 exact (pC (st':={ s:=[(2,(zo 0 0)),(3,(zo 1 0)),(5,(zs rowT out2)),(6,(zs rowsT L)),(7,(zv (zw ((↑i:Int) - (1:Int)))))],h:=[(zc [(zs i32T r),(zv n),(zs inlT il),(zv w0_),(zs spanT hid),(V.d tb),(zv tab),(zv wd)]),(zc [(zs partT p),(zv fr),(zv to)])],og:=[] }) 12 [(2,.v (V.d (D.ref (List.flatMap (Ty.enc rowsT) L) (i * 1)))),(3,.v (V.d (Ty.slD cellT c))),(7,.v (V.d (D.ref (List.flatMap (Ty.enc rowsT) L) (i * 1)))),(8,.v (V.d (Ty.slD cellT c))),(9,.v (zv wc)),(10,.v (V.d (D.ref (List.flatMap (Ty.enc rowsT) L) (i * 1)))),(11,.v (V.d (Ty.slD cellT c))),(14,.l (Ex.exit 2) (stL2x (vO r n il w0_ hid tb tab wd) (lO p fr to) (rvT out) L (↑i:Int) ((-1):Int) (rO c st2 to (0:Int) (decide ((↑i:Int) > (0:Int))) fo2 wc))),(17,.v (zv bu)),(20,bt),(21,.v (V.d (D.ref (List.flatMap (Ty.enc rowT) out) 0))),(22,.v (zv s0)),(24,.v (Ty.tailV rowT (37 : TypeId) out2))] (cP (@appendRT (c) (st2) (s0) (bu) (decide ((↑i:Int) > (0:Int))) (fo2) (wc) (out) ho (by omega) (out2) eo) (cP (@loadRowSt (out) ([(zc [(zs i32T r),(zv n),(zs inlT il),(zv w0_),(zs spanT hid),(V.d tb),(zv tab),(zv wd)]),(zc [(zs partT p),(zv fr),(zv to)]),(zc [(zs cellT c),(zv st2),(zv to),(zv bu),(zb (decide ((↑i:Int) > (0:Int)))),(zb fo2),(zv wc)])]) ho0 (c0) (s0) (e0) (b0) (w0) (f0) (d0) e0r) (cP (@iaddrRow0 (out) ho0) (cP hx0 (cC (@brks (r) hrl (st2) hs0 hs1 (bu) eb) (cE (@lnLpT (r) (n) (il) (w0_) (hid) (tb) (tab) (wd) (p) (fr) (to) (out) (L) (i) (c) (fr) (to) ((0:Int)) (decide ((↑i:Int) > (0:Int))) (wc) (st2) (fo2) h) (cP (@loadRw (L) ([(zc [(zs i32T r),(zv n),(zs inlT il),(zv w0_),(zs spanT hid),(V.d tb),(zv tab),(zv wd)]),(zc [(zs partT p),(zv fr),(zv to)]),(zc [(zs cellT c),(zv fr),(zv to),(zv 0),(zb (decide ((↑i:Int) > (0:Int)))),(zb false),(zv wc)])]) (i) hi (c) ec) (cP (@iaddrRw (L) (i) hi) (cC (@width (c) (by omega) hw (wc) ew) (cP (@loadRw (L) ([(zc [(zs i32T r),(zv n),(zs inlT il),(zv w0_),(zs spanT hid),(V.d tb),(zv tab),(zv wd)]),(zc [(zs partT p),(zv fr),(zv to)])]) (i) hi (c) ec) (cP (@iaddrRw (L) (i) hi) (cP (@loadRw (L) ([(zc [(zs i32T r),(zv n),(zs inlT il),(zv w0_),(zs spanT hid),(V.d tb),(zv tab),(zv wd)]),(zc [(zs partT p),(zv fr),(zv to)])]) (i) hi (c) ec) (cP (@iaddrRw (L) (i) hi) nilE))))))))))))) (by kernel_rfl)).to (by simp (disch:=omega) [wrapId, *])
theorem lnXE (r:List Int) (hrl:r.length≤100000) (n:Int) (il:List Inl) (w0_:Int) (hid:List Span) (tb:D) (tab wd:Int) (p:List Part) (fr to:Int) (L:List (List Cell)):Rd XR 0 (ntOf XR FLine) (lpBody XR FLine 0) (stLn (vO r n il w0_ hid tb tab wd) (lO p fr to) rvE L (-1)) (.exit 0,stLnx (vO r n il w0_ hid tb tab wd) (lO p fr to) rvE L (-1)):=by
 exact pR 12 [] nilE (by kernel_rfl)
theorem lnXF (r:List Int) (hrl:r.length≤100000) (n:Int) (il:List Inl) (w0_:Int) (hid:List Span) (tb:D) (tab wd:Int) (p:List Part) (fr to:Int) (c0:List Cell) (s0 e0 b0:Int) (w0 f0:Bool) (d0:Int) (L:List (List Cell)):Rd XR 0 (ntOf XR FLine) (lpBody XR FLine 0) (stLn (vO r n il w0_ hid tb tab wd) (lO p fr to) (rvF c0 s0 e0 b0 w0 f0 d0) L (-1)) (.exit 0,stLnx (vO r n il w0_ hid tb tab wd) (lO p fr to) (rvF c0 s0 e0 b0 w0 f0 d0) L (-1)):=by
 exact pR 12 [] nilE (by kernel_rfl)
theorem lnXT (r:List Int) (hrl:r.length≤100000) (n:Int) (il:List Inl) (w0_:Int) (hid:List Span) (tb:D) (tab wd:Int) (p:List Part) (fr to:Int) (out:List Row) (L:List (List Cell)):Rd XR 0 (ntOf XR FLine) (lpBody XR FLine 0) (stLn (vO r n il w0_ hid tb tab wd) (lO p fr to) (rvT out) L (-1)) (.exit 0,stLnx (vO r n il w0_ hid tb tab wd) (lO p fr to) (rvT out) L (-1)):=by
 exact pR 12 [] nilE (by kernel_rfl)
def stOf (c:List Cell) (fr:Int):Int:=(sfR c fr c.length).1
def foOf (c:List Cell) (fr:Int):Bool:=(sfR c fr c.length).2
def rowR (r:List Int) (fr en:Int) (L:List (List Cell)) (i:Nat):Row :=
 R7 (rowsT.nth L i) (stOf (rowsT.nth L i) fr) en (brk (r.take (stOf (rowsT.nth L i) fr).toNat)) (decide ((i:Int) > 0)) (foOf (rowsT.nth L i) fr) (widthC (rowsT.nth L i))
def endOf (to:Int):List Row→Int
 | []=>to
 | x :: _=>x.2.1
def rowsR (r:List Int) (fr to:Int) (L:List (List Cell)):Nat→List Row
 | 0=>[]
 | j + 1=>rowR r fr (endOf to (rowsR r fr to L j)) L (L.length - 1 - j) :: rowsR r fr to L j
theorem rowsR_len (r:List Int) (fr to:Int) (L:List (List Cell)):∀ j,(rowsR r fr to L j).length = j
 | 0=>rfl
 | j + 1=>by show (rowsR r fr to L j).length + 1 = j + 1;rw [rowsR_len r fr to L j]
def ovA:List Row→V
 | []=>rvE
 | [x]=>rvF x.1 x.2.1 x.2.2.1 x.2.2.2.1 x.2.2.2.2.1 x.2.2.2.2.2.1 x.2.2.2.2.2.2.1
 | x :: y :: l=>rvT (x :: y :: l)
def LinesOk (r:List Int) (fr:Int) (L:List (List Cell)):Prop:=L.length≤100000∧∀ c ∈ L,WOk c∧c.length≤100000∧0≤stOf c fr∧stOf c fr≤r.length
def LnL (r:List Int) (n:Int) (il:List Inl) (w0_:Int) (hid:List Span) (tb:D) (tab wd:Int) (p:List Part) (fr to:Int) (L:List (List Cell)) (rv:V):Prop :=
 Lp XR 0 (ntOf XR FLine) (lpKeep XR FLine 0) (lpBody XR FLine 0) 2 FUEL (stLn (vO r n il w0_ hid tb tab wd) (lO p fr to) rvE L (IntKind.wrap .i64 ((L.length:Int) - 1))) (.exit 0,stLnx (vO r n il w0_ hid tb tab wd) (lO p fr to) rv L (-1))
theorem lnX (r:List Int) (n:Int) (il:List Inl) (w0_:Int) (hid:List Span) (tb:D) (tab wd:Int) (p:List Part) (fr to:Int) (hrl:r.length≤100000) (L:List (List Cell)) (l:List Row):Rd XR 0 (ntOf XR FLine) (lpBody XR FLine 0) (stLn (vO r n il w0_ hid tb tab wd) (lO p fr to) (ovA l) L (-1)) (.exit 0,stLnx (vO r n il w0_ hid tb tab wd) (lO p fr to) (ovA l) L (-1)):=by
 match l with
 | []=>exact lnXE r hrl n il w0_ hid tb tab wd p fr to L
 | [x]=>exact lnXF r hrl n il w0_ hid tb tab wd p fr to _ _ _ _ _ _ _ L
 | x :: y :: l=>exact lnXT r hrl n il w0_ hid tb tab wd p fr to _ L
theorem lnL (r:List Int) (n:Int) (il:List Inl) (w0_:Int) (hid:List Span) (tb:D) (tab wd:Int) (p:List Part) (fr to:Int) (hrl:r.length≤100000) (L:List (List Cell)) (h:LinesOk r fr L):LnL r n il w0_ hid tb tab wd p fr to L (ovA (rowsR r fr to L L.length)):=by
 unfold LnL
 have hl:=h.1
 rw [show IntKind.wrap .i64 ((L.length:Int) - 1) = (L.length:Int) - 1 - ((0:Nat):Int) by rw [wrapId _ (by omega) (by omega)];omega]
 refine Lp.run (fun j=>stLn (vO r n il w0_ hid tb tab wd) (lO p fr to) (ovA (rowsR r fr to L j)) L ((L.length:Int) - 1 - ((j:Nat):Int))) L.length (by omega) (by kernel_rfl) (fun j hj=>?_) ?_ (by simp)
 ·show RdC XR 0 (ntOf XR FLine) (lpKeep XR FLine 0) (lpBody XR FLine 0) 2 (stLn (vO r n il w0_ hid tb tab wd) (lO p fr to) (ovA (rowsR r fr to L j)) L ((L.length:Int) - 1 - ((j:Nat):Int))) (stLn (vO r n il w0_ hid tb tab wd) (lO p fr to) (ovA (rowR r fr (endOf to (rowsR r fr to L j)) L (L.length - 1 - j) :: rowsR r fr to L j)) L ((L.length:Int) - 1 - ((j + 1:Nat):Int)))
  have hi:L.length - 1 - j < L.length:=by omega
  have e1:(L.length:Int) - 1 - (j:Int) = ((L.length - 1 - j:Nat):Int):=by omega
  have e2:(L.length:Int) - 1 - ((j + 1:Nat):Int) = ((L.length - 1 - j:Nat):Int) - 1:=by omega
  rw [e1,e2]
  have hlen:=rowsR_len r fr to L j
  obtain ⟨k1,k2,k3,k4⟩:=h.2 (rowsT.nth L (L.length - 1 - j)) (by rw [nth_get (e:=rowsT) hi];exact List.getElem_mem hi)
  generalize rowsR r fr to L j = l at hlen
  match l,hlen with
  | [],hlen=>exact lnE r hrl n il w0_ hid tb tab wd p fr to L (by omega) (L.length - 1 - j) hi _ rfl k2 k1 _ rfl _ _ (lnIE r n il w0_ hid tb tab wd p fr to L (by omega) (L.length - 1 - j) hi _ rfl k2 fr to 0 _ _) k3 k4 _ rfl
  | [x],hlen=>exact lnF r hrl n il w0_ hid tb tab wd p fr to _ _ _ _ _ _ _ L (by omega) (L.length - 1 - j) hi _ rfl k2 k1 _ rfl _ _ (lnIF r n il w0_ hid tb tab wd p fr to _ _ _ _ _ _ _ L (by omega) (L.length - 1 - j) hi _ rfl k2 fr to 0 _ _) k3 k4 _ rfl _ rfl
  | x :: y :: l,hlen=>exact lnT r hrl n il w0_ hid tb tab wd p fr to (x :: y :: l) (by rw [hlen];omega) (by simp) _ _ _ _ _ _ _ rfl L (by omega) (L.length - 1 - j) hi _ rfl k2 k1 _ rfl _ _ (lnIT r n il w0_ hid tb tab wd p fr to _ L (by omega) (L.length - 1 - j) hi _ rfl k2 fr to 0 _ _) k3 k4 _ rfl _ rfl
 ·have e3:(L.length:Int) - 1 - ((L.length:Nat):Int) = -1:=by omega
  show Rd XR 0 (ntOf XR FLine) (lpBody XR FLine 0) (stLn (vO r n il w0_ hid tb tab wd) (lO p fr to) (ovA (rowsR r fr to L L.length)) L ((L.length:Int) - 1 - ((L.length:Nat):Int))) _
  rw [e3]
  exact lnX r n il w0_ hid tb tab wd p fr to hrl L _
def lnLqF_T:Prop:=∀ (r:List Int) (n:Int) (il:List Inl) (w0_:Int) (hid:List Span) (tb:D) (tab wd:Int) (p:List Part) (fr to:Int) (L:List (List Cell)) (c0:List Cell) (s0 e0 b0:Int) (w0 f0:Bool) (d0:Int) (h:LnL r n il w0_ hid tb tab wd p fr to L (rvF c0 s0 e0 b0 w0 f0 d0)),Lp XR 0 (ntOf XR FLine) (lpKeep XR FLine 0) (lpBody XR FLine 0) 2 FUEL (stLn (vO r n il w0_ hid tb tab wd) (lO p fr to) rvE L (IntKind.wrap .i64 ((L.length:Int) - 1))) (.exit 0,stLnx (vO r n il w0_ hid tb tab wd) (lO p fr to) (rvF c0 s0 e0 b0 w0 f0 d0) L (-1))
theorem lnLqF:lnLqF_T:=by unfold lnLqF_T;intros;rename_i h;exact h
def lnLqT_T:Prop:=∀ (r:List Int) (n:Int) (il:List Inl) (w0_:Int) (hid:List Span) (tb:D) (tab wd:Int) (p:List Part) (fr to:Int) (L:List (List Cell)) (out:List Row) (h:LnL r n il w0_ hid tb tab wd p fr to L (rvT out)),Lp XR 0 (ntOf XR FLine) (lpKeep XR FLine 0) (lpBody XR FLine 0) 2 FUEL (stLn (vO r n il w0_ hid tb tab wd) (lO p fr to) rvE L (IntKind.wrap .i64 ((L.length:Int) - 1))) (.exit 0,stLnx (vO r n il w0_ hid tb tab wd) (lO p fr to) (rvT out) L (-1))
theorem lnLqT:lnLqT_T:=by unfold lnLqT_T;intros;rename_i h;exact h
theorem lnAF (r:List Int) (n:Int) (il:List Inl) (w0_:Int) (hid:List Span) (zl wl:List Rng) (hz:zl.length≤1000) (hwl:wl.length≤1000) (tab:Int) (t1:1≤tab) (t2:tab≤16) (wd:Int) (hwd0:0≤wd) (hwd1:wd≤200) (p:List Part) (fr to:Int) (hl:p.length≤10000) (hr:(runesA p).length≤50000) (hp:∀ x ∈ p,(-100000000:Int)≤x.2.1∧(x.2.1:Int)≤100000000) (cs:List Cell) (e:cellsOf zl wl tab p = cs) (hcs:cs.length≤100000) (hwo:WOk cs) (L:List (List Cell)) (eL:rowsOf cs wd = L) (c0:List Cell) (s0 e0 b0:Int) (w0 f0:Bool) (d0:Int) (h:LnL r n il w0_ hid (tabD zl wl) tab wd p fr to L (rvF c0 s0 e0 b0 w0 f0 d0)):Ans XR FLine [.d (.agg (viewL r n il w0_ hid zl wl tab wd)),.d (.agg [partT.slD p,.int .i64 fr,.int .i64 to])] (rvF c0 s0 e0 b0 w0 f0 d0):=by
 exact pV 12 [(3,.v (V.d (Ty.slD cellT cs))),(5,.v (V.d (Ty.slD rowsT L))),(8,.l (Ex.exit (0:Nat)) (stLnx (vO r n il w0_ hid (D.ref [(D.sl (List.flatMap (Ty.enc rngT) zl) zl.length),(D.sl (List.flatMap (Ty.enc rngT) wl) wl.length)] (nat_lit 0)) tab wd) (lO p fr to) (rvF c0 s0 e0 b0 w0 f0 d0) L ((-1):Int)))] (cE (@lnLqF (r) (n) (il) (w0_) (hid) (D.ref [(D.sl (List.flatMap (Ty.enc rngT) zl) zl.length),(D.sl (List.flatMap (Ty.enc rngT) wl) wl.length)] (nat_lit 0)) (tab) (wd) (p) (fr) (to) (L) (c0) (s0) (e0) (b0) (w0) (f0) (d0) h) (cC (@rows20 (cs) hcs hwo (wd) hwd0 hwd1 (L) eL) (cC (@ofC (zl) (wl) hz hwl (tab) t1 t2 (p) hl hr hp (cs) e) nilE))) (by kernel_rfl) rfl rfl
theorem lnAT (r:List Int) (n:Int) (il:List Inl) (w0_:Int) (hid:List Span) (zl wl:List Rng) (hz:zl.length≤1000) (hwl:wl.length≤1000) (tab:Int) (t1:1≤tab) (t2:tab≤16) (wd:Int) (hwd0:0≤wd) (hwd1:wd≤200) (p:List Part) (fr to:Int) (hl:p.length≤10000) (hr:(runesA p).length≤50000) (hp:∀ x ∈ p,(-100000000:Int)≤x.2.1∧(x.2.1:Int)≤100000000) (cs:List Cell) (e:cellsOf zl wl tab p = cs) (hcs:cs.length≤100000) (hwo:WOk cs) (L:List (List Cell)) (eL:rowsOf cs wd = L) (out:List Row) (h:LnL r n il w0_ hid (tabD zl wl) tab wd p fr to L (rvT out)):Ans XR FLine [.d (.agg (viewL r n il w0_ hid zl wl tab wd)),.d (.agg [partT.slD p,.int .i64 fr,.int .i64 to])] (rvT out):=by
 exact pV 12 [(3,.v (V.d (Ty.slD cellT cs))),(5,.v (V.d (Ty.slD rowsT L))),(8,.l (Ex.exit (0:Nat)) (stLnx (vO r n il w0_ hid (D.ref [(D.sl (List.flatMap (Ty.enc rngT) zl) zl.length),(D.sl (List.flatMap (Ty.enc rngT) wl) wl.length)] (nat_lit 0)) tab wd) (lO p fr to) (rvT out) L ((-1):Int)))] (cE (@lnLqT (r) (n) (il) (w0_) (hid) (D.ref [(D.sl (List.flatMap (Ty.enc rngT) zl) zl.length),(D.sl (List.flatMap (Ty.enc rngT) wl) wl.length)] (nat_lit 0)) (tab) (wd) (p) (fr) (to) (L) (out) h) (cC (@rows20 (cs) hcs hwo (wd) hwd0 hwd1 (L) eL) (cC (@ofC (zl) (wl) hz hwl (tab) t1 t2 (p) hl hr hp (cs) e) nilE))) (by kernel_rfl) rfl rfl
def lineRows (r:List Int) (zl wl:List Rng) (tab wd:Int) (p:List Part) (fr to:Int):List Row:=rowsR r fr to (rowsOf (cellsOf zl wl tab p) wd) (rowsOf (cellsOf zl wl tab p) wd).length
structure LnOk (r:List Int) (zl wl:List Rng) (tab wd:Int) (p:List Part) (fr:Int):Prop where
 hl:p.length≤10000
 hr:(runesA p).length≤50000
 hp:∀ x ∈ p,(-100000000:Int)≤x.2.1∧(x.2.1:Int)≤100000000
 hcs:(cellsOf zl wl tab p).length≤100000
 hwo:WOk (cellsOf zl wl tab p)
 hL:LinesOk r fr (rowsOf (cellsOf zl wl tab p) wd)
 hrl:r.length≤100000
theorem lnRF:∀ (r:List Int) (n:Int) (il:List Inl) (w0_:Int) (hid:List Span) (zl wl:List Rng) (hz:zl.length≤1000) (hwl:wl.length≤1000) (tab:Int) (t1:1≤tab) (t2:tab≤16) (wd:Int) (hwd0:0≤wd) (hwd1:wd≤200) (p:List Part) (fr to:Int) (hk:LnOk r zl wl tab wd p fr) (c0:List Cell) (s0 e0 b0:Int) (w0 f0:Bool) (d0:Int) (e:lineRows r zl wl tab wd p fr to = [R7 c0 s0 e0 b0 w0 f0 d0]),
 Ans XR FLine [.d (.agg (viewL r n il w0_ hid zl wl tab wd)),.d (.agg [partT.slD p,.int .i64 fr,.int .i64 to])] (rvF c0 s0 e0 b0 w0 f0 d0):=fun r n il w0_ hid zl wl hz hwl tab t1 t2 wd hwd0 hwd1 p fr to hk c0 s0 e0 b0 w0 f0 d0 e=>by
 have h:=lnL r n il w0_ hid (tabD zl wl) tab wd p fr to hk.hrl _ hk.hL
 unfold lineRows at e
 rw [e] at h
 exact lnAF r n il w0_ hid zl wl hz hwl tab t1 t2 wd hwd0 hwd1 p fr to hk.hl hk.hr hk.hp _ rfl hk.hcs hk.hwo _ rfl _ _ _ _ _ _ _ h
theorem lnRT:∀ (r:List Int) (n:Int) (il:List Inl) (w0_:Int) (hid:List Span) (zl wl:List Rng) (hz:zl.length≤1000) (hwl:wl.length≤1000) (tab:Int) (t1:1≤tab) (t2:tab≤16) (wd:Int) (hwd0:0≤wd) (hwd1:wd≤200) (p:List Part) (fr to:Int) (hk:LnOk r zl wl tab wd p fr) (out:List Row) (e:lineRows r zl wl tab wd p fr to = out) (h2:2≤out.length),
 Ans XR FLine [.d (.agg (viewL r n il w0_ hid zl wl tab wd)),.d (.agg [partT.slD p,.int .i64 fr,.int .i64 to])] (rvT out):=fun r n il w0_ hid zl wl hz hwl tab t1 t2 wd hwd0 hwd1 p fr to hk out e h2=>by
 have h:=lnL r n il w0_ hid (tabD zl wl) tab wd p fr to hk.hrl _ hk.hL
 unfold lineRows at e
 rw [e] at h
 match out,h2 with
 | x :: y :: out,_=>exact lnAT r n il w0_ hid zl wl hz hwl tab t1 t2 wd hwd0 hwd1 p fr to hk.hl hk.hr hk.hp _ rfl hk.hcs hk.hwo _ rfl _ h
abbrev FVRows:FuncId := 27
theorem appRowsG (l m:List Row) (v:V) (hv:v.slice? = some (m.flatMap rowT.enc,m.length)) (hl:l.length≤10000000) (hm:m.length≤10000000):appendV XR 26 26 (rowT.tailV 37 l) v = some (rowT.tailV 37 (l ++ m)) :=
 appendList (e:=rowT) (E := 37) (i:=(XR.P.info? 37).getD default) (by kernel_rfl) (by kernel_rfl) (by kernel_rfl) (by kernel_rfl) (by decide +kernel) (by decide +kernel) (by kernel_rfl) (fun _=>rfl) hv (by omega) (by omega)
theorem appRowsT:∀ (l m:List Row) (hl:l.length≤10000000) (hm:m.length≤10000000) (l2:List Row) (e:l ++ m = l2),appendV XR 26 26 (rowT.tailV 37 l) (rvT m) = some (rowT.tailV 37 l2):=fun l m hl hm l2 e=>by subst e;exact appRowsG l m _ rfl hl hm
theorem appRowsF:∀ (l:List Row) (hl:l.length≤10000000) (c0:List Cell) (s0 e0 b0:Int) (w0 f0:Bool) (d0:Int) (l2:List Row) (e:l ++ [R7 c0 s0 e0 b0 w0 f0 d0] = l2),appendV XR 26 26 (rowT.tailV 37 l) (rvF c0 s0 e0 b0 w0 f0 d0) = some (rowT.tailV 37 l2):=fun l hl c0 s0 e0 b0 w0 f0 d0 l2 e=>by subst e;exact appRowsG l [R7 c0 s0 e0 b0 w0 f0 d0] _ rfl hl (by simp)
theorem appRowsT0:∀ (m:List Row) (hm:m.length≤10000000),appendV XR 26 26 (.tail 37 [] 0) (rvT m) = some (rowT.tailV 37 m):=fun m hm=>appRowsT [] m (by simp) hm m rfl
theorem appRowsF0:∀ (c0:List Cell) (s0 e0 b0:Int) (w0 f0:Bool) (d0:Int) (l2:List Row) (e:[R7 c0 s0 e0 b0 w0 f0 d0] = l2),appendV XR 26 26 (.tail 37 [] 0) (rvF c0 s0 e0 b0 w0 f0 d0) = some (rowT.tailV 37 l2):=fun c0 s0 e0 b0 w0 f0 d0 l2 e=>appRowsF [] (by simp) c0 s0 e0 b0 w0 f0 d0 l2 e
theorem iaddrLineN:∀ (l:List Line) (i:Nat) (hi:i < l.length),iaddrV XR 99 (.d (lineT.slD l)) (.d (.int .i64 (i:Int))) = some (.d (.ref (l.flatMap lineT.enc) (i * 3))):=fun l i hi=>iaddrSl (te := 103) (z:=3) (by kernel_rfl) (by kernel_rfl) (by omega) (by omega) (flat_len _ 3 (Ty.enc_length lineT) l)
theorem loadLineE:∀ (l:List Line) (h:List Ob) (k:Nat) (hk:k < l.length) (p:List Part) (a b:Int) (e:lineT.nth l k = L3 p a b),loadV XR h 103 (.d (.ref (l.flatMap lineT.enc) (k * 3))) = some (.d (.agg [partT.slD p,.int .i64 a,.int .i64 b])):=fun l h k hk p a b e=>by
 have:=loadAgg (X:=XR) (h:=h) (t := 103) (e:=lineT) (by kernel_rfl) (by kernel_rfl) hk
 rw [e] at this
 exact this
abbrev stVr (o1:Ob) (out:List Row) (q:List Line) (k:Int):St:=⟨[(1,.obj 0 0),(3,rowT.tailV 37 out),(8,.d (lineT.slD q)),(9,.d (.int .i64 (q.length:Int))),(10,.d (.int .i64 k))],[o1],[]⟩
abbrev stVrx (o1:Ob) (out:List Row) (q:List Line) (k:Int):St:=⟨[(1,.obj 0 0),(3,rowT.tailV 37 out),(8,.d (lineT.slD q)),(9,.d (.int .i64 (q.length:Int))),(10,.d (.int .i64 k)),(11,.d (.bool false))],[o1],[]⟩
def VrL (r:List Int) (n:Int) (il:List Inl) (w0_:Int) (hid:List Span) (zl wl:List Rng) (tab wd:Int) (q:List Line) (out:List Row):Prop:=Lp XR 0 (ntOf XR FVRows) (lpKeep XR FVRows 0) (lpBody XR FVRows 0) 1 FUEL (stVr (vO r n il w0_ hid (tabD zl wl) tab wd) [] q 0) (.exit 0,stVrx (vO r n il w0_ hid (tabD zl wl) tab wd) out q q.length)
def vrLp_T:Prop:=∀ (r:List Int) (n:Int) (il:List Inl) (w0_:Int) (hid:List Span) (zl wl:List Rng) (tab wd:Int) (q:List Line) (out:List Row) (h:VrL r n il w0_ hid zl wl tab wd q out),Lp XR 0 (ntOf XR FVRows) (lpKeep XR FVRows 0) (lpBody XR FVRows 0) 1 FUEL (stVr (vO r n il w0_ hid (tabD zl wl) tab wd) [] q 0) (.exit 0,stVrx (vO r n il w0_ hid (tabD zl wl) tab wd) out q q.length)
theorem vrLp:vrLp_T:=by unfold vrLp_T;intros;rename_i h;exact h
theorem vrF (r:List Int) (n:Int) (il:List Inl) (w0_:Int) (hid:List Span) (zl wl:List Rng) (tab wd:Int) (hz:zl.length≤1000) (hwl:wl.length≤1000) (t1:1≤tab) (t2:tab≤16) (hwd0:0≤wd) (hwd1:wd≤200) (out:List Row) (ho:out.length≤10000000) (q:List Line) (hq:q.length≤1000000) (k:Nat) (hkq:k < q.length) (p:List Part) (fr to:Int) (el:lineT.nth q k = L3 p fr to) (hk:LnOk r zl wl tab wd p fr) (c0:List Cell) (s0 e0 b0:Int) (w0 f0:Bool) (d0:Int) (e:lineRows r zl wl tab wd p fr to = [R7 c0 s0 e0 b0 w0 f0 d0]) (out2:List Row) (eo:out ++ [R7 c0 s0 e0 b0 w0 f0 d0] = out2):RdC XR 0 (ntOf XR FVRows) (lpKeep XR FVRows 0) (lpBody XR FVRows 0) 1 (stVr (vO r n il w0_ hid (tabD zl wl) tab wd) out q k) (stVr (vO r n il w0_ hid (tabD zl wl) tab wd) out2 q ((k:Int) + 1)):=by
 have hx0:(decide ((↑k:Int) < (↑q.length:Int))) = true:=decide_eq_true (by omega)
 exact (pC (st':={ s:=[(1,(zo 0 0)),(3,(zt 37 rowT out2)),(8,(zs lineT q)),(9,(zv (↑q.length:Int))),(10,(zv (zw ((↑k:Int) + (1:Int)))))],h:=[(zc [(zs i32T r),(zv n),(zs inlT il),(zv w0_),(zs spanT hid),(V.d (D.ref [(zd rngT zl),(zd rngT wl)] 0)),(zv tab),(zv wd)])],og:=[] }) 12 [(1,bt),(2,.v (V.d (D.ref (List.flatMap (Ty.enc lineT) q) (k * 3)))),(3,.v (V.d (D.agg [(Ty.slD partT p),(zi fr),(zi to)]))),(6,.v (rvF c0 s0 e0 b0 w0 f0 d0)),(7,.v (Ty.tailV rowT (37 : TypeId) out2))] (cP (@appRowsF (out) ho (c0) (s0) (e0) (b0) (w0) (f0) (d0) (out2) eo) (cC (@lnRF (r) (n) (il) (w0_) (hid) (zl) (wl) hz hwl (tab) t1 t2 (wd) hwd0 hwd1 (p) (fr) (to) hk (c0) (s0) (e0) (b0) (w0) (f0) (d0) e) (cP (@loadLineE (q) ([(zc [(zs i32T r),(zv n),(zs inlT il),(zv w0_),(zs spanT hid),(V.d (D.ref [(zd rngT zl),(zd rngT wl)] 0)),(zv tab),(zv wd)])]) (k) hkq (p) (fr) (to) el) (cP (@iaddrLineN (q) (k) hkq) (cP hx0 nilE))))) (by kernel_rfl)).to (by simp (disch:=omega) [wrapId, *])
theorem vrT (r:List Int) (n:Int) (il:List Inl) (w0_:Int) (hid:List Span) (zl wl:List Rng) (tab wd:Int) (hz:zl.length≤1000) (hwl:wl.length≤1000) (t1:1≤tab) (t2:tab≤16) (hwd0:0≤wd) (hwd1:wd≤200) (out:List Row) (ho:out.length≤10000000) (q:List Line) (hq:q.length≤1000000) (k:Nat) (hkq:k < q.length) (p:List Part) (fr to:Int) (el:lineT.nth q k = L3 p fr to) (hk:LnOk r zl wl tab wd p fr) (m:List Row) (hm:m.length≤10000000) (h2:2≤m.length) (e:lineRows r zl wl tab wd p fr to = m) (out2:List Row) (eo:out ++ m = out2):RdC XR 0 (ntOf XR FVRows) (lpKeep XR FVRows 0) (lpBody XR FVRows 0) 1 (stVr (vO r n il w0_ hid (tabD zl wl) tab wd) out q k) (stVr (vO r n il w0_ hid (tabD zl wl) tab wd) out2 q ((k:Int) + 1)):=by
 have hx0:(decide ((↑k:Int) < (↑q.length:Int))) = true:=decide_eq_true (by omega)
 exact (pC (st':={ s:=[(1,(zo 0 0)),(3,(zt 37 rowT out2)),(8,(zs lineT q)),(9,(zv (↑q.length:Int))),(10,(zv (zw ((↑k:Int) + (1:Int)))))],h:=[(zc [(zs i32T r),(zv n),(zs inlT il),(zv w0_),(zs spanT hid),(V.d (D.ref [(zd rngT zl),(zd rngT wl)] 0)),(zv tab),(zv wd)])],og:=[] }) 12 [(1,bt),(2,.v (V.d (D.ref (List.flatMap (Ty.enc lineT) q) (k * 3)))),(3,.v (V.d (D.agg [(Ty.slD partT p),(zi fr),(zi to)]))),(6,.v (rvT m)),(7,.v (Ty.tailV rowT (37 : TypeId) out2))] (cP (@appRowsT (out) (m) ho hm (out2) eo) (cC (@lnRT (r) (n) (il) (w0_) (hid) (zl) (wl) hz hwl (tab) t1 t2 (wd) hwd0 hwd1 (p) (fr) (to) hk (m) e h2) (cP (@loadLineE (q) ([(zc [(zs i32T r),(zv n),(zs inlT il),(zv w0_),(zs spanT hid),(V.d (D.ref [(zd rngT zl),(zd rngT wl)] 0)),(zv tab),(zv wd)])]) (k) hkq (p) (fr) (to) el) (cP (@iaddrLineN (q) (k) hkq) (cP hx0 nilE))))) (by kernel_rfl)).to (by simp (disch:=omega) [wrapId, *])
theorem vrX (r:List Int) (n:Int) (il:List Inl) (w0_:Int) (hid:List Span) (zl wl:List Rng) (tab wd:Int) (out:List Row) (q:List Line):Rd XR 0 (ntOf XR FVRows) (lpBody XR FVRows 0) (stVr (vO r n il w0_ hid (tabD zl wl) tab wd) out q q.length) (.exit 0,stVrx (vO r n il w0_ hid (tabD zl wl) tab wd) out q q.length):=by
 have hx0:(decide ((↑q.length:Int) < (↑q.length:Int))) = false:=decide_eq_false (by omega)
 exact (pR (r:=((Ex.exit 0),{ s:=[(1,(zo 0 0)),(3,(zt 37 rowT out)),(8,(zs lineT q)),(9,(zv (↑q.length:Int))),(10,(zv (↑q.length:Int))),(11,(zb (decide ((↑q.length:Int) < (↑q.length:Int)))))],h:=[(zc [(zs i32T r),(zv n),(zs inlT il),(zv w0_),(zs spanT hid),(V.d (D.ref [(zd rngT zl),(zd rngT wl)] 0)),(zv tab),(zv wd)])],og:=[] })) 12 [(1,bf)] (cP hx0 nilE) (by kernel_rfl)).to (by simp (disch:=omega) [wrapId, *])
theorem vw1F (r:List Int) (n:Int) (il:List Inl) (w0_:Int) (hid:List Span) (zl wl:List Rng) (tab wd:Int) (hz:zl.length≤1000) (hwl:wl.length≤1000) (t1:1≤tab) (t2:tab≤16) (hwd0:0≤wd) (hwd1:wd≤200) (hk:TextOk r il hid) (p:List Part) (to:Nat) (ep:lineAt r il hid 0 = (p,to)) (h:LL r n il w0_ hid p to (.full [partT.slD p,.int .i64 0,.int .i64 (to:Int)] 1)) (hk2:LnOk r zl wl tab wd p 0) (c0:List Cell) (s0 e0 b0:Int) (w0 f0:Bool) (d0:Int) (e:lineRows r zl wl tab wd p 0 (to:Int) = [R7 c0 s0 e0 b0 w0 f0 d0]) (out2:List Row) (eo:[R7 c0 s0 e0 b0 w0 f0 d0] = out2):Ans XR FVRows [.d (.agg (viewL r n il w0_ hid zl wl tab wd))] (.d (rowT.slD out2)):=by
 exact pV 12 [(1,.v (V.full [(Ty.slD partT p),(zi 0),(zi ↑to)] 1)),(10,.v (rvF c0 s0 e0 b0 w0 f0 d0)),(11,.v (Ty.tailV rowT (37 : TypeId) out2))] (cP (@appRowsF0 (c0) (s0) (e0) (b0) (w0) (f0) (d0) (out2) eo) (cC (@lnRF (r) (n) (il) (w0_) (hid) (zl) (wl) hz hwl (tab) t1 t2 (wd) hwd0 hwd1 (p) ((0:Int)) ((↑to:Int)) hk2 (c0) (s0) (e0) (b0) (w0) (f0) (d0) e) (cC (@allF (r) (n) (il) (w0_) (hid) hk (p) (to) ep h) nilE))) (by kernel_rfl) rfl rfl
theorem vw1T (r:List Int) (n:Int) (il:List Inl) (w0_:Int) (hid:List Span) (zl wl:List Rng) (tab wd:Int) (hz:zl.length≤1000) (hwl:wl.length≤1000) (t1:1≤tab) (t2:tab≤16) (hwd0:0≤wd) (hwd1:wd≤200) (hk:TextOk r il hid) (p:List Part) (to:Nat) (ep:lineAt r il hid 0 = (p,to)) (h:LL r n il w0_ hid p to (.full [partT.slD p,.int .i64 0,.int .i64 (to:Int)] 1)) (hk2:LnOk r zl wl tab wd p 0) (m:List Row) (hm:m.length≤10000000) (h2:2≤m.length) (e:lineRows r zl wl tab wd p 0 (to:Int) = m):Ans XR FVRows [.d (.agg (viewL r n il w0_ hid zl wl tab wd))] (.d (rowT.slD m)):=by
 exact pV 12 [(1,.v (V.full [(Ty.slD partT p),(zi 0),(zi ↑to)] 1)),(10,.v (rvT m)),(11,.v (Ty.tailV rowT (37 : TypeId) m))] (cP (@appRowsT0 (m) hm) (cC (@lnRT (r) (n) (il) (w0_) (hid) (zl) (wl) hz hwl (tab) t1 t2 (wd) hwd0 hwd1 (p) ((0:Int)) ((↑to:Int)) hk2 (m) e h2) (cC (@allF (r) (n) (il) (w0_) (hid) hk (p) (to) ep h) nilE))) (by kernel_rfl) rfl rfl
theorem vwN (r:List Int) (n:Int) (il:List Inl) (w0_:Int) (hid:List Span) (zl wl:List Rng) (tab wd:Int) (hk:TextOk r il hid) (p:List Part) (to:Nat) (ep:lineAt r il hid 0 = (p,to)) (q:List Line) (h:LL r n il w0_ hid p to (lineT.tailV 103 q)) (out:List Row) (h2:VrL r n il w0_ hid zl wl tab wd q out):Ans XR FVRows [.d (.agg (viewL r n il w0_ hid zl wl tab wd))] (.d (rowT.slD out)):=by
 exact pV 12 [(1,.v (V.d (Ty.slD lineT q))),(3,.l (Ex.exit 0) (stVrx (vO r n il w0_ hid (tabD zl wl) tab wd) out q (↑q.length:Int)))] (cE (@vrLp (r) (n) (il) (w0_) (hid) (zl) (wl) (tab) (wd) (q) (out) h2) (cC (@allT (r) (n) (il) (w0_) (hid) hk (p) (to) ep (q) h) nilE)) (by kernel_rfl) rfl rfl
def rowsLine (r:List Int) (zl wl:List Rng) (tab wd:Int) (l:Line):List Row:=lineRows r zl wl tab wd l.1 l.2.1 l.2.2.1
def rowsAll (r:List Int) (il:List Inl) (hid:List Span) (zl wl:List Rng) (tab wd:Int):List Row:=(allL r il hid).flatMap (rowsLine r zl wl tab wd)
theorem rowsOf_pos (l:List Cell) (wd:Int):0 < (rowsOf l wd).length:=by
 unfold rowsOf
 split
 ·simp
 ·split
  ·simp [rowsM]
  ·simp
theorem lineRows_len (r:List Int) (zl wl:List Rng) (tab wd:Int) (p:List Part) (fr to:Int):(lineRows r zl wl tab wd p fr to).length = (rowsOf (cellsOf zl wl tab p) wd).length:=rowsR_len _ _ _ _ _
structure ViewOk (r:List Int) (il:List Inl) (hid:List Span) (zl wl:List Rng) (tab wd:Int):Prop where
 lines:∀ l ∈ allL r il hid,LnOk r zl wl tab wd l.1 l.2.1
 many:(allL r il hid).length≤1000000
 all:(rowsAll r il hid zl wl tab wd).length≤10000000
theorem one_or_more (m:List Row) (h:0 < m.length):(∃ c0 s0 e0 b0 w0 f0 d0,m = [R7 c0 s0 e0 b0 w0 f0 d0])∨2≤m.length:=by
 match m,h with
 | [x],_=>exact .inl ⟨x.1,x.2.1,x.2.2.1,x.2.2.2.1,x.2.2.2.2.1,x.2.2.2.2.2.1,x.2.2.2.2.2.2.1,rfl⟩
 | x :: y :: m,_=>exact .inr (by simp)
theorem vrL (r:List Int) (n:Int) (il:List Inl) (w0_:Int) (hid:List Span) (zl wl:List Rng) (tab wd:Int) (hz:zl.length≤1000) (hwl:wl.length≤1000) (t1:1≤tab) (t2:tab≤16) (hwd0:0≤wd) (hwd1:wd≤200) (hv:ViewOk r il hid zl wl tab wd):VrL r n il w0_ hid zl wl tab wd (allL r il hid) (rowsAll r il hid zl wl tab wd):=by
 unfold VrL
 have hm:=hv.many
 refine Lp.run (fun k=>stVr (vO r n il w0_ hid (tabD zl wl) tab wd) (((allL r il hid).take k).flatMap (rowsLine r zl wl tab wd)) (allL r il hid) k) (allL r il hid).length (by omega) (by kernel_rfl) (fun k hk=>?_) ?_ (by simp)
 ·show RdC XR 0 (ntOf XR FVRows) (lpKeep XR FVRows 0) (lpBody XR FVRows 0) 1 (stVr (vO r n il w0_ hid (tabD zl wl) tab wd) (((allL r il hid).take k).flatMap (rowsLine r zl wl tab wd)) (allL r il hid) k) (stVr (vO r n il w0_ hid (tabD zl wl) tab wd) (((allL r il hid).take (k + 1)).flatMap (rowsLine r zl wl tab wd)) (allL r il hid) ((k:Int) + 1))
  have e1:((allL r il hid).take (k + 1)).flatMap (rowsLine r zl wl tab wd) = ((allL r il hid).take k).flatMap (rowsLine r zl wl tab wd) ++ rowsLine r zl wl tab wd (lineT.nth (allL r il hid) k):=by
   rw [take_succ_nth (e:=lineT) hk,List.flatMap_append];simp
  have hsplit:(rowsAll r il hid zl wl tab wd) = ((allL r il hid).take (k + 1)).flatMap (rowsLine r zl wl tab wd) ++ ((allL r il hid).drop (k + 1)).flatMap (rowsLine r zl wl tab wd):=by
   rw [← List.flatMap_append,List.take_append_drop];rfl
  have hall:=hv.all
  rw [hsplit,e1,List.length_append,List.length_append] at hall
  rw [e1]
  have hok:=hv.lines (lineT.nth (allL r il hid) k) (by rw [nth_get (e:=lineT) hk];exact List.getElem_mem hk)
  have hpos:=rowsOf_pos (cellsOf zl wl tab (lineT.nth (allL r il hid) k).1) wd
  rcases one_or_more (rowsLine r zl wl tab wd (lineT.nth (allL r il hid) k)) (by unfold rowsLine;rw [lineRows_len];exact hpos) with ⟨c0,s0,e0,b0,w0,f0,d0,e⟩ | h2
  ·exact vrF r n il w0_ hid zl wl tab wd hz hwl t1 t2 hwd0 hwd1 _ (by omega) _ hm k hk _ _ _ rfl hok c0 s0 e0 b0 w0 f0 d0 e _ (by rw [e])
  ·exact vrT r n il w0_ hid zl wl tab wd hz hwl t1 t2 hwd0 hwd1 _ (by omega) _ hm k hk _ _ _ rfl hok _ (by omega) h2 rfl _ rfl
 ·rw [List.take_length]
  exact vrX r n il w0_ hid zl wl tab wd _ _
theorem vRows (r:List Int) (n:Int) (il:List Inl) (w0_:Int) (hid:List Span) (zl wl:List Rng) (tab wd:Int) (hz:zl.length≤1000) (hwl:wl.length≤1000) (t1:1≤tab) (t2:tab≤16) (hwd0:0≤wd) (hwd1:wd≤200) (hk:TextOk r il hid) (hv:ViewOk r il hid zl wl tab wd) (q:List Row) (e:rowsAll r il hid zl wl tab wd = q):Ans XR FVRows [.d (.agg (viewL r n il w0_ hid zl wl tab wd))] (.d (rowT.slD q)):=by
 subst e
 have hl:=lL r n il w0_ hid hk
 by_cases h:(lineAt r il hid 0).2 < r.length
 ·rw [if_pos h] at hl
  exact vwN r n il w0_ hid zl wl tab wd hk _ _ rfl _ hl _ (vrL r n il w0_ hid zl wl tab wd hz hwl t1 t2 hwd0 hwd1 hv)
 ·rw [if_neg h] at hl
  have e1:allL r il hid = [L3 (lineAt r il hid 0).1 0 (lineAt r il hid 0).2]:=by
   unfold allL
   cases r.length with
   | zero=>rfl
   | succ f=>rw [allG_succ];simp [h]
  have hok:=hv.lines (L3 (lineAt r il hid 0).1 0 (lineAt r il hid 0).2) (by rw [e1];simp)
  have hall:=hv.all
  have e2:rowsAll r il hid zl wl tab wd = lineRows r zl wl tab wd (lineAt r il hid 0).1 0 ((lineAt r il hid 0).2:Int):=by
   unfold rowsAll;rw [e1];simp [rowsLine]
  rw [e2] at hall ⊢
  have hpos:=rowsOf_pos (cellsOf zl wl tab (lineAt r il hid 0).1) wd
  rcases one_or_more (lineRows r zl wl tab wd (lineAt r il hid 0).1 0 ((lineAt r il hid 0).2:Int)) (by rw [lineRows_len];exact hpos) with ⟨c0,s0,e0,b0,w0,f0,d0,e⟩ | h2
  ·exact vw1F r n il w0_ hid zl wl tab wd hz hwl t1 t2 hwd0 hwd1 hk _ _ rfl hl hok c0 s0 e0 b0 w0 f0 d0 e _ (by rw [e])
  ·exact vw1T r n il w0_ hid zl wl tab wd hz hwl t1 t2 hwd0 hwd1 hk _ _ rfl hl hok _ hall h2 rfl
abbrev FPlT:FuncId := 42
def zP:List Rng:=[(768,879,()),(8203,8207,()),(65024,65039,())]
def wP:List Rng:=[(4352,4447,()),(11904,12350,()),(12353,19903,()),(19968,40959,()),(44032,55203,()),(63744,64255,()),(65280,65376,()),(127744,128591,())]
def plT_T:Prop:=Ans XR FPlT [] (.d (tabD zP wP))
abbrev FOf23:FuncId := 26
abbrev FSmall:FuncId := 25
theorem newI0:∀ (n:Nat) (h1:n≤1000000) (l:List Inl) (hl:l.length≤60) (ht:∀ x ∈ l,x.2.2.2.2.1.length≤100000) (e:errI n l = 0) (l2:List Inl) (e2:outI l = l2),Ans XR FNewI [.d (.int .i64 (n:Int)),.d (inlT.slD l)] (.d (.agg [.int .i64 (n:Int),inlT.slD l2,.int .i64 0])):=fun n h1 l hl ht e l2 e2=>by
 have h:=newI (n:Int) (by omega) (by omega) l hl ht
 unfold setI at h;rw [if_pos e,e2] at h;exact h
theorem newI1:∀ (n:Nat) (h1:n≤1000000) (l:List Inl) (hl:l.length≤60) (ht:∀ x ∈ l,x.2.2.2.2.1.length≤100000) (k:Int) (e:errI n l = k) (hk:k ≠ 0),Ans XR FNewI [.d (.int .i64 (n:Int)),.d (inlT.slD l)] (.d (.agg [.int .i64 0,.sl [] 0,.int .i64 k])):=fun n h1 l hl ht k e hk=>by
 have h:=newI (n:Int) (by omega) (by omega) l hl ht
 unfold setI at h;rw [e,if_neg hk] at h;exact h
theorem newF0:∀ (n:Nat) (h1:n≤1000000) (l:List Span) (hl:l.length≤60) (e:errF n l = 0) (l2:List Span) (e2:outF l = l2),Ans XR FNewF [.d (.int .i64 (n:Int)),.d (spanT.slD l)] (.d (.agg [.int .i64 (n:Int),spanT.slD l2,.int .i64 0])):=fun n h1 l hl e l2 e2=>by
 have h:=newF (n:Int) (by omega) (by omega) l hl
 unfold setF at h;rw [if_pos e,e2] at h;exact h
theorem newF1:∀ (n:Nat) (h1:n≤1000000) (l:List Span) (hl:l.length≤60) (k:Int) (e:errF n l = k) (hk:k ≠ 0),Ans XR FNewF [.d (.int .i64 (n:Int)),.d (spanT.slD l)] (.d (.agg [.int .i64 0,.sl [] 0,.int .i64 k])):=fun n h1 l hl k e hk=>by
 have h:=newF (n:Int) (by omega) (by omega) l hl
 unfold setF at h;rw [e,if_neg hk] at h;exact h
abbrev docL (s:Str) (il:List Inl) (fl:List Span) (tab wd:Int):List D:=[.str s,inlT.slD il,spanT.slD fl,.int .i64 tab,.int .i64 wd]
theorem plT:plT_T:=by
 exact pV 12 [] nilE (by kernel_rfl) rfl rfl
theorem of23 (s:Str) (hs:s.length≤1000) (il:List Inl) (hil:il.length≤60) (ht:∀ x ∈ il,x.2.2.2.2.1.length≤100000) (fl:List Span) (hfl:fl.length≤60) (tab wd:Int) (r:List Int) (er:Cmp.dec s = r) (hrl:r.length≤1000) (e:errI r.length il = 0) (il2:List Inl) (e2:outI il = il2) (f:errF r.length fl = 0) (fl2:List Span) (f2:outF fl = fl2) (hfl2:fl2.length≤1000) (hs2:List Span) (f3:hidL fl2 = hs2):Ans XR FOf23 [.d (.agg (docL s il fl tab wd))] (.d (.agg (viewL r r.length il2 0 hs2 zP wP tab wd))):=by
 exact pV 12 [(1,.v (V.d (Ty.slD i32T r))),(4,.v (V.d (D.agg [(zi (↑r.length:Int)),(Ty.slD inlT il2),(zi 0)]))),(7,.v (V.d (D.agg [(zi (↑r.length:Int)),(Ty.slD spanT fl2),(zi 0)]))),(8,.v (V.d (Ty.slD spanT hs2))),(10,.v (V.d (tabD zP wP)))] (cC (@plT ) (cC (@hid ((↑r.length:Int)) (fl2) ((0:Int)) hfl2 (hs2) f3) (cC (@newF0 r.length (by omega) (fl) hfl f (fl2) f2) (cC (@newI0 r.length (by omega) (il) hil ht e (il2) e2) (cC (@rdecE (s) (by omega) (r) er) nilE))))) (by kernel_rfl) rfl rfl
theorem sm1 (s:Str) (il:List Inl) (fl:List Span) (tab wd:Int) (most:Int) (q:(s.length:Int) > most):Ans XR FSmall [.d (.agg (docL s il fl tab wd)),.d (.int .i64 most)] (.d (.bool false)):=by
 have hx0:(decide ((↑(ByteArray.size { data:=(List.toArray s) }):Int) > most)) = true:=by (first | assumption | (((try simp only [SA] at *);(try simp (disch:=omega) only [SB,wrapI32,reduceCtorEq] at *)) <;> first | omega | assumption | (refine ⟨?_,?_⟩ <;> assumption) | (intros;assumption)))
 exact pV 12 [(3,bt),(4,bt),(5,bt),(6,bt),(7,bt)] (cP hx0 (cP hx0 (cP hx0 (cP hx0 (cP hx0 nilE))))) (by kernel_rfl) rfl rfl
abbrev dO (s:Str) (il:List Inl) (fl:List Span) (tab wd:Int):Ob:=.cells [.d (.str s),.d (inlT.slD il),.d (spanT.slD fl),.d (.int .i64 tab),.d (.int .i64 wd)]
abbrev stSm (s:Str) (il:List Inl) (fl:List Span) (tab wd:Int) (k:Int):St:=⟨[(2,.obj 0 0),(46,.d (inlT.slD il)),(47,.d (.int .i64 (il.length:Int))),(48,.d (.int .i64 k))],[dO s il fl tab wd],[]⟩
abbrev stSmx (s:Str) (il:List Inl) (fl:List Span) (tab wd:Int) (k:Int):St:=⟨[(2,.obj 0 0),(46,.d (inlT.slD il)),(47,.d (.int .i64 (il.length:Int))),(48,.d (.int .i64 k)),(49,.d (.bool false))],[dO s il fl tab wd],[]⟩
theorem smB1 (s:Str) (il:List Inl) (fl:List Span) (tab wd:Int) (most:Int) (q0:¬ (s.length:Int) > most) (q:(il.length:Int) > 60):Ans XR FSmall [.d (.agg (docL s il fl tab wd)),.d (.int .i64 most)] (.d (.bool false)):=by
 have hx0:(decide ((↑(ByteArray.size { data:=(List.toArray s) }):Int) > most)) = false:=by (first | assumption | (((try simp only [SA] at *);(try simp (disch:=omega) only [SB,wrapI32,reduceCtorEq] at *)) <;> first | omega | assumption | (refine ⟨?_,?_⟩ <;> assumption) | (intros;assumption)))
 have hx1:(decide ((↑il.length:Int) > (60:Int))) = true:=decide_eq_true (by omega)
 exact pV 12 [(3,bf),(4,bf),(6,bf),(8,bf),(10,bf),(11,bt),(12,bt),(13,bt),(14,bt),(15,bt)] (cP hx1 (cP hx1 (cP hx1 (cP hx1 (cP hx1 (cP hx0 (cP hx0 (cP hx0 (cP hx0 (cP hx0 nilE)))))))))) (by kernel_rfl) rfl rfl
theorem smB2 (s:Str) (il:List Inl) (fl:List Span) (tab wd:Int) (most:Int) (q0:¬ (s.length:Int) > most) (q1:¬ (il.length:Int) > 60) (q:(fl.length:Int) > 60):Ans XR FSmall [.d (.agg (docL s il fl tab wd)),.d (.int .i64 most)] (.d (.bool false)):=by
 have hx0:(decide ((↑(ByteArray.size { data:=(List.toArray s) }):Int) > most)) = false:=by (first | assumption | (((try simp only [SA] at *);(try simp (disch:=omega) only [SB,wrapI32,reduceCtorEq] at *)) <;> first | omega | assumption | (refine ⟨?_,?_⟩ <;> assumption) | (intros;assumption)))
 have hx1:(decide ((↑il.length:Int) > (60:Int))) = false:=decide_eq_false (by omega)
 have hx2:(decide ((↑fl.length:Int) > (60:Int))) = true:=decide_eq_true (by omega)
 exact pV 12 [(3,bf),(4,bf),(6,bf),(8,bf),(10,bf),(11,bf),(12,bf),(14,bf),(16,bf),(18,bf),(19,bt),(20,bt),(21,bt),(22,bt)] (cP hx2 (cP hx2 (cP hx2 (cP hx2 (cP hx1 (cP hx1 (cP hx1 (cP hx1 (cP hx1 (cP hx0 (cP hx0 (cP hx0 (cP hx0 (cP hx0 nilE)))))))))))))) (by kernel_rfl) rfl rfl
theorem smB3 (s:Str) (il:List Inl) (fl:List Span) (tab wd:Int) (most:Int) (q0:¬ (s.length:Int) > most) (q1:¬ (il.length:Int) > 60) (q2:¬ (fl.length:Int) > 60) (q:tab < 1):Ans XR FSmall [.d (.agg (docL s il fl tab wd)),.d (.int .i64 most)] (.d (.bool false)):=by
 have hx0:(decide ((↑(ByteArray.size { data:=(List.toArray s) }):Int) > most)) = false:=by (first | assumption | (((try simp only [SA] at *);(try simp (disch:=omega) only [SB,wrapI32,reduceCtorEq] at *)) <;> first | omega | assumption | (refine ⟨?_,?_⟩ <;> assumption) | (intros;assumption)))
 have hx1:(decide ((↑il.length:Int) > (60:Int))) = false:=decide_eq_false (by omega)
 have hx2:(decide ((↑fl.length:Int) > (60:Int))) = false:=decide_eq_false (by omega)
 have hx3:(decide (tab < (1:Int))) = true:=decide_eq_true (by omega)
 exact pV 12 [(3,bf),(4,bf),(6,bf),(8,bf),(10,bf),(11,bf),(12,bf),(14,bf),(16,bf),(18,bf),(19,bf),(20,bf),(22,bf),(24,bf),(25,bt),(26,bt),(27,bt),(28,bt)] (cP hx3 (cP hx3 (cP hx3 (cP hx3 (cP hx2 (cP hx2 (cP hx2 (cP hx2 (cP hx1 (cP hx1 (cP hx1 (cP hx1 (cP hx1 (cP hx0 (cP hx0 (cP hx0 (cP hx0 (cP hx0 nilE)))))))))))))))))) (by kernel_rfl) rfl rfl
theorem smB4 (s:Str) (il:List Inl) (fl:List Span) (tab wd:Int) (most:Int) (q0:¬ (s.length:Int) > most) (q1:¬ (il.length:Int) > 60) (q2:¬ (fl.length:Int) > 60) (q3:¬ tab < 1) (q:tab > 16):Ans XR FSmall [.d (.agg (docL s il fl tab wd)),.d (.int .i64 most)] (.d (.bool false)):=by
 have hx0:(decide ((↑(ByteArray.size { data:=(List.toArray s) }):Int) > most)) = false:=by (first | assumption | (((try simp only [SA] at *);(try simp (disch:=omega) only [SB,wrapI32,reduceCtorEq] at *)) <;> first | omega | assumption | (refine ⟨?_,?_⟩ <;> assumption) | (intros;assumption)))
 have hx1:(decide ((↑il.length:Int) > (60:Int))) = false:=decide_eq_false (by omega)
 have hx2:(decide ((↑fl.length:Int) > (60:Int))) = false:=decide_eq_false (by omega)
 have hx3:(decide (tab < (1:Int))) = false:=decide_eq_false (by omega)
 have hx4:(decide (tab > (16:Int))) = true:=decide_eq_true (by omega)
 exact pV 12 [(3,bf),(4,bf),(6,bf),(8,bf),(10,bf),(11,bf),(12,bf),(14,bf),(16,bf),(18,bf),(19,bf),(20,bf),(22,bf),(24,bf),(25,bf),(26,bf),(28,bf),(30,bf),(31,bt),(32,bt),(33,bt),(34,bt)] (cP hx4 (cP hx4 (cP hx4 (cP hx4 (cP hx3 (cP hx3 (cP hx3 (cP hx3 (cP hx2 (cP hx2 (cP hx2 (cP hx2 (cP hx1 (cP hx1 (cP hx1 (cP hx1 (cP hx1 (cP hx0 (cP hx0 (cP hx0 (cP hx0 (cP hx0 nilE)))))))))))))))))))))) (by kernel_rfl) rfl rfl
theorem smB5 (s:Str) (il:List Inl) (fl:List Span) (tab wd:Int) (most:Int) (q0:¬ (s.length:Int) > most) (q1:¬ (il.length:Int) > 60) (q2:¬ (fl.length:Int) > 60) (q3:¬ tab < 1) (q4:¬ tab > 16) (q:wd < 0):Ans XR FSmall [.d (.agg (docL s il fl tab wd)),.d (.int .i64 most)] (.d (.bool false)):=by
 have hx0:(decide ((↑(ByteArray.size { data:=(List.toArray s) }):Int) > most)) = false:=by (first | assumption | (((try simp only [SA] at *);(try simp (disch:=omega) only [SB,wrapI32,reduceCtorEq] at *)) <;> first | omega | assumption | (refine ⟨?_,?_⟩ <;> assumption) | (intros;assumption)))
 have hx1:(decide ((↑il.length:Int) > (60:Int))) = false:=decide_eq_false (by omega)
 have hx2:(decide ((↑fl.length:Int) > (60:Int))) = false:=decide_eq_false (by omega)
 have hx3:(decide (tab < (1:Int))) = false:=decide_eq_false (by omega)
 have hx4:(decide (tab > (16:Int))) = false:=decide_eq_false (by omega)
 have hx5:(decide (wd < (0:Int))) = true:=decide_eq_true (by omega)
 exact pV 12 [(3,bf),(4,bf),(6,bf),(8,bf),(10,bf),(11,bf),(12,bf),(14,bf),(16,bf),(18,bf),(19,bf),(20,bf),(22,bf),(24,bf),(25,bf),(26,bf),(28,bf),(30,bf),(31,bf),(32,bf),(34,bf),(36,bf),(37,bt),(38,bt),(39,bt),(40,bt)] (cP hx5 (cP hx5 (cP hx5 (cP hx5 (cP hx4 (cP hx4 (cP hx4 (cP hx4 (cP hx3 (cP hx3 (cP hx3 (cP hx3 (cP hx2 (cP hx2 (cP hx2 (cP hx2 (cP hx1 (cP hx1 (cP hx1 (cP hx1 (cP hx1 (cP hx0 (cP hx0 (cP hx0 (cP hx0 (cP hx0 nilE)))))))))))))))))))))))))) (by kernel_rfl) rfl rfl
theorem smB6 (s:Str) (il:List Inl) (fl:List Span) (tab wd:Int) (most:Int) (q0:¬ (s.length:Int) > most) (q1:¬ (il.length:Int) > 60) (q2:¬ (fl.length:Int) > 60) (q3:¬ tab < 1) (q4:¬ tab > 16) (q5:¬ wd < 0) (q:wd > 200):Ans XR FSmall [.d (.agg (docL s il fl tab wd)),.d (.int .i64 most)] (.d (.bool false)):=by
 have hx0:(decide ((↑(ByteArray.size { data:=(List.toArray s) }):Int) > most)) = false:=by (first | assumption | (((try simp only [SA] at *);(try simp (disch:=omega) only [SB,wrapI32,reduceCtorEq] at *)) <;> first | omega | assumption | (refine ⟨?_,?_⟩ <;> assumption) | (intros;assumption)))
 have hx1:(decide ((↑il.length:Int) > (60:Int))) = false:=decide_eq_false (by omega)
 have hx2:(decide ((↑fl.length:Int) > (60:Int))) = false:=decide_eq_false (by omega)
 have hx3:(decide (tab < (1:Int))) = false:=decide_eq_false (by omega)
 have hx4:(decide (tab > (16:Int))) = false:=decide_eq_false (by omega)
 have hx5:(decide (wd < (0:Int))) = false:=decide_eq_false (by omega)
 have hx6:(decide (wd > (200:Int))) = true:=decide_eq_true (by omega)
 exact pV 12 [(3,bf),(4,bf),(6,bf),(8,bf),(10,bf),(11,bf),(12,bf),(14,bf),(16,bf),(18,bf),(19,bf),(20,bf),(22,bf),(24,bf),(25,bf),(26,bf),(28,bf),(30,bf),(31,bf),(32,bf),(34,bf),(36,bf),(37,bf),(38,bf),(40,bf),(42,bf),(43,bt)] (cP hx6 (cP hx5 (cP hx5 (cP hx5 (cP hx5 (cP hx4 (cP hx4 (cP hx4 (cP hx4 (cP hx3 (cP hx3 (cP hx3 (cP hx3 (cP hx2 (cP hx2 (cP hx2 (cP hx2 (cP hx1 (cP hx1 (cP hx1 (cP hx1 (cP hx1 (cP hx0 (cP hx0 (cP hx0 (cP hx0 (cP hx0 nilE))))))))))))))))))))))))))) (by kernel_rfl) rfl rfl
theorem smA (s:Str) (il:List Inl) (fl:List Span) (tab wd:Int) (k:Nat) (hil:il.length≤1000) (hk:k < il.length) (a b c d:Int) (t:Str) (e:inlT.nth il k = I5 a b c d t) (q:¬ (t.length:Int) > 200):RdC XR 0 (ntOf XR FSmall) (lpKeep XR FSmall 0) (lpBody XR FSmall 0) 1 (stSm s il fl tab wd k) (stSm s il fl tab wd ((k:Int) + 1)):=by
 have hx0:(decide ((↑k:Int) < (↑il.length:Int))) = true:=decide_eq_true (by omega)
 have hx1:(decide ((↑(ByteArray.size { data:=(List.toArray t) }):Int) > (200:Int))) = false:=by (first | assumption | (((try simp only [SA] at *);(try simp (disch:=omega) only [SB,wrapI32,reduceCtorEq] at *)) <;> first | omega | assumption | (refine ⟨?_,?_⟩ <;> assumption) | (intros;assumption)))
 exact (pC (st':={ s:=[(2,(zo 0 0)),(46,(zs inlT il)),(47,(zv (↑il.length:Int))),(48,(zv (zw ((↑k:Int) + (1:Int)))))],h:=[(zc [(V.d (D.str s)),(zs inlT il),(zs spanT fl),(zv tab),(zv wd)])],og:=[] }) 12 [(1,bt),(2,.v (V.d (D.ref (List.flatMap (Ty.enc inlT) il) (k * 5)))),(3,.v (inlA a b c d t)),(7,bf)] (cP hx1 (cP (@loadInlE (il) ([(zc [(V.d (D.str s)),(zs inlT il),(zs spanT fl),(zv tab),(zv wd)])]) (k) hk (a) (b) (c) (d) (t) e) (cP (@iaddrInlN (il) (k) hk) (cP hx0 nilE)))) (by kernel_rfl)).to (by first | (apply Eq.refl;done) | ((try simp (disch:=omega) only [tdivNn,Int.tmod_eq_emod_of_nonneg,wrapId,wrapI32,wrapU8,List.length_cons,List.length_nil,toNatSucc] at *) <;> (try simp only [Int.toNat_natCast,beq_iff_eq,beq_eq_false_iff_ne,bne_iff_ne,bne_eq_false_iff_eq,ne_eq,Int.natCast_eq_zero,Int.natCast_inj] at *) <;> first | (simp (disch:=omega) [Ty.enc,tdivNn,Int.tmod_eq_emod_of_nonneg,wrapId,wrapI32,wrapU8,toNatPred,toNatSucc,List.length_cons,List.length_nil,Ty.slD, *];done) | (subst_vars;simp (disch:=omega) [Ty.enc,tdivNn,Int.tmod_eq_emod_of_nonneg,wrapId,wrapI32,wrapU8,toNatPred,toNatSucc,List.length_cons,List.length_nil,Ty.slD, *];done) | (simp [goodR,sizeR, *];done) | (simp only [goodR,sizeR,SA] at *;simp [*];omega)))
theorem smX (s:Str) (il:List Inl) (fl:List Span) (tab wd:Int):Rd XR 0 (ntOf XR FSmall) (lpBody XR FSmall 0) (stSm s il fl tab wd il.length) (.exit 0,stSmx s il fl tab wd il.length):=by
 have hx0:(decide ((↑il.length:Int) < (↑il.length:Int))) = false:=decide_eq_false (by omega)
 exact (pR (r:=((Ex.exit 0),{ s:=[(2,(zo 0 0)),(46,(zs inlT il)),(47,(zv (↑il.length:Int))),(48,(zv (↑il.length:Int))),(49,(zb (decide ((↑il.length:Int) < (↑il.length:Int)))))],h:=[(zc [(V.d (D.str s)),(zs inlT il),(zs spanT fl),(zv tab),(zv wd)])],og:=[] })) 12 [(1,bf)] (cP hx0 nilE) (by kernel_rfl)).to (by simp (disch:=omega) [wrapId, *])
theorem smR (s:Str) (il:List Inl) (fl:List Span) (tab wd:Int) (k:Nat) (hil:il.length≤1000) (hk:k < il.length) (a b c d:Int) (t:Str) (e:inlT.nth il k = I5 a b c d t) (q:(t.length:Int) > 200):Rd XR 0 (ntOf XR FSmall) (lpBody XR FSmall 0) (stSm s il fl tab wd k) (.ret,⟨[(4,.d (.bool false))],[dO s il fl tab wd,.cells [.d (.int .i64 a),.d (.int .i64 b),.d (.int .i64 c),.d (.int .i64 d),.d (.str t)]],[]⟩):=by
 have hx0:(decide ((↑k:Int) < (↑il.length:Int))) = true:=decide_eq_true (by omega)
 have hx1:(decide ((↑(ByteArray.size { data:=(List.toArray t) }):Int) > (200:Int))) = true:=by (first | assumption | (((try simp only [SA] at *);(try simp (disch:=omega) only [SB,wrapI32,reduceCtorEq] at *)) <;> first | omega | assumption | (refine ⟨?_,?_⟩ <;> assumption) | (intros;assumption)))
 exact pR 12 [(1,bt),(2,.v (V.d (D.ref (List.flatMap (Ty.enc inlT) il) (k * 5)))),(3,.v (inlA a b c d t)),(7,bt)] (cP hx1 (cP (@loadInlE (il) ([(zc [(V.d (D.str s)),(zs inlT il),(zs spanT fl),(zv tab),(zv wd)])]) (k) hk (a) (b) (c) (d) (t) e) (cP (@iaddrInlN (il) (k) hk) (cP hx0 nilE)))) (by kernel_rfl)
def SmL (s:Str) (il:List Inl) (fl:List Span) (tab wd:Int) (x:Ex × St):Prop:=Lp XR 0 (ntOf XR FSmall) (lpKeep XR FSmall 0) (lpBody XR FSmall 0) 1 FUEL (stSm s il fl tab wd 0) x
def SmX (s:Str) (il:List Inl) (fl:List Span) (tab wd:Int):Prop:=SmL s il fl tab wd (.exit 0,stSmx s il fl tab wd il.length)
def SmR (s:Str) (il:List Inl) (fl:List Span) (tab wd:Int) (a b c d:Int) (t:Str):Prop:=SmL s il fl tab wd (.ret,⟨[(4,.d (.bool false))],[dO s il fl tab wd , .cells [.d (.int .i64 a),.d (.int .i64 b),.d (.int .i64 c),.d (.int .i64 d),.d (.str t)]],[]⟩)
def longI (x:Inl):Bool:=decide ((x.2.2.2.2.1.length:Int) > 200)
theorem smL (s:Str) (il:List Inl) (fl:List Span) (tab wd:Int) (hil:il.length≤1000):(SmX s il fl tab wd  ∧ il.any longI = false)∨∃ a b c d t,SmR s il fl tab wd a b c d t∧il.any longI = true:=by
 cases h:il.any longI with
 | false=>exact .inl ⟨Lp.run (fun k=>stSm s il fl tab wd k) il.length (by omega) (by kernel_rfl) (fun k hk=>smA s il fl tab wd k hil hk _ _ _ _ _ rfl (of_decide_eq_false (anyNo (e:=inlT) longI h hk))) (smX s il fl tab wd ) (by simp),rfl⟩
 | true =>
  obtain ⟨k,hk,h1,h2⟩:=anyYes (e:=inlT) longI h
  exact .inr ⟨_,_,_,_,_,Lp.run (fun k=>stSm s il fl tab wd k) k (by omega) (by kernel_rfl) (fun j hj=>smA s il fl tab wd j hil (by omega) _ _ _ _ _ rfl (of_decide_eq_false (h2 j hj))) (smR s il fl tab wd k hil hk _ _ _ _ _ rfl (of_decide_eq_true h1)) (by simp),rfl⟩
theorem smXp:∀ (s:Str) (il:List Inl) (fl:List Span) (tab wd:Int) (h:SmX s il fl tab wd ),Lp XR 0 (ntOf XR FSmall) (lpKeep XR FSmall 0) (lpBody XR FSmall 0) 1 FUEL (stSm s il fl tab wd 0) (.exit 0,stSmx s il fl tab wd il.length):=fun _ _ _ _ _ h=>h
theorem smRp:∀ (s:Str) (il:List Inl) (fl:List Span) (tab wd:Int) (a b c d:Int) (t:Str) (h:SmR s il fl tab wd a b c d t),Lp XR 0 (ntOf XR FSmall) (lpKeep XR FSmall 0) (lpBody XR FSmall 0) 1 FUEL (stSm s il fl tab wd 0) (.ret,⟨[(4,.d (.bool false))],[dO s il fl tab wd , .cells [.d (.int .i64 a),.d (.int .i64 b),.d (.int .i64 c),.d (.int .i64 d),.d (.str t)]],[]⟩):=fun _ _ _ _ _ _ _ _ _ _ h=>h
theorem smV (s:Str) (il:List Inl) (fl:List Span) (tab wd:Int) (most:Int) (q0:¬ (s.length:Int) > most) (q1:¬ (il.length:Int) > 60) (q2:¬ (fl.length:Int) > 60) (q3:¬ tab < 1) (q4:¬ tab > 16) (q5:¬ wd < 0) (q6:¬ wd > 200) (a b c d:Int) (t:Str) (h:SmR s il fl tab wd a b c d t):Ans XR FSmall [.d (.agg (docL s il fl tab wd)),.d (.int .i64 most)] (.d (.bool false)):=by
 have hx0:(decide ((↑(ByteArray.size { data:=(List.toArray s) }):Int) > most)) = false:=by (first | assumption | (((try simp only [SA] at *);(try simp (disch:=omega) only [SB,wrapI32,reduceCtorEq] at *)) <;> first | omega | assumption | (refine ⟨?_,?_⟩ <;> assumption) | (intros;assumption)))
 have hx1:(decide ((↑il.length:Int) > (60:Int))) = false:=decide_eq_false (by omega)
 have hx2:(decide ((↑fl.length:Int) > (60:Int))) = false:=decide_eq_false (by omega)
 have hx3:(decide (tab < (1:Int))) = false:=decide_eq_false (by omega)
 have hx4:(decide (tab > (16:Int))) = false:=decide_eq_false (by omega)
 have hx5:(decide (wd < (0:Int))) = false:=decide_eq_false (by omega)
 have hx6:(decide (wd > (200:Int))) = false:=decide_eq_false (by omega)
 exact pV 12 [(3,bf),(4,bf),(6,bf),(8,bf),(10,bf),(11,bf),(12,bf),(14,bf),(16,bf),(18,bf),(19,bf),(20,bf),(22,bf),(24,bf),(25,bf),(26,bf),(28,bf),(30,bf),(31,bf),(32,bf),(34,bf),(36,bf),(37,bf),(38,bf),(40,bf),(42,bf),(43,bf),(46,.l (Ex.ret) ({ s:=[(4,(zb false))],h:=[(dO s il fl tab wd),(zc [(zv a),(zv b),(zv c),(zv d),(V.d (D.str t))])],og:=[] }))] (cE (@smRp (s) (il) (fl) (tab) (wd) (a) (b) (c) (d) (t) h) (cP hx6 (cP hx5 (cP hx5 (cP hx5 (cP hx5 (cP hx4 (cP hx4 (cP hx4 (cP hx4 (cP hx3 (cP hx3 (cP hx3 (cP hx3 (cP hx2 (cP hx2 (cP hx2 (cP hx2 (cP hx1 (cP hx1 (cP hx1 (cP hx1 (cP hx1 (cP hx0 (cP hx0 (cP hx0 (cP hx0 (cP hx0 nilE)))))))))))))))))))))))))))) (by kernel_rfl) rfl rfl
theorem smF1 (s:Str) (il:List Inl) (fl:List Span) (tab wd:Int) (most:Int) (q0:¬ (s.length:Int) > most) (q1:¬ (il.length:Int) > 60) (q2:¬ (fl.length:Int) > 60) (q3:¬ tab < 1) (q4:¬ tab > 16) (q5:¬ wd < 0) (q6:¬ wd > 200) (h:SmX s il fl tab wd ) (hs:s.length≤1000) (hil:il.length≤60) (ht:∀ x ∈ il,x.2.2.2.2.1.length≤100000) (hfl:fl.length≤60) (r:List Int) (er:Cmp.dec s = r) (hrl:r.length≤1000) (k:Int) (ek:errI r.length il = k) (hk:k ≠ 0):Ans XR FSmall [.d (.agg (docL s il fl tab wd)),.d (.int .i64 most)] (.d (.bool false)):=by
 have hx0:(decide ((↑(ByteArray.size { data:=(List.toArray s) }):Int) > most)) = false:=by (first | assumption | (((try simp only [SA] at *);(try simp (disch:=omega) only [SB,wrapI32,reduceCtorEq] at *)) <;> first | omega | assumption | (refine ⟨?_,?_⟩ <;> assumption) | (intros;assumption)))
 have hx1:(decide ((↑il.length:Int) > (60:Int))) = false:=decide_eq_false (by omega)
 have hx2:(decide ((↑fl.length:Int) > (60:Int))) = false:=decide_eq_false (by omega)
 have hx3:(decide (tab < (1:Int))) = false:=decide_eq_false (by omega)
 have hx4:(decide (tab > (16:Int))) = false:=decide_eq_false (by omega)
 have hx5:(decide (wd < (0:Int))) = false:=decide_eq_false (by omega)
 have hx6:(decide (wd > (200:Int))) = false:=decide_eq_false (by omega)
 have hx7:(k == (0:Int)) = false:=decide_eq_false (by omega)
 exact pV 12 [(3,bf),(4,bf),(6,bf),(8,bf),(10,bf),(11,bf),(12,bf),(14,bf),(16,bf),(18,bf),(19,bf),(20,bf),(22,bf),(24,bf),(25,bf),(26,bf),(28,bf),(30,bf),(31,bf),(32,bf),(34,bf),(36,bf),(37,bf),(38,bf),(40,bf),(42,bf),(43,bf),(46,.l (Ex.exit 0) (stSmx s il fl tab wd (↑il.length:Int))),(48,.v (V.d (Ty.slD i32T r))),(51,.v (V.d (D.agg [(zi 0),(D.sl [] 0),(zi k)]))),(54,bf),(55,bf),(56,bf),(57,bf),(58,bf),(59,bf),(60,bf)] (cP hx7 (cP hx7 (cP hx7 (cP hx7 (cP hx7 (cP hx7 (cP hx7 (cC (@newI1 r.length (by omega) (il) hil ht (k) ek hk) (cC (@rdecE (s) (by omega) (r) er) (cE (@smXp (s) (il) (fl) (tab) (wd) h) (cP hx6 (cP hx5 (cP hx5 (cP hx5 (cP hx5 (cP hx4 (cP hx4 (cP hx4 (cP hx4 (cP hx3 (cP hx3 (cP hx3 (cP hx3 (cP hx2 (cP hx2 (cP hx2 (cP hx2 (cP hx1 (cP hx1 (cP hx1 (cP hx1 (cP hx1 (cP hx0 (cP hx0 (cP hx0 (cP hx0 (cP hx0 nilE))))))))))))))))))))))))))))))))))))) (by kernel_rfl) rfl rfl
theorem smF2 (s:Str) (il:List Inl) (fl:List Span) (tab wd:Int) (most:Int) (q0:¬ (s.length:Int) > most) (q1:¬ (il.length:Int) > 60) (q2:¬ (fl.length:Int) > 60) (q3:¬ tab < 1) (q4:¬ tab > 16) (q5:¬ wd < 0) (q6:¬ wd > 200) (h:SmX s il fl tab wd ) (hs:s.length≤1000) (hil:il.length≤60) (ht:∀ x ∈ il,x.2.2.2.2.1.length≤100000) (hfl:fl.length≤60) (r:List Int) (er:Cmp.dec s = r) (hrl:r.length≤1000) (e:errI r.length il = 0) (il2:List Inl) (e2:outI il = il2) (k:Int) (ek:errF r.length fl = k) (hk:k ≠ 0):Ans XR FSmall [.d (.agg (docL s il fl tab wd)),.d (.int .i64 most)] (.d (.bool false)):=by
 have hx0:(decide ((↑(ByteArray.size { data:=(List.toArray s) }):Int) > most)) = false:=by (first | assumption | (((try simp only [SA] at *);(try simp (disch:=omega) only [SB,wrapI32,reduceCtorEq] at *)) <;> first | omega | assumption | (refine ⟨?_,?_⟩ <;> assumption) | (intros;assumption)))
 have hx1:(decide ((↑il.length:Int) > (60:Int))) = false:=decide_eq_false (by omega)
 have hx2:(decide ((↑fl.length:Int) > (60:Int))) = false:=decide_eq_false (by omega)
 have hx3:(decide (tab < (1:Int))) = false:=decide_eq_false (by omega)
 have hx4:(decide (tab > (16:Int))) = false:=decide_eq_false (by omega)
 have hx5:(decide (wd < (0:Int))) = false:=decide_eq_false (by omega)
 have hx6:(decide (wd > (200:Int))) = false:=decide_eq_false (by omega)
 exact (pV (v:=V.d (D.bool (k == (0:Int)))) 12 [(3,bf),(4,bf),(6,bf),(8,bf),(10,bf),(11,bf),(12,bf),(14,bf),(16,bf),(18,bf),(19,bf),(20,bf),(22,bf),(24,bf),(25,bf),(26,bf),(28,bf),(30,bf),(31,bf),(32,bf),(34,bf),(36,bf),(37,bf),(38,bf),(40,bf),(42,bf),(43,bf),(46,.l (Ex.exit 0) (stSmx s il fl tab wd (↑il.length:Int))),(48,.v (V.d (Ty.slD i32T r))),(51,.v (V.d (D.agg [(zi (↑r.length:Int)),(Ty.slD inlT il2),(zi 0)]))),(59,.v (V.d (D.agg [(zi 0),(D.sl [] 0),(zi k)])))] (cC (@newF1 r.length (by omega) (fl) hfl (k) ek hk) (cC (@newI0 r.length (by omega) (il) hil ht e (il2) e2) (cC (@rdecE (s) (by omega) (r) er) (cE (@smXp (s) (il) (fl) (tab) (wd) h) (cP hx6 (cP hx5 (cP hx5 (cP hx5 (cP hx5 (cP hx4 (cP hx4 (cP hx4 (cP hx4 (cP hx3 (cP hx3 (cP hx3 (cP hx3 (cP hx2 (cP hx2 (cP hx2 (cP hx2 (cP hx1 (cP hx1 (cP hx1 (cP hx1 (cP hx1 (cP hx0 (cP hx0 (cP hx0 (cP hx0 (cP hx0 nilE))))))))))))))))))))))))))))))) (by kernel_rfl) rfl rfl).to (by first | (apply Eq.refl;done) | ((try simp (disch:=omega) only [tdivNn,Int.tmod_eq_emod_of_nonneg,wrapId,wrapI32,wrapU8,List.length_cons,List.length_nil,toNatSucc] at *) <;> (try simp only [Int.toNat_natCast,beq_iff_eq,beq_eq_false_iff_ne,bne_iff_ne,bne_eq_false_iff_eq,ne_eq,Int.natCast_eq_zero,Int.natCast_inj] at *) <;> first | (simp (disch:=omega) [Ty.enc,tdivNn,Int.tmod_eq_emod_of_nonneg,wrapId,wrapI32,wrapU8,toNatPred,toNatSucc,List.length_cons,List.length_nil,Ty.slD, *];done) | (subst_vars;simp (disch:=omega) [Ty.enc,tdivNn,Int.tmod_eq_emod_of_nonneg,wrapId,wrapI32,wrapU8,toNatPred,toNatSucc,List.length_cons,List.length_nil,Ty.slD, *];done) | (simp [goodR,sizeR, *];done) | (simp only [goodR,sizeR,SA] at *;simp [*];omega)))
theorem smT (s:Str) (il:List Inl) (fl:List Span) (tab wd:Int) (most:Int) (q0:¬ (s.length:Int) > most) (q1:¬ (il.length:Int) > 60) (q2:¬ (fl.length:Int) > 60) (q3:¬ tab < 1) (q4:¬ tab > 16) (q5:¬ wd < 0) (q6:¬ wd > 200) (h:SmX s il fl tab wd ) (hs:s.length≤1000) (hil:il.length≤60) (ht:∀ x ∈ il,x.2.2.2.2.1.length≤100000) (hfl:fl.length≤60) (r:List Int) (er:Cmp.dec s = r) (hrl:r.length≤1000) (e:errI r.length il = 0) (il2:List Inl) (e2:outI il = il2) (f:errF r.length fl = 0) (fl2:List Span) (f2:outF fl = fl2):Ans XR FSmall [.d (.agg (docL s il fl tab wd)),.d (.int .i64 most)] (.d (.bool true)):=by
 have hx0:(decide ((↑(ByteArray.size { data:=(List.toArray s) }):Int) > most)) = false:=by (first | assumption | (((try simp only [SA] at *);(try simp (disch:=omega) only [SB,wrapI32,reduceCtorEq] at *)) <;> first | omega | assumption | (refine ⟨?_,?_⟩ <;> assumption) | (intros;assumption)))
 have hx1:(decide ((↑il.length:Int) > (60:Int))) = false:=decide_eq_false (by omega)
 have hx2:(decide ((↑fl.length:Int) > (60:Int))) = false:=decide_eq_false (by omega)
 have hx3:(decide (tab < (1:Int))) = false:=decide_eq_false (by omega)
 have hx4:(decide (tab > (16:Int))) = false:=decide_eq_false (by omega)
 have hx5:(decide (wd < (0:Int))) = false:=decide_eq_false (by omega)
 have hx6:(decide (wd > (200:Int))) = false:=decide_eq_false (by omega)
 exact pV 12 [(3,bf),(4,bf),(6,bf),(8,bf),(10,bf),(11,bf),(12,bf),(14,bf),(16,bf),(18,bf),(19,bf),(20,bf),(22,bf),(24,bf),(25,bf),(26,bf),(28,bf),(30,bf),(31,bf),(32,bf),(34,bf),(36,bf),(37,bf),(38,bf),(40,bf),(42,bf),(43,bf),(46,.l (Ex.exit 0) (stSmx s il fl tab wd (↑il.length:Int))),(48,.v (V.d (Ty.slD i32T r))),(51,.v (V.d (D.agg [(zi (↑r.length:Int)),(Ty.slD inlT il2),(zi 0)]))),(59,.v (V.d (D.agg [(zi (↑r.length:Int)),(Ty.slD spanT fl2),(zi 0)])))] (cC (@newF0 r.length (by omega) (fl) hfl f (fl2) f2) (cC (@newI0 r.length (by omega) (il) hil ht e (il2) e2) (cC (@rdecE (s) (by omega) (r) er) (cE (@smXp (s) (il) (fl) (tab) (wd) h) (cP hx6 (cP hx5 (cP hx5 (cP hx5 (cP hx5 (cP hx4 (cP hx4 (cP hx4 (cP hx4 (cP hx3 (cP hx3 (cP hx3 (cP hx3 (cP hx2 (cP hx2 (cP hx2 (cP hx2 (cP hx1 (cP hx1 (cP hx1 (cP hx1 (cP hx1 (cP hx0 (cP hx0 (cP hx0 (cP hx0 (cP hx0 nilE))))))))))))))))))))))))))))))) (by kernel_rfl) rfl rfl
def smallB (s:Str) (il:List Inl) (fl:List Span) (tab wd most:Int):Bool :=
 if (s.length:Int) > most then false else if (il.length:Int) > 60 then false else if (fl.length:Int) > 60 then false else
 if tab < 1 then false else if tab > 16 then false else if wd < 0 then false else if wd > 200 then false else
 if il.any longI = true then false else if errI (Cmp.dec s).length il = 0 then (if errF (Cmp.dec s).length fl = 0 then true else false) else false
theorem longI_no {il:List Inl} (h:il.any longI = false):∀ x ∈ il,x.2.2.2.2.1.length≤100000:=fun x hx=>by
 have h1:longI x = false:=by
  rw [List.any_eq_false] at h
  have:=h x hx
  simpa using this
 have:=of_decide_eq_false h1
 omega
theorem small:∀ (s:Str) (il:List Inl) (fl:List Span) (tab wd most:Int) (hm:most≤1000) (b:Bool) (e:smallB s il fl tab wd most = b),Ans XR FSmall [.d (.agg (docL s il fl tab wd)),.d (.int .i64 most)] (.d (.bool b)):=fun s il fl tab wd most hm b e=>by
 subst e
 unfold smallB
 by_cases q0:(s.length:Int) > most
 ·rw [if_pos q0];exact sm1 s il fl tab wd most q0
 rw [if_neg q0]
 by_cases q1:(il.length:Int) > 60
 ·rw [if_pos q1];exact smB1 s il fl tab wd most q0 q1
 rw [if_neg q1]
 by_cases q2:(fl.length:Int) > 60
 ·rw [if_pos q2];exact smB2 s il fl tab wd most q0 q1 q2
 rw [if_neg q2]
 by_cases q3:tab < 1
 ·rw [if_pos q3];exact smB3 s il fl tab wd most q0 q1 q2 q3
 rw [if_neg q3]
 by_cases q4:tab > 16
 ·rw [if_pos q4];exact smB4 s il fl tab wd most q0 q1 q2 q3 q4
 rw [if_neg q4]
 by_cases q5:wd < 0
 ·rw [if_pos q5];exact smB5 s il fl tab wd most q0 q1 q2 q3 q4 q5
 rw [if_neg q5]
 by_cases q6:wd > 200
 ·rw [if_pos q6];exact smB6 s il fl tab wd most q0 q1 q2 q3 q4 q5 q6
 rw [if_neg q6]
 have hd:(Cmp.dec s).length≤1000:=by have:=Cmp.dec_le s;omega
 rcases smL s il fl tab wd (by omega) with ⟨h,h2⟩ | ⟨a,b,c,d,t,h,h2⟩
 ·rw [if_neg (by rw [h2];simp)]
  by_cases q7:errI (Cmp.dec s).length il = 0
  ·rw [if_pos q7]
   by_cases q8:errF (Cmp.dec s).length fl = 0
   ·rw [if_pos q8];exact smT s il fl tab wd most q0 q1 q2 q3 q4 q5 q6 h (by omega) (by omega) (longI_no h2) (by omega) _ rfl hd q7 _ rfl q8 _ rfl
   ·rw [if_neg q8];exact smF2 s il fl tab wd most q0 q1 q2 q3 q4 q5 q6 h (by omega) (by omega) (longI_no h2) (by omega) _ rfl hd q7 _ rfl _ rfl q8
  ·rw [if_neg q7];exact smF1 s il fl tab wd most q0 q1 q2 q3 q4 q5 q6 h (by omega) (by omega) (longI_no h2) (by omega) _ rfl hd _ rfl q7
 ·rw [if_pos h2];exact smV s il fl tab wd most q0 q1 q2 q3 q4 q5 q6 a b c d t h
abbrev FMade:FuncId := 10
theorem of23G:∀ (s:Str) (hs:s.length≤1000) (il:List Inl) (hil:il.length≤60) (ht:∀ x ∈ il,x.2.2.2.2.1.length≤100000) (fl:List Span) (hfl:fl.length≤60) (tab wd:Int) (r:List Int) (er:Cmp.dec s = r) (hrl:r.length≤1000) (e:errI r.length il = 0) (il2:List Inl) (e2:outI il = il2) (f:errF r.length fl = 0) (fl2:List Span) (f2:outF fl = fl2) (hfl2:fl2.length≤1000) (hs2:List Span) (f3:hidL fl2 = hs2) (zl wl:List Rng) (ez:zP = zl) (ew:wP = wl),
 Ans XR FOf23 [.d (.agg (docL s il fl tab wd))] (.d (.agg (viewL r r.length il2 0 hs2 zl wl tab wd))):=fun s hs il hil ht fl hfl tab wd r er hrl e il2 e2 f fl2 f2 hfl2 hs2 f3 zl wl ez ew=>by
 subst ez;subst ew
 exact of23 s hs il hil ht fl hfl tab wd r er hrl e il2 e2 f fl2 f2 hfl2 hs2 f3
theorem md0 (s:Str) (il:List Inl) (fl:List Span) (tab wd:Int) (e:smallB s il fl tab wd 120 = false):Ans XR FMade [.d (.agg (docL s il fl tab wd))] (.d (.tup [.sl [] 0,.bool false])):=by
 exact pV 12 [(1,.v (zb false))] (cC (@small (s) (il) (fl) (tab) (wd) ((120:Int)) (by omega) (false) e) nilE) (by kernel_rfl) rfl rfl
theorem md1 (s:Str) (il:List Inl) (fl:List Span) (tab wd:Int) (e:smallB s il fl tab wd 120 = true) (hs:s.length≤1000) (hil:il.length≤60) (ht:∀ x ∈ il,x.2.2.2.2.1.length≤100000) (hfl:fl.length≤60) (r:List Int) (er:Cmp.dec s = r) (hrl:r.length≤1000) (e1:errI r.length il = 0) (il2:List Inl) (e2:outI il = il2) (f:errF r.length fl = 0) (fl2:List Span) (f2:outF fl = fl2) (hfl2:fl2.length≤1000) (hs2:List Span) (f3:hidL fl2 = hs2)
 (zl wl:List Rng) (ez:zP = zl) (ew:wP = wl) (hz:zl.length≤1000) (hwl:wl.length≤1000) (t1:1≤tab) (t2:tab≤16) (hwd0:0≤wd) (hwd1:wd≤200) (hk:TextOk r il2 hs2) (hv:ViewOk r il2 hs2 zl wl tab wd) (q:List Row) (eq:rowsAll r il2 hs2 zl wl tab wd = q):Ans XR FMade [.d (.agg (docL s il fl tab wd))] (.d (.tup [rowT.slD q,.bool true])):=by
 exact pV 12 [(1,.v (zb true)),(4,.v (V.d (D.agg (viewL r (↑r.length:Int) il2 (0:Int) hs2 zl wl tab wd)))),(5,.v (V.d (Ty.slD rowT q)))] (cC (@vRows (r) ((↑r.length:Int)) (il2) ((0:Int)) (hs2) (zl) (wl) (tab) (wd) hz hwl t1 t2 hwd0 hwd1 hk hv (q) eq) (cC (@of23G (s) hs (il) hil ht (fl) hfl (tab) (wd) (r) er hrl e1 (il2) e2 f (fl2) f2 hfl2 (hs2) f3 (zl) (wl) ez ew) (cC (@small (s) (il) (fl) (tab) (wd) ((120:Int)) (by omega) (true) e) nilE))) (by kernel_rfl) rfl rfl
theorem sizesL_ok (zl wl:List Rng) (tab:Int) (h1:1≤tab) (h2:tab≤16):∀ (l:List Int) (at_:Int),0≤at_→∀ s ∈ sizesL zl wl tab at_ l,0≤s∧s≤16
 | [],_,_=>by simp [sizesL]
 | z :: l,at_,h0=>by
  have hz:=szOf_le zl wl tab at_ z h1 h2 h0
  intro s hs
  simp only [sizesL,List.mem_cons] at hs
  rcases hs with rfl | hs
  ·exact hz
  ·exact sizesL_ok zl wl tab h1 h2 l _ (by omega) s hs
theorem cellR_ok (x pa:Int) (k:Nat) (z s:Int) (h:0≤s∧s≤16):WOk (cellR x pa k z s):=by
 unfold WOk cellR
 split
 ·intro c hc
  rcases List.mem_cons.1 hc with rfl | hc
  ·simp [wOfC]
  ·rw [List.mem_replicate] at hc
   rw [hc.2];simp [wOfC]
 ·intro c hc
  simp only [List.mem_singleton] at hc
  rw [hc];exact h
theorem WOk.append {l m:List Cell} (h:WOk l) (h2:WOk m):WOk (l ++ m):=fun c hc=>by
 rcases List.mem_append.1 hc with h' | h'
 ·exact h c h'
 ·exact h2 c h'
theorem cellsL_ok (x pa:Int):∀ (rs ss:List Int) (k:Nat),(∀ s ∈ ss,0≤s∧s≤(16:Int))→WOk (cellsL x pa k rs ss)
 | [],ss,k,_=>by simp [cellsL,WOk]
 | z :: rs,[],k,_=>by simp [cellsL,WOk]
 | z :: rs,s :: ss,k,h=>by
  simp only [cellsL]
  exact (cellR_ok x pa k z s (h s (by simp))).append (cellsL_ok x pa rs ss (k + 1) (fun s hs=>h s (by simp [hs])))
theorem cellsA_ok:∀ (l:List Part) (ss:List Int),(∀ s ∈ ss,0≤s∧s≤(16:Int))→WOk (cellsA l ss)
 | [],ss,_=>by simp [cellsA,WOk]
 | p :: l,ss,h=>by
  simp only [cellsA]
  exact (cellsL_ok p.1 p.2.1 (rnOf p) ss 0 h).append (cellsA_ok l (ss.drop (rnOf p).length) (fun s hs=>h s (List.mem_of_mem_drop hs)))
theorem cellsOf_ok (zl wl:List Rng) (tab:Int) (h1:1≤tab) (h2:tab≤16) (l:List Part):WOk (cellsOf zl wl tab l):=cellsA_ok l _ (sizesL_ok zl wl tab h1 h2 _ 0 (by omega))
theorem cellsOf_len (zl wl:List Rng) (tab:Int) (h1:1≤tab) (h2:tab≤16) (l:List Part):(cellsOf zl wl tab l).length≤16 * (runesA l).length:=cellsA_len l _ (fun s hs=>(sizesL_ok zl wl tab h1 h2 _ 0 (by omega) s hs).2)
theorem WOk.indR (hg:Nat) (a:Int):WOk (indR hg a):=fun c hc=>by
 unfold Lay.indR at hc
 rw [List.mem_replicate] at hc
 rw [hc.2];simp [wOfC]
theorem rowG_ok (l:List Cell) (hw:WOk l) (hl:l.length≤60000) (r1:Int) (hg:Nat) (hh:hg≤100):∀ f k,∀ c ∈ rowG l r1 hg f k,WOk c∧c.length≤100000
 | 0,k=>by simp [rowG]
 | f + 1,k=>by
  rw [rowG_succ]
  split
  ·intro c hc
   rcases List.mem_cons.1 hc with rfl | hc
   ·refine ⟨(WOk.indR _ _).append ((hw.drop k).take _),?_⟩
    rw [List.length_append,List.length_take,List.length_drop]
    have:(Lay.indR hg (atOf l k)).length = hg:=by simp [Lay.indR]
    omega
   ·exact rowG_ok l hw hl r1 hg hh f _ c hc
  ·simp
theorem rowG_len (l:List Cell) (r1:Int) (hg:Nat):∀ f k,(rowG l r1 hg f k).length≤f
 | 0,k=>by simp [rowG]
 | f + 1,k=>by
  rw [rowG_succ]
  split
  ·have:=rowG_len l r1 hg f (k + takesC (l.drop k) r1);simp;omega
  ·simp
theorem rowsOf_ok (l:List Cell) (hw:WOk l) (hl:l.length≤60000) (wd:Int):(rowsOf l wd).length≤100000∧∀ c ∈ rowsOf l wd,WOk c∧c.length≤100000:=by
 have hh:=hangC_ge l hw wd
 unfold rowsOf
 split
 ·exact ⟨by simp,fun c hc=>by simp only [List.mem_singleton] at hc;subst hc;exact ⟨hw,by omega⟩⟩
 ·split
  ·unfold rowsM
   have:=rowG_len l (wd - hangC l wd) (hangC l wd).toNat l.length (startC l wd)
   refine ⟨by simp;omega,fun c hc=>?_⟩
   rcases List.mem_cons.1 hc with rfl | hc
   ·exact ⟨hw.take _,by rw [List.length_take];omega⟩
   ·exact rowG_ok l hw hl _ _ (by omega) _ _ c hc
  ·exact ⟨by simp,fun c hc=>by simp only [List.mem_singleton] at hc;subst hc;exact ⟨hw,by omega⟩⟩
def paP (p:Part):Int:=p.2.1
def kdP (p:Part):Int:=p.1
def lnP (p:Part):Nat:=p.2.2.1.length
def PlOk (fr k:Nat) (parts:List Part):Prop:=∀ p ∈ parts,(fr:Int)≤paP p∧paP p≤k∧(kdP p = 1→paP p + (lnP p:Nat)≤k)
theorem PlOk.ins {fr k:Nat} {il:List Inl} {parts:List Part} (h:PlOk fr k parts) (hk:fr≤k):PlOk fr k (withI il k parts):=by
 intro p hp
 unfold withI at hp
 rcases List.mem_append.1 hp with hp | hp
 ·exact h p hp
 ·obtain ⟨x,_,rfl⟩:=List.mem_map.1 hp
  have h1:kdP (partI (k:Int) x) = 2:=rfl
  have h2:paP (partI (k:Int) x) = (k:Int):=rfl
  rw [h1,h2]
  exact ⟨by omega,by omega,fun h=>absurd h (by decide)⟩
theorem PlOk.mono {fr k b:Nat} {parts:List Part} (h:PlOk fr k parts) (hb:k≤b):PlOk fr b parts:=fun p hp=>by
 obtain ⟨h1,h2,h3⟩:=h p hp
 exact ⟨h1,by omega,fun q=>by have:=h3 q;omega⟩
theorem PlOk.fold {fr k b:Nat} {parts:List Part} (h:PlOk fr k parts) (hk:fr≤k) (hb:k≤b):PlOk fr b (parts ++ [P3 3 (k:Int) []]):=by
 intro p hp
 rcases List.mem_append.1 hp with hp | hp
 ·exact h.mono hb p hp
 ·rw [List.mem_singleton] at hp
  subst hp
  have h1:kdP (P3 3 (k:Int) []) = 3:=rfl
  have h2:paP (P3 3 (k:Int) []) = (k:Int):=rfl
  rw [h1,h2]
  exact ⟨by omega,by omega,fun q=>absurd q (by decide)⟩
theorem mem_dropLast' {α} {x:α} {l:List α} (h:x ∈ l.dropLast):x ∈ l:=by
 rw [List.dropLast_eq_take] at h;exact List.mem_of_mem_take h
theorem PlOk.add {fr k:Nat} {parts:List Part} (h:PlOk fr k parts) (hk:fr≤k) (z:Int):PlOk fr (k + 1) (addP parts z (k:Int)):=by
 have hm:=h.mono (Nat.le_succ k)
 have hnew:∀ p,p = P3 1 (k:Int) [z] → (fr:Int)≤paP p∧paP p≤((k + 1:Nat):Int)∧(kdP p = 1→paP p + (lnP p:Nat)≤((k + 1:Nat):Int)):=by
  intro p e;subst e
  have h2:paP (P3 1 (k:Int) [z]) = (k:Int):=rfl
  have h3:lnP (P3 1 (k:Int) [z]) = 1:=rfl
  rw [h2,h3]
  exact ⟨by omega,by omega,fun _=>by omega⟩
 unfold addP
 cases e:parts.getLast? with
 | none=>intro p hp;exact hnew p (List.mem_singleton.1 hp)
 | some p0 =>
  have h0:=h p0 (List.mem_of_getLast? e)
  simp only
  split
  ·rename_i hc
   have hc2:paP p0 + (lnP p0:Nat) = (k:Int):=hc.2
   intro p hp
   rcases List.mem_append.1 hp with hp | hp
   ·exact hm p (mem_dropLast' hp)
   ·rw [List.mem_singleton] at hp
    have h2:paP p = paP p0:=by rw [hp];rfl
    have h3:lnP p = lnP p0 + 1:=by
     rw [hp]
     show (p0.2.2.1 ++ [z]).length = p0.2.2.1.length + 1
     rw [List.length_append];rfl
    rw [h2,h3]
    exact ⟨h0.1,by omega,fun _=>by omega⟩
  ·intro p hp
   rcases List.mem_append.1 hp with hp | hp
   ·exact hm p hp
   ·exact hnew p (List.mem_singleton.1 hp)
theorem goA_all (r:List Int) (il:List Inl) (hid:List Span) (fr:Nat) (hok:HidOk r.length hid) (h40:∀ x ∈ il,(Cmp.dec x.2.2.2.2.1).length≤40) :
  ∀ (f k:Nat) (parts:List Part),k≤r.length→fr≤k→PartsOk il k parts→PlOk fr k parts →
  (goA r il hid f k parts).1.length≤cntI il ((goA r il hid f k parts).2 + 1) + (goA r il hid f k parts).2∧(runesA (goA r il hid f k parts).1).length≤40 * cntI il ((goA r il hid f k parts).2 + 1) + (goA r il hid f k parts).2∧PlOk fr (goA r il hid f k parts).2 (goA r il hid f k parts).1
 | 0,k,parts,hk,hf,hp,hl=>by
  obtain ⟨h1,h2,_⟩:=hp.ins h40
  exact ⟨h1,h2,hl.ins hf⟩
 | f + 1,k,parts,hk,hf,hp,hl=>by
  unfold goA
  split
  ·obtain ⟨h1,h2,_⟩:=hp.ins h40
   exact ⟨h1,h2,hl.ins hf⟩
  ·rename_i h1
   split
   ·rename_i h2
    obtain ⟨h3,y,hy,h4,_⟩:=hidAt_gt h2 (by omega)
    have h5:(hidAt hid (k:Int)).2≤r.length:=by rw [h4];exact hok y hy
    exact goA_all r il hid fr hok h40 f _ _ (by omega) (by omega) (hp.fold h40 (by omega)) ((hl.ins hf).fold hf (by omega))
   ·have h6:k < r.length:=by
     apply Classical.byContradiction
     intro h7;exact h1 (.inl (by omega))
    exact goA_all r il hid fr hok h40 f _ _ (by omega) (by omega) (hp.plain h40 _) ((hl.ins hf).add hf _)
theorem lineAt_all (r:List Int) (il:List Inl) (hid:List Span) (fr:Nat) (hfr:fr≤r.length) (hok:HidOk r.length hid) (h40:∀ x ∈ il,(Cmp.dec x.2.2.2.2.1).length≤40) :
  (lineAt r il hid fr).1.length≤il.length + r.length∧(runesA (lineAt r il hid fr).1).length≤40 * il.length + r.length∧PlOk fr (lineAt r il hid fr).2 (lineAt r il hid fr).1:=by
 obtain ⟨h1,h2,h3⟩:=goA_all r il hid fr hok h40 r.length fr [] hfr (Nat.le_refl _) (partsOk_nil il fr) (fun p hp=>by cases hp)
 have hg:=lineAt_ge r il hid hok fr hfr
 have hc:cntI il ((lineAt r il hid fr).2 + 1)≤il.length:=List.countP_le_length
 unfold lineAt at hg hc ⊢
 exact ⟨by omega,by omega,h3⟩
def atC (c:Cell):Int:=c.2.2.2.1
def AtOk (lo hi:Int) (l:List Cell):Prop:=∀ c ∈ l,lo≤atC c∧atC c≤hi
theorem AtOk.append {lo hi:Int} {l m:List Cell} (h:AtOk lo hi l) (h2:AtOk lo hi m):AtOk lo hi (l ++ m):=fun c hc=>by
 rcases List.mem_append.1 hc with h' | h'
 ·exact h c h'
 ·exact h2 c h'
theorem AtOk.take {lo hi:Int} {l:List Cell} (h:AtOk lo hi l) (k:Nat):AtOk lo hi (l.take k):=fun c hc=>h c (List.mem_of_mem_take hc)
theorem AtOk.drop {lo hi:Int} {l:List Cell} (h:AtOk lo hi l) (k:Nat):AtOk lo hi (l.drop k):=fun c hc=>h c (List.mem_of_mem_drop hc)
theorem cellR_at (x pa:Int) (k:Nat) (z s:Int):∀ c ∈ cellR x pa k z s,atC c = atR x pa k:=by
 intro c hc
 unfold cellR at hc
 split at hc
 ·rcases List.mem_cons.1 hc with rfl | hc
  ·rfl
  ·rw [List.mem_replicate] at hc
   rw [hc.2];rfl
 ·simp only [List.mem_singleton] at hc
  rw [hc];rfl
theorem cellsL_at (x pa:Int):∀ (rs ss:List Int) (k:Nat),∀ c ∈ cellsL x pa k rs ss,∃ j,k≤j∧j < k + rs.length∧atC c = atR x pa j
 | [],ss,k=>by simp [cellsL]
 | z :: rs,[],k=>by simp [cellsL]
 | z :: rs,s :: ss,k=>by
  intro c hc
  simp only [cellsL] at hc
  rcases List.mem_append.1 hc with hc | hc
  ·exact ⟨k,Nat.le_refl _,by simp,cellR_at x pa k z s c hc⟩
  ·obtain ⟨j,h1,h2,h3⟩:=cellsL_at x pa rs ss (k + 1) c hc
   exact ⟨j,by omega,by simp only [List.length_cons];omega,h3⟩
theorem cellsA_at (fr to:Nat):∀ (l:List Part) (ss:List Int),PlOk fr to l→AtOk fr to (cellsA l ss)
 | [],ss,_=>by simp [cellsA,AtOk]
 | p :: l,ss,h=>by
  simp only [cellsA]
  refine AtOk.append (fun c hc=>?_) (cellsA_at fr to l _ (fun q hq=>h q (by simp [hq])))
  obtain ⟨j,h1,h2,h3⟩:=cellsL_at p.1 p.2.1 (rnOf p) ss 0 c hc
  obtain ⟨g1,g2,g3⟩:=h p (by simp)
  have e:atC c = if kdP p = 1 then paP p + j else paP p:=h3
  rw [e]
  by_cases q:kdP p = 1
  ·rw [if_pos q]
   have g4:=g3 q
   have hr:(rnOf p).length = lnP p:=by
    have q3:¬ p.1 = (3:Int):=by
     intro q4
     have:kdP p = 3:=q4
     omega
    unfold rnOf;rw [if_neg q3];rfl
   omega
  ·rw [if_neg q];omega
theorem indR_at {lo hi:Int} (hg:Nat) (a:Int) (h:lo≤a∧a≤hi):AtOk lo hi (indR hg a):=fun c hc=>by
 unfold indR at hc
 rw [List.mem_replicate] at hc
 rw [hc.2];exact h
theorem rowG_at {lo hi:Int} (l:List Cell) (hl:AtOk lo hi l) (r1:Int) (hg:Nat):∀ f k,∀ c ∈ rowG l r1 hg f k,AtOk lo hi c
 | 0,k=>by simp [rowG]
 | f + 1,k=>by
  rw [rowG_succ]
  split
  ·rename_i hk
   intro c hc
   rcases List.mem_cons.1 hc with rfl | hc
   ·have h1:lo≤atOf l k∧atOf l k≤hi:=by
     have:=hl (cellT.nth l k) (by rw [nth_get (e:=cellT) hk];exact List.getElem_mem hk)
     exact this
    exact (indR_at _ _ h1).append ((hl.drop k).take _)
   ·exact rowG_at l hl r1 hg f _ c hc
  ·simp
theorem rowsOf_at {lo hi:Int} (l:List Cell) (hl:AtOk lo hi l) (wd:Int):∀ c ∈ rowsOf l wd,AtOk lo hi c:=by
 unfold rowsOf
 split
 ·intro c hc;simp only [List.mem_singleton] at hc;subst hc;exact hl
 ·split
  ·unfold rowsM
   intro c hc
   rcases List.mem_cons.1 hc with rfl | hc
   ·exact hl.take _
   ·exact rowG_at l hl _ _ _ _ c hc
  ·intro c hc;simp only [List.mem_singleton] at hc;subst hc;exact hl
theorem sfR_at {lo hi:Int} (c:List Cell) (hc:AtOk lo hi c) (st:Int) (h:lo≤st∧st≤hi):∀ j,j≤c.length→lo≤(sfR c st j).1∧(sfR c st j).1≤hi
 | 0,_=>h
 | j + 1,hj=>by
  have ih:=sfR_at c hc st h j (by omega)
  have hk:c.length - 1 - j < c.length:=by omega
  have h1:lo≤atOf c (c.length - 1 - j)∧atOf c (c.length - 1 - j)≤hi:=by
   have:=hc (cellT.nth c (c.length - 1 - j)) (by rw [nth_get (e:=cellT) hk];exact List.getElem_mem hk)
   exact this
  show lo≤(sfA c (sfR c st j).1 (sfR c st j).2 (c.length - 1 - j)).1∧(sfA c (sfR c st j).1 (sfR c st j).2 (c.length - 1 - j)).1≤hi
  unfold sfA
  by_cases q:kdOf c (c.length - 1 - j) = 5
  ·simp only [if_pos q];exact ih
  ·simp only [if_neg q];exact h1
theorem stOf_at {lo hi:Int} (c:List Cell) (hc:AtOk lo hi c) (st:Int) (h:lo≤st∧st≤hi):lo≤stOf c st∧stOf c st≤hi:=sfR_at c hc st h c.length (Nat.le_refl _)
theorem allG_mem (r:List Int) (il:List Inl) (hid:List Span) (hok:HidOk r.length hid):∀ (f fr:Nat),fr≤r.length→∀ l ∈ allG r il hid f fr,∃ k,k≤r.length∧l = L3 (lineAt r il hid k).1 k (lineAt r il hid k).2
 | 0,fr,h=>by
  intro l hl
  rw [show allG r il hid 0 fr = [L3 (lineAt r il hid fr).1 fr (lineAt r il hid fr).2] from rfl,List.mem_singleton] at hl
  exact ⟨fr,h,hl⟩
 | f + 1,fr,h=>by
  intro l hl
  rw [allG_succ] at hl
  rcases List.mem_cons.1 hl with hl | hl
  ·exact ⟨fr,h,hl⟩
  ·split at hl
   ·rename_i h2
    exact allG_mem r il hid hok f _ (by omega) l hl
   ·cases hl
theorem allG_len (r:List Int) (il:List Inl) (hid:List Span):∀ (f fr:Nat),(allG r il hid f fr).length≤f + 1
 | 0,fr=>by rw [show allG r il hid 0 fr = [L3 (lineAt r il hid fr).1 fr (lineAt r il hid fr).2] from rfl];simp
 | f + 1,fr=>by
  rw [allG_succ]
  have:=allG_len r il hid f ((lineAt r il hid fr).2 + 1)
  rw [List.length_cons]
  split
  ·omega
  ·simp
theorem rowsOf_len (l:List Cell) (wd:Int):(rowsOf l wd).length≤l.length + 1:=by
 unfold rowsOf
 split
 ·simp
 ·split
  ·unfold rowsM
   have:=rowG_len l (wd - hangC l wd) (hangC l wd).toNat l.length (startC l wd)
   simp;omega
  ·simp
structure SmallV (r:List Int) (il:List Inl) (hid:List Span) (tab:Int):Prop where
 il60:il.length≤60
 r120:r.length≤120
 h40:∀ x ∈ il,(Cmp.dec x.2.2.2.2.1).length≤40
 ok:HidOk r.length hid
 t1:1≤tab
 t2:tab≤16
theorem SmallV.ln {r:List Int} {il:List Inl} {hid:List Span} {tab:Int} (h:SmallV r il hid tab) (zl wl:List Rng) (wd:Int) (k:Nat) (hk:k≤r.length) :
  LnOk r zl wl tab wd (lineAt r il hid k).1 (k:Int)∧(cellsOf zl wl tab (lineAt r il hid k).1).length≤40320:=by
 obtain ⟨a1,a2,a3⟩:=lineAt_all r il hid k hk h.ok h.h40
 have b1:=h.il60
 have b2:=h.r120
 have hg:=lineAt_ge r il hid h.ok k hk
 have hl:=cellsOf_len zl wl tab h.t1 h.t2 (lineAt r il hid k).1
 have hw:=cellsOf_ok zl wl tab h.t1 h.t2 (lineAt r il hid k).1
 have hr:=rowsOf_ok _ hw (by omega) wd
 have hca:AtOk (k:Int) ((lineAt r il hid k).2:Int) (cellsOf zl wl tab (lineAt r il hid k).1):=cellsA_at k (lineAt r il hid k).2 (lineAt r il hid k).1 _ a3
 have hat:=rowsOf_at _ hca wd
 refine ⟨⟨by omega,by omega,fun x hx=>?_,by omega,hw,⟨hr.1,fun c hc=>?_⟩,by omega⟩,by omega⟩
 ·obtain ⟨c1,c2,c3⟩:=a3 x hx
  exact ⟨Int.le_trans (by omega) c1,Int.le_trans c2 (by omega)⟩
 ·obtain ⟨d1,d2⟩:=hr.2 c hc
  have:=stOf_at c (hat c hc) (k:Int) ⟨Int.le_refl _,by omega⟩
  exact ⟨d1,d2,by omega,by omega⟩
theorem flat_le {α β} (f:α→List β) (n:Nat):∀ l:List α,(∀ x ∈ l,(f x).length≤n)→(l.flatMap f).length≤n * l.length
 | [],_=>by simp
 | x :: l,h=>by
  have h1:=h x (by simp)
  have h2:=flat_le f n l (fun y hy=>h y (by simp [hy]))
  rw [List.flatMap_cons,List.length_append,List.length_cons,Nat.mul_succ];omega
theorem SmallV.view {r:List Int} {il:List Inl} {hid:List Span} {tab:Int} (h:SmallV r il hid tab) (zl wl:List Rng) (wd:Int):ViewOk r il hid zl wl tab wd:=by
 have hlen:=allG_len r il hid r.length 0
 have b2:=h.r120
 refine ⟨fun l hl=>?_,?_,?_⟩
 ·obtain ⟨k,hk,rfl⟩:=allG_mem r il hid h.ok r.length 0 (by omega) l hl
  exact (h.ln zl wl wd k hk).1
 ·unfold allL;omega
 ·have h1:=flat_le (rowsLine r zl wl tab wd) 40321 (allL r il hid) (fun l hl=>by
   obtain ⟨k,hk,rfl⟩:=allG_mem r il hid h.ok r.length 0 (by omega) l hl
   have h2:=(h.ln zl wl wd k hk).2
   have h3:=rowsOf_len (cellsOf zl wl tab (lineAt r il hid k).1) wd
   show (lineRows r zl wl tab wd (lineAt r il hid k).1 (k:Int) ((lineAt r il hid k).2:Int)).length≤40321
   rw [lineRows_len];omega)
  unfold rowsAll
  unfold allL at h1 ⊢
  omega
theorem mem_insB {α:Type} (f:α→Bool) (x:α):∀ (l:List α) (z:α),z ∈ insB f x l→z = x∨z ∈ l
 | [],z,h=>by rw [show insB f x [] = [x] from rfl,List.mem_singleton] at h;exact .inl h
 | y :: l,z,h=>by
  unfold insB at h
  split at h
  ·rcases List.mem_cons.1 h with h | h
   ·exact .inl h
   ·exact .inr h
  ·rcases List.mem_cons.1 h with h | h
   ·exact .inr (by simp [h])
   ·rcases mem_insB f x l z h with h | h
    ·exact .inl h
    ·exact .inr (by simp [h])
theorem mem_foldF:∀ (l out:List Span) (z:Span),z ∈ l.foldl putF out→z ∈ out∨z ∈ l
 | [],out,z,h=>.inl h
 | x :: l,out,z,h=>by
  rcases mem_foldF l _ z h with h | h
  ·rcases mem_insB _ _ _ z h with h | h
   ·exact .inr (by simp [h])
   ·exact .inl h
  ·exact .inr (by simp [h])
def toS (y:Span):Int:=y.2.1
theorem hidR_ok (n:Int):∀ (f:Nat) (l:List Span),(∀ y ∈ l,toS y≤n)→∀ y ∈ hidR f l,toS y≤n
 | 0,l,h=>h
 | f + 1,[],h=>h
 | f + 1,[x],h=>h
 | f + 1,x :: y :: r,h=>by
  rw [hidR_two]
  have hx:=h x (by simp)
  have hy:=h y (by simp)
  split
  ·refine hidR_ok n f _ (fun z hz=>?_)
   rcases List.mem_cons.1 hz with hz | hz
   ·rw [hz]
    show mxI (toS x) (toS y)≤n
    unfold mxI;split <;> omega
   ·exact h z (by simp [hz])
  ·intro z hz
   rcases List.mem_cons.1 hz with hz | hz
   ·rw [hz];exact hx
   ·exact hidR_ok n f _ (fun w hw=>h w (by simp [hw])) z hz
theorem folds_ok (n:Nat) (fl:List Span) (h:errF n fl = 0):HidOk n (hidL (outF fl)):=by
 have h1:∀ y ∈ fl,toS y≤n:=by
  intro y hy
  obtain ⟨k,hk,rfl⟩:=List.mem_iff_getElem.1 hy
  have h2:=firstErr_zero h k hk
  unfold wrF at h2
  rw [nth_get (e:=spanT) hk] at h2
  simp only at h2
  split at h2
  ·cases h2
  ·rename_i h3
   show (fl[k].2.1:Int)≤n
   exact Int.not_lt.1 (fun h4=>h3 (.inr (.inr h4)))
 exact hidR_ok n _ _ (fun y hy=>by
  rcases mem_foldF fl [] y hy with h | h
  ·cases h
  ·exact h1 y h)
theorem mem_foldI:∀ (l out:List Inl) (z:Inl),z ∈ l.foldl putI out→z ∈ out∨∃ x ∈ l,z = clI x
 | [],out,z,h=>.inl h
 | x :: l,out,z,h=>by
  rcases mem_foldI l _ z h with h | ⟨y,hy,e⟩
  ·rcases mem_insB _ _ _ z h with h | h
   ·exact .inr ⟨x,by simp,h⟩
   ·exact .inl h
  ·exact .inr ⟨y,by simp [hy],e⟩
theorem inl_ok (n:Int) (il:List Inl) (h:errI n il = 0):∀ z ∈ outI il,(Cmp.dec z.2.2.2.2.1).length≤40:=by
 intro z hz
 rcases mem_foldI il [] z hz with h1 | ⟨x,hx,rfl⟩
 ·cases h1
 ·show (Cmp.dec (encAll (Cmp.dec x.2.2.2.2.1))).length≤40
  have e:Cmp.dec (encAll (Cmp.dec x.2.2.2.2.1)) = Cmp.dec x.2.2.2.2.1:=Cmp.dec_clean _
  rw [e]
  obtain ⟨k,hk,rfl⟩:=List.mem_iff_getElem.1 hx
  have h2:=errI_zero h k hk
  unfold wrI wrongI at h2
  rw [nth_get (e:=inlT) hk] at h2
  apply Classical.byContradiction
  intro h3
  split at h2
  ·cases h2
  ·rw [if_pos (by omega)] at h2
   cases h2
theorem small_view (n:Nat) (r:List Int) (hr:r.length = n) (h120:n≤120) (il:List Inl) (fl:List Span) (tab:Int) (t1:1≤tab) (t2:tab≤16) (h60:il.length≤60) (hi:errI n il = 0) (hf:errF n fl = 0):SmallV r (outI il) (hidL (outF fl)) tab :=
 ⟨by rw [outI_len];exact h60,by omega,inl_ok n il hi,by rw [hr];exact folds_ok n fl hf,t1,t2⟩
end Go.Proofs.Ytaobccodpdmieaa.Lay
