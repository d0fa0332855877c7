/- Lemmas for the law PointsStayLaw: texts of mine, merged. -/
import Derived.Test.YtaobccodpdmieaaMPointsStayLaw6
set_option maxRecDepth 100000
set_option linter.unusedSimpArgs false
set_option linter.unusedVariables false
set_option maxHeartbeats 4000000
namespace Go.Proofs.Ytaobccodpdmieaa.Lay
open Go Pv G Utf
theorem c2A1 (sz:List Int) (out:List Cell) (i:Nat) (ps:D) (pn pk x pa:Int) (rs:List Int) (k:Nat) (hi:i < sz.length) (hs:sz.length≤1000000) (hk:k < rs.length) (hr:rs.length≤1000000) (ho:out.length≤1000000) (hp0 : -1000000000≤pa) (hp1:pa≤1000000000) (z:Int) (e:i32T.nth rs k = z) (s:Int) (es:i64.nth sz i = s) (q:z ≠ 9) (q2:x = 1) (out2:List Cell) (eo:out ++ [C4 z x s (IntKind.wrap .i64 (pa + (k:Int)))] = out2):RdC XR 0 (ntOf XR FOfC) (lpKeep XR FOfC 2) (lpBody XR FOfC 2) 1 (stC2 sz out i ps pn pk x pa rs k) (stC2 sz out2 (i + 1) ps pn pk x pa rs (k + 1)):=by
 have hx0:(decide ((↑k:Int) < (↑rs.length:Int))) = true:=decide_eq_true (by omega)
 have hx1:(x == (1:Int)) = true:=decide_eq_true (by omega)
 have hx2:(z == (9:Int)) = false:=decide_eq_false (by omega)
 have hx3:(decide (s < s)) = false:=decide_eq_false (by omega)
 exact (pC (st':={ s:=[(10,(zs i64 sz)),(11,(zt 62 cellT out2)),(12,(zv (zw ((↑i:Int) + (1:Int))))),(14,(zo 0 0)),(34,(V.d ps)),(35,(zv pn)),(36,(zv pk)),(41,(zs i32T rs)),(42,(zv (↑rs.length:Int))),(43,(zv (zw ((↑k:Int) + (1:Int)))))],h:=[(zc [(zv x),(zv pa),(zs i32T rs)])],og:=[] }) 12 [(1,bt),(2,.v (V.d (D.ref (List.flatMap (Ty.enc i32T) rs) (k * 1)))),(3,.v (V.d (D.int IntKind.i32 z))),(5,.v (V.d (D.ref (List.flatMap (Ty.enc i64) sz) (i * 1)))),(6,.v (zv s)),(10,bt),(14,bf),(16,.v (Ty.tailV cellT (62 : TypeId) out2)),(19,.v (V.d (D.ref (List.flatMap (Ty.enc i64) sz) (i * 1)))),(20,.v (zv s)),(22,bf)] (cP hx3 (cP (@loadIntE (sz) ([(zc [(zv x),(zv pa),(zs i32T rs)]),(zc [(V.d (D.int IntKind.i32 z)),(zv x),(zv s),(zv (zw (pa + (↑k:Int))))])]) (i) hi (s) es) (cP (@iaddrIntN (sz) (i) hi) (cP (@appendCell (out) (z) (x) (s) (zw (pa + (↑k:Int))) (by omega) (out2) eo) (cP hx2 (cP hx1 (cP (@loadIntE (sz) ([(zc [(zv x),(zv pa),(zs i32T rs)])]) (i) hi (s) es) (cP (@iaddrIntN (sz) (i) hi) (cP (@loadRuneE (rs) ([(zc [(zv x),(zv pa),(zs i32T rs)])]) (k) hk (z) e) (cP (@iaddrRuneN (rs) (k) hk) (cP hx0 nilE))))))))))) (by kernel_rfl)).to (by simp (disch:=omega) [wrapId, *])
theorem c2A2 (sz:List Int) (out:List Cell) (i:Nat) (ps:D) (pn pk x pa:Int) (rs:List Int) (k:Nat) (hi:i < sz.length) (hs:sz.length≤1000000) (hk:k < rs.length) (hr:rs.length≤1000000) (ho:out.length≤1000000) (hp0 : -1000000000≤pa) (hp1:pa≤1000000000) (z:Int) (e:i32T.nth rs k = z) (s:Int) (es:i64.nth sz i = s) (q:z ≠ 9) (q2:x ≠ 1) (out2:List Cell) (eo:out ++ [C4 z x s pa] = out2):RdC XR 0 (ntOf XR FOfC) (lpKeep XR FOfC 2) (lpBody XR FOfC 2) 1 (stC2 sz out i ps pn pk x pa rs k) (stC2 sz out2 (i + 1) ps pn pk x pa rs (k + 1)):=by
 have hx0:(decide ((↑k:Int) < (↑rs.length:Int))) = true:=decide_eq_true (by omega)
 have hx1:(x == (1:Int)) = false:=decide_eq_false (by omega)
 have hx2:(z == (9:Int)) = false:=decide_eq_false (by omega)
 have hx3:(decide (s < s)) = false:=decide_eq_false (by omega)
 exact (pC (st':={ s:=[(10,(zs i64 sz)),(11,(zt 62 cellT out2)),(12,(zv (zw ((↑i:Int) + (1:Int))))),(14,(zo 0 0)),(34,(V.d ps)),(35,(zv pn)),(36,(zv pk)),(41,(zs i32T rs)),(42,(zv (↑rs.length:Int))),(43,(zv (zw ((↑k:Int) + (1:Int)))))],h:=[(zc [(zv x),(zv pa),(zs i32T rs)])],og:=[] }) 12 [(1,bt),(2,.v (V.d (D.ref (List.flatMap (Ty.enc i32T) rs) (k * 1)))),(3,.v (V.d (D.int IntKind.i32 z))),(5,.v (V.d (D.ref (List.flatMap (Ty.enc i64) sz) (i * 1)))),(6,.v (zv s)),(10,bf),(12,bf),(14,.v (Ty.tailV cellT (62 : TypeId) out2)),(17,.v (V.d (D.ref (List.flatMap (Ty.enc i64) sz) (i * 1)))),(18,.v (zv s)),(20,bf)] (cP hx3 (cP (@loadIntE (sz) ([(zc [(zv x),(zv pa),(zs i32T rs)]),(zc [(V.d (D.int IntKind.i32 z)),(zv x),(zv s),(zv pa)])]) (i) hi (s) es) (cP (@iaddrIntN (sz) (i) hi) (cP (@appendCell (out) (z) (x) (s) (pa) (by omega) (out2) eo) (cP hx2 (cP hx1 (cP (@loadIntE (sz) ([(zc [(zv x),(zv pa),(zs i32T rs)])]) (i) hi (s) es) (cP (@iaddrIntN (sz) (i) hi) (cP (@loadRuneE (rs) ([(zc [(zv x),(zv pa),(zs i32T rs)])]) (k) hk (z) e) (cP (@iaddrRuneN (rs) (k) hk) (cP hx0 nilE))))))))))) (by kernel_rfl)).to (by simp (disch:=omega) [wrapId, *])
theorem c2B1 (sz:List Int) (out:List Cell) (i:Nat) (ps:D) (pn pk x pa:Int) (rs:List Int) (k:Nat) (hi:i < sz.length) (hs:sz.length≤1000000) (hk:k < rs.length) (hr:rs.length≤1000000) (ho:out.length≤1000000) (hp0 : -1000000000≤pa) (hp1:pa≤1000000000) (z:Int) (e:i32T.nth rs k = z) (s:Int) (es:i64.nth sz i = s) (q:z = 9) (q2:x = 1) (out1:List Cell) (eo:out ++ [C4 z x 1 (IntKind.wrap .i64 (pa + (k:Int)))] = out1) (out2:List Cell) (n2:Int) (h3:C3L sz out1 i ps (i32T.slD rs) pn pk (rs.length:Int) k x pa (i32T.slD rs) z x 1 (IntKind.wrap .i64 (pa + (k:Int))) out2 n2):RdC XR 0 (ntOf XR FOfC) (lpKeep XR FOfC 2) (lpBody XR FOfC 2) 1 (stC2 sz out i ps pn pk x pa rs k) (stC2 sz out2 (i + 1) ps pn pk x pa rs (k + 1)):=by
 have hx0:(decide ((↑k:Int) < (↑rs.length:Int))) = true:=decide_eq_true (by omega)
 have hx1:(x == (1:Int)) = true:=decide_eq_true (by omega)
 have hx2:(z == (9:Int)) = true:=decide_eq_true (by omega)
 exact (pC (st':={ s:=[(10,(zs i64 sz)),(11,(zt 62 cellT out2)),(12,(zv (zw ((↑i:Int) + (1:Int))))),(14,(zo 0 0)),(34,(V.d ps)),(35,(zv pn)),(36,(zv pk)),(41,(zs i32T rs)),(42,(zv (↑rs.length:Int))),(43,(zv (zw ((↑k:Int) + (1:Int)))))],h:=[(zc [(zv x),(zv pa),(zs i32T rs)])],og:=[] }) 12 [(1,bt),(2,.v (V.d (D.ref (List.flatMap (Ty.enc i32T) rs) (k * 1)))),(3,.v (V.d (D.int IntKind.i32 z))),(5,.v (V.d (D.ref (List.flatMap (Ty.enc i64) sz) (i * 1)))),(6,.v (zv s)),(10,bt),(14,bt),(16,.v (Ty.tailV cellT (62 : TypeId) out1)),(18,.l (Ex.exit 6) (stC3x sz out2 (↑i:Int) n2 ps (zd i32T rs) pn pk (↑rs.length:Int) (↑k:Int) (partO x pa (zd i32T rs)) (cellO z x (1:Int) (zw (pa + (↑k:Int))))))] (cE (@c3Lp (sz) (out1) (i) (ps) (zd i32T rs) (pn) (pk) ((↑rs.length:Int)) ((↑k:Int)) (x) (pa) (zd i32T rs) (z) (x) ((1:Int)) (zw (pa + (↑k:Int))) (out2) (n2) h3) (cP (@appendCell (out) (z) (x) ((1:Int)) (zw (pa + (↑k:Int))) (by omega) (out1) eo) (cP hx2 (cP hx1 (cP (@loadIntE (sz) ([(zc [(zv x),(zv pa),(zs i32T rs)])]) (i) hi (s) es) (cP (@iaddrIntN (sz) (i) hi) (cP (@loadRuneE (rs) ([(zc [(zv x),(zv pa),(zs i32T rs)])]) (k) hk (z) e) (cP (@iaddrRuneN (rs) (k) hk) (cP hx0 nilE))))))))) (by kernel_rfl)).to (by simp (disch:=omega) [wrapId, *])
theorem c2B2 (sz:List Int) (out:List Cell) (i:Nat) (ps:D) (pn pk x pa:Int) (rs:List Int) (k:Nat) (hi:i < sz.length) (hs:sz.length≤1000000) (hk:k < rs.length) (hr:rs.length≤1000000) (ho:out.length≤1000000) (hp0 : -1000000000≤pa) (hp1:pa≤1000000000) (z:Int) (e:i32T.nth rs k = z) (s:Int) (es:i64.nth sz i = s) (q:z = 9) (q2:x ≠ 1) (out1:List Cell) (eo:out ++ [C4 z x 1 pa] = out1) (out2:List Cell) (n2:Int) (h3:C3L sz out1 i ps (i32T.slD rs) pn pk (rs.length:Int) k x pa (i32T.slD rs) z x 1 pa out2 n2):RdC XR 0 (ntOf XR FOfC) (lpKeep XR FOfC 2) (lpBody XR FOfC 2) 1 (stC2 sz out i ps pn pk x pa rs k) (stC2 sz out2 (i + 1) ps pn pk x pa rs (k + 1)):=by
 have hx0:(decide ((↑k:Int) < (↑rs.length:Int))) = true:=decide_eq_true (by omega)
 have hx1:(x == (1:Int)) = false:=decide_eq_false (by omega)
 have hx2:(z == (9:Int)) = true:=decide_eq_true (by omega)
 exact (pC (st':={ s:=[(10,(zs i64 sz)),(11,(zt 62 cellT out2)),(12,(zv (zw ((↑i:Int) + (1:Int))))),(14,(zo 0 0)),(34,(V.d ps)),(35,(zv pn)),(36,(zv pk)),(41,(zs i32T rs)),(42,(zv (↑rs.length:Int))),(43,(zv (zw ((↑k:Int) + (1:Int)))))],h:=[(zc [(zv x),(zv pa),(zs i32T rs)])],og:=[] }) 12 [(1,bt),(2,.v (V.d (D.ref (List.flatMap (Ty.enc i32T) rs) (k * 1)))),(3,.v (V.d (D.int IntKind.i32 z))),(5,.v (V.d (D.ref (List.flatMap (Ty.enc i64) sz) (i * 1)))),(6,.v (zv s)),(10,bf),(12,bt),(14,.v (Ty.tailV cellT (62 : TypeId) out1)),(16,.l (Ex.exit 6) (stC3x sz out2 (↑i:Int) n2 ps (zd i32T rs) pn pk (↑rs.length:Int) (↑k:Int) (partO x pa (zd i32T rs)) (cellO z x (1:Int) pa)))] (cE (@c3Lp (sz) (out1) (i) (ps) (zd i32T rs) (pn) (pk) ((↑rs.length:Int)) ((↑k:Int)) (x) (pa) (zd i32T rs) (z) (x) ((1:Int)) (pa) (out2) (n2) h3) (cP (@appendCell (out) (z) (x) ((1:Int)) (pa) (by omega) (out1) eo) (cP hx2 (cP hx1 (cP (@loadIntE (sz) ([(zc [(zv x),(zv pa),(zs i32T rs)])]) (i) hi (s) es) (cP (@iaddrIntN (sz) (i) hi) (cP (@loadRuneE (rs) ([(zc [(zv x),(zv pa),(zs i32T rs)])]) (k) hk (z) e) (cP (@iaddrRuneN (rs) (k) hk) (cP hx0 nilE))))))))) (by kernel_rfl)).to (by simp (disch:=omega) [wrapId, *])
theorem c2X (sz:List Int) (out:List Cell) (i:Int) (ps:D) (pn pk x pa:Int) (rs:List Int):Rd XR 0 (ntOf XR FOfC) (lpBody XR FOfC 2) (stC2 sz out i ps pn pk x pa rs rs.length) (.exit 4,stC2x sz out i ps pn pk x pa rs):=by
 have hx0:(decide ((↑rs.length:Int) < (↑rs.length:Int))) = false:=decide_eq_false (by omega)
 exact (pR (r:=((Ex.exit 4),{ s:=[(10,(zs i64 sz)),(11,(zt 62 cellT out)),(12,(zv i)),(14,(zo 0 0)),(34,(V.d ps)),(35,(zv pn)),(36,(zv pk)),(41,(zs i32T rs)),(42,(zv (↑rs.length:Int))),(43,(zv (↑rs.length:Int))),(44,(zb (decide ((↑rs.length:Int) < (↑rs.length:Int)))))],h:=[(zc [(zv x),(zv pa),(zs i32T rs)])],og:=[] })) 12 [(1,bf)] (cP hx0 nilE) (by kernel_rfl)).to (by simp (disch:=omega) [wrapId, *])
def atR (x pa:Int) (k:Nat):Int:=if x = 1 then pa + k else pa
def cellR (x pa:Int) (k:Nat) (z s:Int):List Cell:=if z = 9 then C4 z x 1 (atR x pa k) :: List.replicate (s.toNat - 1) (C4 32 4 1 (atR x pa k)) else [C4 z x s (atR x pa k)]
def cellsL (x pa:Int):Nat→List Int→List Int→List Cell
 | k,z :: rs,s :: ss=>cellR x pa k z s ++ cellsL x pa (k + 1) rs ss
 | _,_,_=>[]
theorem cellR_len (x pa:Int) (k:Nat) (z s:Int) (h:s≤16):(cellR x pa k z s).length≤16:=by
 unfold cellR;split
 ·simp;omega
 ·simp
theorem c2 (sz:List Int) (out:List Cell) (i:Nat) (ps:D) (pn pk x pa:Int) (rs:List Int) (k:Nat) (hi:i < sz.length) (hs:sz.length≤60000) (hk:k < rs.length) (hr:rs.length≤60000) (ho:out.length≤990000) (hp0 : -100000000≤pa) (hp1:pa≤100000000) (h16:i64.nth sz i≤(16:Int)) :
  RdC XR 0 (ntOf XR FOfC) (lpKeep XR FOfC 2) (lpBody XR FOfC 2) 1 (stC2 sz out i ps pn pk x pa rs k) (stC2 sz (out ++ cellR x pa k (i32T.nth rs k) (i64.nth sz i)) (i + 1) ps pn pk x pa rs (k + 1)):=by
 have hw:IntKind.wrap .i64 (pa + (k:Int)) = pa + k:=wrapId _ (by omega) (by omega)
 unfold cellR atR
 by_cases q2:x = 1
 ·rw [if_pos q2]
  by_cases q:i32T.nth rs k = (9:Int)
  ·rw [if_pos q]
   have e:out ++ C4 (i32T.nth rs k) x 1 (pa + k) :: List.replicate ((i64.nth sz i:Int).toNat - 1) (C4 32 4 1 (pa + k)) = (out ++ [C4 (i32T.nth rs k) x 1 (pa + k)]) ++ List.replicate ((i64.nth sz i:Int).toNat - 1) (C4 32 4 1 (pa + k)):=by simp
   rw [e]
   obtain ⟨n2,h3⟩:=c3L sz (out ++ [C4 (i32T.nth rs k) x 1 (IntKind.wrap .i64 (pa + (k:Int)))]) i ps (i32T.slD rs) pn pk (rs.length:Int) k x pa (i32T.slD rs) (i32T.nth rs k) x 1 (IntKind.wrap .i64 (pa + (k:Int))) hi _ rfl (Int.le_trans h16 (by decide)) (by rw [List.length_append];simp;omega)
   rw [hw] at h3
   exact c2B1 sz out i ps pn pk x pa rs k hi (by omega) hk (by omega) (by omega) (by omega) (by omega) _ rfl _ rfl q q2 _ (by rw [hw]) _ n2 (by rw [hw];exact h3)
  ·rw [if_neg q]
   exact c2A1 sz out i ps pn pk x pa rs k hi (by omega) hk (by omega) (by omega) (by omega) (by omega) _ rfl _ rfl q q2 _ (by rw [hw])
 ·rw [if_neg q2]
  by_cases q:i32T.nth rs k = (9:Int)
  ·rw [if_pos q]
   have e:out ++ C4 (i32T.nth rs k) x 1 pa :: List.replicate ((i64.nth sz i:Int).toNat - 1) (C4 32 4 1 pa) = (out ++ [C4 (i32T.nth rs k) x 1 pa]) ++ List.replicate ((i64.nth sz i:Int).toNat - 1) (C4 32 4 1 pa):=by simp
   rw [e]
   obtain ⟨n2,h3⟩:=c3L sz (out ++ [C4 (i32T.nth rs k) x 1 pa]) i ps (i32T.slD rs) pn pk (rs.length:Int) k x pa (i32T.slD rs) (i32T.nth rs k) x 1 pa hi _ rfl (Int.le_trans h16 (by decide)) (by rw [List.length_append];simp;omega)
   exact c2B2 sz out i ps pn pk x pa rs k hi (by omega) hk (by omega) (by omega) (by omega) (by omega) _ rfl _ rfl q q2 _ rfl _ n2 h3
  ·rw [if_neg q]
   exact c2A2 sz out i ps pn pk x pa rs k hi (by omega) hk (by omega) (by omega) (by omega) (by omega) _ rfl _ rfl q q2 _ rfl
theorem c2LC (sz:List Int) (ps:D) (pn pk x pa:Int) (rs:List Int) (hs:sz.length≤60000) (hr:rs.length≤60000) (hp0 : -100000000≤pa) (hp1:pa≤100000000) (h16:∀ s ∈ sz,s≤(16:Int)) (i0:Nat) (hi0:i0 + rs.length≤sz.length) :
  ∀ (j k m:Nat) (out:List Cell),k + j = rs.length→j < m→out.length≤16 * (i0 + k) →
  LpC XR 0 (ntOf XR FOfC) (lpKeep XR FOfC 2) (lpBody XR FOfC 2) 1 m (stC2 sz out ((i0 + k:Nat):Int) ps pn pk x pa rs k) (.exit 4,stC2x sz (out ++ cellsL x pa k (rs.drop k) (sz.drop (i0 + k))) ((i0 + rs.length:Nat):Int) ps pn pk x pa rs):=by
 intro j
 induction j with
 | zero =>
  intro k m out hk hm ho
  obtain rfl:k = rs.length:=by omega
  obtain ⟨m,rfl⟩:∃ z,m = z + 1:=⟨m - 1,by omega⟩
  rw [List.drop_length]
  have e:out ++ cellsL x pa rs.length [] (sz.drop (i0 + rs.length)) = out:=by simp [cellsL]
  rw [e]
  exact LpC.last (c2X sz out _ ps pn pk x pa rs) (by simp)
 | succ j ih =>
  intro k m out hk hm ho
  obtain ⟨m,rfl⟩:∃ z,m = z + 1:=⟨m - 1,by omega⟩
  have hkr:k < rs.length:=by omega
  have hi:i0 + k < sz.length:=by omega
  have hd:rs.drop k = i32T.nth rs k :: rs.drop (k + 1):=by rw [List.drop_eq_getElem_cons hkr,nth_get (e:=i32T) hkr]
  have hds:sz.drop (i0 + k) = i64.nth sz (i0 + k) :: sz.drop (i0 + k + 1):=by rw [List.drop_eq_getElem_cons hi,nth_get (e:=i64) hi]
  have h6:i64.nth sz (i0 + k)≤(16:Int):=by rw [nth_get (e:=i64) hi];exact h16 _ (List.getElem_mem hi)
  have hr2:=c2 sz out (i0 + k) ps pn pk x pa rs k hi hs hkr hr (by omega) hp0 hp1 h6
  have hcl:=cellR_len x pa k (i32T.nth rs k) (i64.nth sz (i0 + k)) h6
  have hi2:=ih (k + 1) m (out ++ cellR x pa k (i32T.nth rs k) (i64.nth sz (i0 + k))) (by omega) (by omega) (by rw [List.length_append];omega)
  rw [hd,hds]
  have e:out ++ cellsL x pa k (i32T.nth rs k :: rs.drop (k + 1)) (i64.nth sz (i0 + k) :: sz.drop (i0 + k + 1)) = out ++ cellR x pa k (i32T.nth rs k) (i64.nth sz (i0 + k)) ++ cellsL x pa (k + 1) (rs.drop (k + 1)) (sz.drop (i0 + (k + 1))):=by simp [cellsL,Nat.add_assoc]
  rw [e]
  exact LpC.next hr2 hi2
def C2L (sz:List Int) (out:List Cell) (i:Nat) (ps:D) (pn pk x pa:Int) (rs:List Int) (out2:List Cell) (i2:Int):Prop :=
 Lp XR 0 (ntOf XR FOfC) (lpKeep XR FOfC 2) (lpBody XR FOfC 2) 1 FUEL (stC2 sz out i ps pn pk x pa rs 0) (.exit 4,stC2x sz out2 i2 ps pn pk x pa rs)
theorem c2L (sz:List Int) (ps:D) (pn pk x pa:Int) (rs:List Int) (hs:sz.length≤60000) (hr:rs.length≤60000) (hp0 : -100000000≤pa) (hp1:pa≤100000000) (h16:∀ s ∈ sz,s≤(16:Int)) (i0:Nat) (hi0:i0 + rs.length≤sz.length) (out:List Cell) (ho:out.length≤16 * i0) :
  C2L sz out i0 ps pn pk x pa rs (out ++ cellsL x pa 0 rs (sz.drop i0)) ((i0 + rs.length:Nat):Int):=by
 have h:=c2LC sz ps pn pk x pa rs hs hr hp0 hp1 h16 i0 hi0 rs.length 0 1152921504606846975 out (by omega) (by omega) (by omega)
 rw [List.drop_zero,Nat.add_zero] at h
 exact LpC.start h (by kernel_rfl)
theorem c2Lp:∀ (sz:List Int) (out:List Cell) (i:Nat) (ps:D) (pn pk x pa:Int) (rs:List Int) (out2:List Cell) (i2:Int) (h:C2L sz out i ps pn pk x pa rs out2 i2),
 Lp XR 0 (ntOf XR FOfC) (lpKeep XR FOfC 2) (lpBody XR FOfC 2) 1 FUEL ⟨[(10,.d (i64.slD sz)),(11,cellT.tailV 62 out),(12,.d (.int .i64 (i:Int))),(14,.obj 0 0),(34,.d ps),(35,.d (.int .i64 pn)),(36,.d (.int .i64 pk)),(41,.d (i32T.slD rs)),(42,.d (.int .i64 (rs.length:Int))),(43,.d (.int .i64 0))],[partO x pa (i32T.slD rs)],[]⟩ (.exit 4,stC2x sz out2 i2 ps pn pk x pa rs):=fun _ _ _ _ _ _ _ _ _ _ _ h=>h
abbrev stC1 (sz:List Int) (out:List Cell) (i:Int) (l:List Part) (k:Int):St:=⟨[(10,.d (i64.slD sz)),(11,cellT.tailV 62 out),(12,.d (.int .i64 i)),(34,.d (partT.slD l)),(35,.d (.int .i64 (l.length:Int))),(36,.d (.int .i64 k))],[],[]⟩
abbrev stC1x (sz:List Int) (out:List Cell) (i:Int) (l:List Part):St:=⟨[(10,.d (i64.slD sz)),(11,cellT.tailV 62 out),(12,.d (.int .i64 i)),(34,.d (partT.slD l)),(35,.d (.int .i64 (l.length:Int))),(36,.d (.int .i64 (l.length:Int))),(37,.d (.bool false))],[],[]⟩
theorem c1A (sz:List Int) (out:List Cell) (i:Nat) (l:List Part) (k:Nat) (hl:l.length≤100000) (hk:k < l.length) (x a:Int) (r:List Int) (e:partT.nth l k = P3 x a r) (q:x ≠ 3) (out2:List Cell) (i2:Int) (h2:C2L sz out i (partT.slD l) (l.length:Int) k x a r out2 i2):RdC XR 0 (ntOf XR FOfC) (lpKeep XR FOfC 1) (lpBody XR FOfC 1) 0 (stC1 sz out i l k) (stC1 sz out2 i2 l (k + 1)):=by
 have hx0:(decide ((↑k:Int) < (↑l.length:Int))) = true:=decide_eq_true (by omega)
 exact (pC (st':={ s:=[(10,(zs i64 sz)),(11,(zt 62 cellT out2)),(12,(zv i2)),(34,(zs partT l)),(35,(zv (↑l.length:Int))),(36,(zv (zw ((↑k:Int) + (1:Int)))))],h:=[],og:=[] }) 12 [(1,bt),(2,.v (V.d (D.ref (List.flatMap (Ty.enc partT) l) (k * 3)))),(3,.v (V.d (D.agg [(zi x),(zi a),(Ty.slD i32T r)]))),(5,.v (V.d (Ty.slD i32T r))),(7,.l (Ex.exit 4) (stC2x sz out2 i2 (zd partT l) (↑l.length:Int) (↑k:Int) x a r))] (cE (@c2Lp (sz) (out) (i) (zd partT l) ((↑l.length:Int)) ((↑k:Int)) (x) (a) (r) (out2) (i2) h2) (cC (@rnB (x) (a) (r) q) (cP (@loadPartE (l) ([]) (k) hk (x) (a) (r) e) (cP (@iaddrPartN (l) (k) hk) (cP hx0 nilE))))) (by kernel_rfl)).to (by simp (disch:=omega) [wrapId, *])
theorem c1B (sz:List Int) (out:List Cell) (i:Nat) (l:List Part) (k:Nat) (hi:i < sz.length) (hs:sz.length≤1000000) (ho:out.length≤10000000) (hl:l.length≤100000) (hk:k < l.length) (x a:Int) (r:List Int) (e:partT.nth l k = P3 x a r) (q:x = 3) (s:Int) (es:i64.nth sz i = s) (out2:List Cell) (eo:out ++ [C4 8230 x s a] = out2):RdC XR 0 (ntOf XR FOfC) (lpKeep XR FOfC 1) (lpBody XR FOfC 1) 0 (stC1 sz out i l k) (stC1 sz out2 (i + 1) l (k + 1)):=by
 have hx0:(decide ((↑k:Int) < (↑l.length:Int))) = true:=decide_eq_true (by omega)
 have hx1:(x == (1:Int)) = false:=decide_eq_false (by omega)
 have hx2:(decide (s < s)) = false:=decide_eq_false (by omega)
 exact (pC (st':={ s:=[(10,(zs i64 sz)),(11,(zt 62 cellT out2)),(12,(zv (zw ((↑i:Int) + (1:Int))))),(34,(zs partT l)),(35,(zv (↑l.length:Int))),(36,(zv (zw ((↑k:Int) + (1:Int)))))],h:=[],og:=[] }) 12 [(1,bt),(2,.v (V.d (D.ref (List.flatMap (Ty.enc partT) l) (k * 3)))),(3,.v (V.d (D.agg [(zi x),(zi a),(Ty.slD i32T r)]))),(5,.v (V.full [(D.int IntKind.i32 (8230:Int))] 1)),(13,.v (V.d (D.ref (List.flatMap (Ty.enc i64) sz) (i * 1)))),(14,.v (zv s)),(18,bf),(22,.v (Ty.tailV cellT (62 : TypeId) out2)),(25,.v (V.d (D.ref (List.flatMap (Ty.enc i64) sz) (i * 1)))),(26,.v (zv s)),(28,bf)] (cP hx2 (cP (@loadIntE (sz) ([(zc [(zv x),(zv a),(zs i32T r)]),(zc [(V.d (D.int IntKind.i32 (8230:Int))),(zv x),(zv s),(zv a)])]) (i) hi (s) es) (cP (@iaddrIntN (sz) (i) hi) (cP (@appendCell (out) ((8230:Int)) (x) (s) (a) ho (out2) eo) (cP hx1 (cP (@loadIntE (sz) ([(zc [(zv x),(zv a),(zs i32T r)])]) (i) hi (s) es) (cP (@iaddrIntN (sz) (i) hi) (cC (@rnA (x) (a) (r) q) (cP (@loadPartE (l) ([]) (k) hk (x) (a) (r) e) (cP (@iaddrPartN (l) (k) hk) (cP hx0 nilE))))))))))) (by kernel_rfl)).to (by simp (disch:=omega) [wrapId, *])
theorem c1X (sz:List Int) (out:List Cell) (i:Int) (l:List Part):Rd XR 0 (ntOf XR FOfC) (lpBody XR FOfC 1) (stC1 sz out i l l.length) (.exit 2,stC1x sz out i l):=by
 have hx0:(decide ((↑l.length:Int) < (↑l.length:Int))) = false:=decide_eq_false (by omega)
 exact (pR (r:=((Ex.exit 2),{ s:=[(10,(zs i64 sz)),(11,(zt 62 cellT out)),(12,(zv i)),(34,(zs partT l)),(35,(zv (↑l.length:Int))),(36,(zv (↑l.length:Int))),(37,(zb (decide ((↑l.length:Int) < (↑l.length:Int)))))],h:=[],og:=[] })) 12 [(1,bf)] (cP hx0 nilE) (by kernel_rfl)).to (by simp (disch:=omega) [wrapId, *])
def cellsA:List Part→List Int→List Cell
 | [],_=>[]
 | p :: l,ss=>cellsL p.1 p.2.1 0 (rnOf p) ss ++ cellsA l (ss.drop (rnOf p).length)
def runesA (l:List Part):List Int:=l.flatMap rnOf
def C0L (T:D) (l:List Part) (tab:Int) (all:List Int):Prop:=Lp XR 0 (ntOf XR FOfC) (lpKeep XR FOfC 0) (lpBody XR FOfC 0) 0 FUEL (stC0 T l tab [] 0) (.exit 0,stC0x T l tab all)
theorem c0L (T:D) (l:List Part) (tab:Int) (hl:l.length≤10000) (hr:(runesA l).length≤50000):C0L T l tab (runesA l):=by
 have hx:Rd XR 0 (ntOf XR FOfC) (lpBody XR FOfC 0) (stC0 T l tab (runesA (l.take l.length)) l.length) (.exit 0,stC0x T l tab (runesA l)):=by rw [List.take_length];exact c0X T l tab _
 refine Lp.run (fun k=>stC0 T l tab (runesA (l.take k)) k) l.length (by omega) (by kernel_rfl) (fun k hk=>?_) hx (by simp)
 have hs:runesA (l.take (k + 1)) = runesA (l.take k) ++ rnOf (partT.nth l k):=by
  unfold runesA;rw [take_succ_nth (e:=partT) hk,List.flatMap_append];simp
 have hlen:(runesA (l.take (k + 1))).length≤50000:=by
  have:runesA l = runesA (l.take (k + 1)) ++ runesA (l.drop (k + 1)):=by
   unfold runesA;rw [← List.flatMap_append,List.take_append_drop]
  rw [this,List.length_append] at hr;omega
 rw [hs,List.length_append] at hlen
 obtain ⟨x,a,r,u,e⟩:∃ x a r,∃ u:Unit,partT.nth l k = (x,a,r,u):=⟨_,_,_,_,rfl⟩
 rw [hs]
 rw [e] at hlen ⊢
 unfold rnOf at hlen ⊢
 simp only at hlen ⊢
 by_cases q:(x:Int) = 3
 ·rw [if_pos q] at hlen ⊢
  exact c0B T l tab _ k (by omega) hk (by omega) x a r e q _ rfl
 ·rw [if_neg q] at hlen ⊢
  exact c0A T l tab _ k (by omega) hk (by omega) x a r e (by omega) q _ rfl
theorem c0Lp:∀ (T:D) (l:List Part) (tab:Int) (all:List Int) (h:C0L T l tab all),Lp XR 0 (ntOf XR FOfC) (lpKeep XR FOfC 0) (lpBody XR FOfC 0) 0 FUEL ⟨[(0,.d T),(1,.d (partT.slD l)),(2,.d (.int .i64 tab)),(7,i32T.tailV 21 []),(19,.d (partT.slD l)),(20,.d (.int .i64 (l.length:Int))),(21,.d (.int .i64 0))],[],[]⟩ (.exit 0,stC0x T l tab all):=fun _ _ _ _ h=>h
theorem cellsL_len (x pa:Int):∀ (rs ss:List Int) (k:Nat),(∀ s ∈ ss,s≤(16:Int))→(cellsL x pa k rs ss).length≤16 * rs.length
 | [],ss,k,_=>by simp [cellsL]
 | z :: rs,[],k,_=>by simp [cellsL]
 | z :: rs,s :: ss,k,h=>by
  have h1:=cellR_len x pa k z s (h s (by simp))
  have h2:=cellsL_len x pa rs ss (k + 1) (fun s hs=>h s (by simp [hs]))
  simp only [cellsL,List.length_append,List.length_cons];omega
theorem cellsA_len:∀ (l:List Part) (ss:List Int),(∀ s ∈ ss,s≤(16:Int))→(cellsA l ss).length≤16 * (runesA l).length
 | [],ss,_=>by simp [cellsA]
 | p :: l,ss,h=>by
  have h1:=cellsL_len p.1 p.2.1 (rnOf p) ss 0 h
  have h2:=cellsA_len l (ss.drop (rnOf p).length) (fun s hs=>h s (List.mem_of_mem_drop hs))
  have e:runesA (p :: l) = rnOf p ++ runesA l:=rfl
  rw [e,List.length_append]
  simp only [cellsA,List.length_append];omega
theorem c1LC (sz:List Int) (l:List Part) (hs:sz.length≤50000) (hl:l.length≤10000) (h16:∀ s ∈ sz,s≤(16:Int)) (hp:∀ p ∈ l,(-100000000:Int)≤p.2.1∧(p.2.1:Int)≤100000000) :
  ∀ (j k m i:Nat) (out:List Cell),k + j = l.length→j < m→out.length≤16 * i→i + (runesA (l.drop k)).length = sz.length →
  ∃ i2,LpC XR 0 (ntOf XR FOfC) (lpKeep XR FOfC 1) (lpBody XR FOfC 1) 0 m (stC1 sz out i l k) (.exit 2,stC1x sz (out ++ cellsA (l.drop k) (sz.drop i)) i2 l):=by
 intro j
 induction j with
 | zero =>
  intro k m i out hk hm ho hi
  obtain rfl:k = l.length:=by omega
  obtain ⟨m,rfl⟩:∃ z,m = z + 1:=⟨m - 1,by omega⟩
  rw [List.drop_length]
  refine ⟨i,?_⟩
  have e:out ++ cellsA [] (sz.drop i) = out:=by simp [cellsA]
  rw [e]
  exact LpC.last (c1X sz out i l) (by simp)
 | succ j ih =>
  intro k m i out hk hm ho hi
  obtain ⟨m,rfl⟩:∃ z,m = z + 1:=⟨m - 1,by omega⟩
  have hkl:k < l.length:=by omega
  have hd:l.drop k = partT.nth l k :: l.drop (k + 1):=by rw [List.drop_eq_getElem_cons hkl,nth_get (e:=partT) hkl]
  have hmem:partT.nth l k ∈ l:=by rw [nth_get (e:=partT) hkl];exact List.getElem_mem hkl
  have hpp:=hp _ hmem
  rw [hd] at hi ⊢
  have er:runesA (partT.nth l k :: l.drop (k + 1)) = rnOf (partT.nth l k) ++ runesA (l.drop (k + 1)):=rfl
  rw [er,List.length_append] at hi
  have hcl:=cellsL_len (partT.nth l k).1 (partT.nth l k).2.1 (rnOf (partT.nth l k)) (sz.drop i) 0 (fun s hs=>h16 s (List.mem_of_mem_drop hs))
  obtain ⟨i2,h2⟩:=ih (k + 1) m (i + (rnOf (partT.nth l k)).length) (out ++ cellsL (partT.nth l k).1 (partT.nth l k).2.1 0 (rnOf (partT.nth l k)) (sz.drop i)) (by omega) (by omega) (by rw [List.length_append];omega) (by omega)
  refine ⟨i2,?_⟩
  have e:out ++ cellsA (partT.nth l k :: l.drop (k + 1)) (sz.drop i) = out ++ cellsL (partT.nth l k).1 (partT.nth l k).2.1 0 (rnOf (partT.nth l k)) (sz.drop i) ++ cellsA (l.drop (k + 1)) (sz.drop (i + (rnOf (partT.nth l k)).length)):=by simp [cellsA]
  rw [e]
  refine LpC.next ?_ h2
  obtain ⟨x,a,r,u,e⟩:∃ x a r,∃ u:Unit,partT.nth l k = (x,a,r,u):=⟨_,_,_,_,rfl⟩
  rw [e] at hpp hi ⊢
  unfold rnOf at hi ⊢
  simp only at hpp hi ⊢
  by_cases q:(x:Int) = 3
  ·rw [if_pos q] at hi ⊢
   simp only [List.length_cons,List.length_nil] at hi
   have hil:i < sz.length:=by omega
   have hds:sz.drop i = i64.nth sz i :: sz.drop (i + 1):=by rw [List.drop_eq_getElem_cons hil,nth_get (e:=i64) hil]
   have ec:cellsL x a 0 [8230] (sz.drop i) = [C4 8230 x (i64.nth sz i) a]:=by
    rw [hds]
    simp only [cellsL,cellR,atR]
    rw [if_neg (by decide),if_neg (fun h=>absurd ((q:x = (3:Int)).symm.trans h) (by decide))];rfl
   rw [ec]
   exact c1B sz out i l k hil (by omega) (by omega) (by omega) hkl x a r e q _ rfl _ rfl
  ·rw [if_neg q] at hi ⊢
   have h:=c2L sz (partT.slD l) (l.length:Int) k x a r (by omega) (by omega) hpp.1 hpp.2 h16 i (by omega) out ho
   exact c1A sz out i l k (by omega) hkl x a r e q _ _ h
def C1L (sz:List Int) (l:List Part) (out:List Cell) (i2:Int):Prop:=Lp XR 0 (ntOf XR FOfC) (lpKeep XR FOfC 1) (lpBody XR FOfC 1) 0 FUEL (stC1 sz [] 0 l 0) (.exit 2,stC1x sz out i2 l)
theorem c1L (sz:List Int) (l:List Part) (hs:sz.length≤50000) (hl:l.length≤10000) (h16:∀ s ∈ sz,s≤(16:Int)) (hp:∀ p ∈ l,(-100000000:Int)≤p.2.1∧(p.2.1:Int)≤100000000) (he:(runesA l).length = sz.length):∃ i2,C1L sz l (cellsA l sz) i2:=by
 obtain ⟨i2,h⟩:=c1LC sz l hs hl h16 hp l.length 0 1152921504606846975 0 [] (by omega) (by omega) (by simp) (by rw [List.drop_zero];omega)
 rw [List.drop_zero,List.drop_zero,List.nil_append] at h
 exact ⟨i2,LpC.start h (by kernel_rfl)⟩
theorem c1Lp:∀ (sz:List Int) (l:List Part) (out:List Cell) (i2:Int) (h:C1L sz l out i2),Lp XR 0 (ntOf XR FOfC) (lpKeep XR FOfC 1) (lpBody XR FOfC 1) 0 FUEL ⟨[(10,.d (i64.slD sz)),(11,cellT.tailV 62 []),(12,.d (.int .i64 0)),(34,.d (partT.slD l)),(35,.d (.int .i64 (l.length:Int))),(36,.d (.int .i64 0))],[],[]⟩ (.exit 2,stC1x sz out i2 l):=fun _ _ _ _ h=>h
theorem ofC0 (zl wl:List Rng) (hz:zl.length≤1000) (hw:wl.length≤1000) (tab:Int) (t1:1≤tab) (t2:tab≤16) (l:List Part) (hl:l.length≤100000) (all:List Int) (h0:C0L (tabD zl wl) l tab all) (ha:all.length≤1000000) (sz:List Int) (es:sizesL zl wl tab 0 all = sz) (out:List Cell) (i2:Int) (h1:C1L sz l out i2):Ans XR FOfC [.d (tabD zl wl),.d (partT.slD l),.d (.int .i64 tab)] (.d (cellT.slD out)):=by
 exact pV 12 [(1,.l (Ex.exit (0:Nat)) (stC0x (D.ref [(D.sl (List.flatMap (Ty.enc rngT) zl) zl.length),(D.sl (List.flatMap (Ty.enc rngT) wl) wl.length)] (nat_lit 0)) l tab all)),(2,.v (V.d (Ty.slD i64 sz))),(4,.l (Ex.exit (2:Nat)) (stC1x sz out i2 l))] (cE (@c1Lp (sz) (l) (out) (i2) h1) (cC (@sizes (zl) (wl) hz hw (tab) t1 t2 (all) ha (sz) es) (cE (@c0Lp (D.ref [(D.sl (List.flatMap (Ty.enc rngT) zl) zl.length),(D.sl (List.flatMap (Ty.enc rngT) wl) wl.length)] (nat_lit 0)) (l) (tab) (all) h0) nilE))) (by kernel_rfl) rfl rfl
theorem sizesL_le (zl wl:List Rng) (tab:Int) (h1:1≤tab) (h2:tab≤16):∀ (l:List Int) (at_:Int),0≤at_→∀ s ∈ sizesL zl wl tab at_ l,s≤16
 | [],_,_=>by simp [sizesL]
 | z :: l,at_,h0=>by
  have hz:=szOf_le zl wl tab at_ z h1 h2 h0
  intro s hs
  simp only [sizesL,List.mem_cons] at hs
  rcases hs with rfl | hs
  ·exact hz.2
  ·exact sizesL_le zl wl tab h1 h2 l _ (by omega) s hs
def cellsOf (zl wl:List Rng) (tab:Int) (l:List Part):List Cell:=cellsA l (sizesL zl wl tab 0 (runesA l))
theorem ofC:∀ (zl wl:List Rng) (hz:zl.length≤1000) (hw:wl.length≤1000) (tab:Int) (t1:1≤tab) (t2:tab≤16) (l:List Part) (hl:l.length≤10000) (hr:(runesA l).length≤50000) (hp:∀ p ∈ l,(-100000000:Int)≤p.2.1∧(p.2.1:Int)≤100000000) (out:List Cell) (e:cellsOf zl wl tab l = out),
 Ans XR FOfC [.d (tabD zl wl),.d (partT.slD l),.d (.int .i64 tab)] (.d (cellT.slD out)):=fun zl wl hz hw tab t1 t2 l hl hr hp out e=>by
 subst e
 have hs:=sizesL_len zl wl tab (runesA l) 0
 obtain ⟨i2,h1⟩:=c1L (sizesL zl wl tab 0 (runesA l)) l (by omega) hl (sizesL_le zl wl tab t1 t2 _ 0 (by omega)) hp (by omega)
 exact ofC0 zl wl hz hw tab t1 t2 l (by omega) _ (c0L (tabD zl wl) l tab hl hr) (by omega) _ rfl _ i2 h1
abbrev FAt:FuncId := 53
abbrev lineO0:Ob:=.cells [partT.tailV 133 [],.d (.int .i64 0),.d (.int .i64 0)]
abbrev stA1 (r:List Int) (n:Int) (il:List Inl) (w:Int) (hid:List Span) (fr at_:Int) (parts:List Part) (L:List Inl) (k:Int):St :=
 ⟨[(1,.d (.int .i64 fr)),(2,.obj 0 0),(4,.obj 1 0),(5,partT.tailV 133 parts),(6,.d (.int .i64 at_)),(15,.d (inlT.slD L)),(16,.d (.int .i64 (L.length:Int))),(17,.d (.int .i64 k))],[textO r n il w hid,lineO0],[]⟩
abbrev stA1x (r:List Int) (n:Int) (il:List Inl) (w:Int) (hid:List Span) (fr at_:Int) (parts:List Part) (L:List Inl):St :=
 ⟨[(1,.d (.int .i64 fr)),(2,.obj 0 0),(4,.obj 1 0),(5,partT.tailV 133 parts),(6,.d (.int .i64 at_)),(15,.d (inlT.slD L)),(16,.d (.int .i64 (L.length:Int))),(17,.d (.int .i64 (L.length:Int))),(18,.d (.bool false))],[textO r n il w hid,lineO0],[]⟩
theorem a1 (r:List Int) (n:Int) (il:List Inl) (w:Int) (hid:List Span) (fr at_:Int) (parts:List Part) (L:List Inl) (k:Nat) (hL:L.length≤1000) (hk:k < L.length) (hp:parts.length≤100000) (a b c d:Int) (t:Str) (e:inlT.nth L k = I5 a b c d t) (ht:t.length≤1000000) (rs:List Int) (er:Cmp.dec t = rs) (parts2:List Part) (ep:parts ++ [P3 2 at_ rs] = parts2):RdC XR 0 (ntOf XR FAt) (lpKeep XR FAt 1) (lpBody XR FAt 1) 2 (stA1 r n il w hid fr at_ parts L k) (stA1 r n il w hid fr at_ parts2 L (k + 1)):=by
 have hx0:(decide ((↑k:Int) < (↑L.length:Int))) = true:=decide_eq_true (by omega)
 exact (pC (st':={ s:=[(1,(zv fr)),(2,(zo 0 0)),(4,(zo 1 0)),(5,(zt 133 partT parts2)),(6,(zv at_)),(15,(zs inlT L)),(16,(zv (↑L.length:Int))),(17,(zv (zw ((↑k:Int) + (1:Int)))))],h:=[(zc [(zs i32T r),(zv n),(zs inlT il),(zv w),(zs spanT hid)]),(zc [(V.tail (nat_lit 133) [] 0),(zv 0),(zv 0)])],og:=[] }) 12 [(1,bt),(2,.v (V.d (D.ref (List.flatMap (Ty.enc inlT) L) (k * 5)))),(3,.v (inlA a b c d t)),(5,.v (V.d (Ty.slD i32T rs))),(6,.v (Ty.tailV partT (133 : TypeId) parts2))] (cP (@appendPart (parts) ((2:Int)) (at_) (rs) (by omega) (parts2) ep) (cC (@rdecE (t) ht (rs) er) (cP (@loadInlE (L) ([(zc [(zs i32T r),(zv n),(zs inlT il),(zv w),(zs spanT hid)]),(zc [(V.tail (nat_lit 133) [] 0),(zv 0),(zv 0)])]) (k) hk (a) (b) (c) (d) (t) e) (cP (@iaddrInlN (L) (k) hk) (cP hx0 nilE))))) (by kernel_rfl)).to (by simp (disch:=omega) [wrapId, *])
theorem a1X (r:List Int) (n:Int) (il:List Inl) (w:Int) (hid:List Span) (fr at_:Int) (parts:List Part) (L:List Inl):Rd XR 0 (ntOf XR FAt) (lpBody XR FAt 1) (stA1 r n il w hid fr at_ parts L L.length) (.exit 2,stA1x r n il w hid fr at_ parts L):=by
 have hx0:(decide ((↑L.length:Int) < (↑L.length:Int))) = false:=decide_eq_false (by omega)
 exact (pR (r:=((Ex.exit 2),{ s:=[(1,(zv fr)),(2,(zo 0 0)),(4,(zo 1 0)),(5,(zt 133 partT parts)),(6,(zv at_)),(15,(zs inlT L)),(16,(zv (↑L.length:Int))),(17,(zv (↑L.length:Int))),(18,(zb (decide ((↑L.length:Int) < (↑L.length:Int)))))],h:=[(zc [(zs i32T r),(zv n),(zs inlT il),(zv w),(zs spanT hid)]),(zc [(V.tail (nat_lit 133) [] 0),(zv 0),(zv 0)])],og:=[] })) 12 [(1,bf)] (cP hx0 nilE) (by kernel_rfl)).to (by simp (disch:=omega) [wrapId, *])
def partI (at_:Int) (x:Inl):Part:=P3 2 at_ (Cmp.dec x.2.2.2.2.1)
def A1L (r:List Int) (n:Int) (il:List Inl) (w:Int) (hid:List Span) (fr at_:Int) (parts:List Part) (L:List Inl) (parts2:List Part):Prop :=
 Lp XR 0 (ntOf XR FAt) (lpKeep XR FAt 1) (lpBody XR FAt 1) 2 FUEL (stA1 r n il w hid fr at_ parts L 0) (.exit 2,stA1x r n il w hid fr at_ parts2 L)
theorem a1L (r:List Int) (n:Int) (il:List Inl) (w:Int) (hid:List Span) (fr at_:Int) (parts:List Part) (L:List Inl) (hL:L.length≤1000) (hp:parts.length≤90000) (ht:∀ x ∈ L,x.2.2.2.2.1.length≤100000):A1L r n il w hid fr at_ parts L (parts ++ L.map (partI at_)):=by
 have hx:Rd XR 0 (ntOf XR FAt) (lpBody XR FAt 1) (stA1 r n il w hid fr at_ (parts ++ (L.take L.length).map (partI at_)) L L.length) (.exit 2,stA1x r n il w hid fr at_ (parts ++ L.map (partI at_)) L):=by rw [List.take_length];exact a1X r n il w hid fr at_ _ L
 refine Lp.run (fun k=>stA1 r n il w hid fr at_ (parts ++ (L.take k).map (partI at_)) L k) L.length (by omega) ?_ (fun k hk=>?_) hx (by simp)
 ·rw [List.take_zero,List.map_nil,List.append_nil];kernel_rfl
 ·have hm:inlT.nth L k ∈ L:=by rw [nth_get (e:=inlT) hk];exact List.getElem_mem hk
  have htl:=ht _ hm
  have hs:parts ++ (L.take (k + 1)).map (partI at_) = parts ++ (L.take k).map (partI at_) ++ [partI at_ (inlT.nth L k)]:=by
   rw [take_succ_nth (e:=inlT) hk,List.map_append,← List.append_assoc];rfl
  rw [hs]
  exact a1 r n il w hid fr at_ _ L k hL hk (by rw [List.length_append,List.length_map,List.length_take];omega) _ _ _ _ _ rfl (Nat.le_trans htl (by decide)) _ rfl _ rfl
theorem a1Lp:∀ (r:List Int) (n:Int) (il:List Inl) (w:Int) (hid:List Span) (fr at_:Int) (parts:List Part) (L:List Inl) (parts2:List Part) (h:A1L r n il w hid fr at_ parts L parts2),
 Lp XR 0 (ntOf XR FAt) (lpKeep XR FAt 1) (lpBody XR FAt 1) 2 FUEL ⟨[(1,.d (.int .i64 fr)),(2,.obj 0 0),(4,.obj 1 0),(5,partT.tailV 133 parts),(6,.d (.int .i64 at_)),(15,.d (inlT.slD L)),(16,.d (.int .i64 (L.length:Int))),(17,.d (.int .i64 0))],[textO r n il w hid,lineO0],[]⟩ (.exit 2,stA1x r n il w hid fr at_ parts2 L):=fun _ _ _ _ _ _ _ _ _ _ h=>h
abbrev stA0 (r:List Int) (n:Int) (il:List Inl) (w:Int) (hid:List Span) (fr at_:Int) (parts:List Part):St :=
 ⟨[(1,.d (.int .i64 fr)),(2,.obj 0 0),(4,.obj 1 0),(5,partT.tailV 133 parts),(6,.d (.int .i64 at_))],[textO r n il w hid,lineO0],[]⟩
abbrev stA0r (r:List Int) (n:Int) (il:List Inl) (w:Int) (hid:List Span) (fr at_:Int) (parts:List Part):St :=
 ⟨[(4,.obj 1 0)],[textO r n il w hid,.cells [.d (partT.slD parts),.d (.int .i64 fr),.d (.int .i64 at_)]],[]⟩
theorem a0F (r:List Int) (n:Int) (il:List Inl) (w:Int) (hid:List Span) (fr:Int) (k:Nat) (parts:List Part) (hil:il.length≤1000) (hh:hid.length≤1000) (hk:k≤r.length) (hr:r.length≤1000000) (L:List Inl) (eL:il.filter (inW (k:Int) (k:Int)) = L) (parts1:List Part) (h1:A1L r n il w hid fr (k:Int) parts L parts1) (hp1:parts1.length≤100000) (hk2:k < r.length) (hs:shB r hid (k:Int) = false) (a:Int) (nb:Nat) (eh:hidAt hid (k:Int) = (a,(nb:Int))) (parts2:List Part) (ep:parts1 ++ [P3 3 (k:Int) []] = parts2):RdC XR 0 (ntOf XR FAt) (lpKeep XR FAt 0) (lpBody XR FAt 0) 2 (stA0 r n il w hid fr k parts) (stA0 r n il w hid fr nb parts2):=by
 have hx0:((↑k:Int) == (↑r.length:Int)) = false:=decide_eq_false (by omega)
 exact pC 12 [(1,.v (V.d (Ty.slD inlT L))),(3,.l (Ex.exit 2) (stA1x r n il w hid fr (↑k:Int) parts1 L)),(7,bf),(9,bf),(10,bf),(11,.v (zb false)),(12,bf),(15,.v (V.d (D.agg [(zi a),(zi ↑nb)]))),(19,.v (Ty.tailV partT (133 : TypeId) parts2))] (cP (@appendPart0 (parts1) ((3:Int)) ((↑k:Int)) (by omega) (parts2) ep) (cC (@hd (r) (n) (il) (w) (hid) ((↑k:Int)) hh (a) ((↑nb:Int)) eh) (cP hx0 (cC (@shown (r) (n) (il) (w) (hid) ((↑k:Int)) hh (false) hs) (cP hx0 (cP hx0 (cP hx0 (cE (@a1Lp (r) (n) (il) (w) (hid) (fr) ((↑k:Int)) (parts) (L) (parts1) h1) (cC (@within (n) (il) (w) ((↑k:Int)) ((↑k:Int)) hil (L) eL) nilE))))))))) (by kernel_rfl)
theorem a0P (r:List Int) (n:Int) (il:List Inl) (w:Int) (hid:List Span) (fr:Int) (k:Nat) (parts:List Part) (hil:il.length≤1000) (hh:hid.length≤1000) (hk:k≤r.length) (hr:r.length≤1000000) (L:List Inl) (eL:il.filter (inW (k:Int) (k:Int)) = L) (parts1:List Part) (h1:A1L r n il w hid fr (k:Int) parts L parts1) (hp1:parts1.length≤100000) (hk2:k < r.length) (hs:shB r hid (k:Int) = false) (a b:Int) (eh:hidAt hid (k:Int) = (a,b)) (hb:b < 0) (z:Int) (ez:i32T.nth r k = z) (hpp:∀ p ∈ parts1,p.2.2.1.length≤1000000∧(-1000000000:Int)≤p.2.1∧(p.2.1:Int)≤1000000000) (parts2:List Part) (ep:addP parts1 z (k:Int) = parts2):RdC XR 0 (ntOf XR FAt) (lpKeep XR FAt 0) (lpBody XR FAt 0) 2 (stA0 r n il w hid fr k parts) (stA0 r n il w hid fr (k + 1) parts2):=by
 have hx0:((↑k:Int) == (↑r.length:Int)) = false:=decide_eq_false (by omega)
 have hx1:(decide (b ≥ (0:Int))) = false:=decide_eq_false (by omega)
 exact (pC (st':={ s:=[(1,(zv fr)),(2,(zo 0 0)),(4,(zo 1 0)),(5,(zt 133 partT parts2)),(6,(zv (zw ((↑k:Int) + (1:Int)))))],h:=[(zc [(zs i32T r),(zv n),(zs inlT il),(zv w),(zs spanT hid)]),(zc [(V.tail (nat_lit 133) [] 0),(zv 0),(zv 0)])],og:=[] }) 12 [(1,.v (V.d (Ty.slD inlT L))),(3,.l (Ex.exit 2) (stA1x r n il w hid fr (↑k:Int) parts1 L)),(7,bf),(9,bf),(10,bf),(11,.v (zb false)),(12,bf),(15,.v (V.d (D.agg [(zi a),(zi b)]))),(18,bf),(20,.v (V.d (D.ref (List.flatMap (Ty.enc i32T) r) (k * 1)))),(21,.v (V.d (D.int IntKind.i32 z))),(22,.v (Ty.tailV partT (133 : TypeId) parts2))] (cC (@plain (parts1) hp1 hpp (z) ((↑k:Int)) (parts2) ep) (cP (@loadRuneE (r) ([(zc [(zs i32T r),(zv n),(zs inlT il),(zv w),(zs spanT hid)]),(zc [(V.tail (nat_lit 133) [] 0),(zv 0),(zv 0)]),(zc [(zv a),(zv b)])]) (k) hk2 (z) ez) (cP (@iaddrRuneN (r) (k) hk2) (cP hx1 (cC (@hd (r) (n) (il) (w) (hid) ((↑k:Int)) hh (a) (b) eh) (cP hx0 (cC (@shown (r) (n) (il) (w) (hid) ((↑k:Int)) hh (false) hs) (cP hx0 (cP hx0 (cP hx0 (cE (@a1Lp (r) (n) (il) (w) (hid) (fr) ((↑k:Int)) (parts) (L) (parts1) h1) (cC (@within (n) (il) (w) ((↑k:Int)) ((↑k:Int)) hil (L) eL) nilE)))))))))))) (by kernel_rfl)).to (by simp (disch:=omega) [wrapId, *])
theorem a0E (r:List Int) (n:Int) (il:List Inl) (w:Int) (hid:List Span) (fr:Int) (k:Nat) (parts:List Part) (hil:il.length≤1000) (hh:hid.length≤1000) (hk:k≤r.length) (hr:r.length≤1000000) (L:List Inl) (eL:il.filter (inW (k:Int) (k:Int)) = L) (parts1:List Part) (h1:A1L r n il w hid fr (k:Int) parts L parts1) (hp1:parts1.length≤100000) (hk2:k = r.length):Rd XR 0 (ntOf XR FAt) (lpBody XR FAt 0) (stA0 r n il w hid fr k parts) (.ret,stA0r r n il w hid fr k parts1):=by
 have hx0:((↑k:Int) == (↑r.length:Int)) = true:=decide_eq_true (by omega)
 exact pR 12 [(1,.v (V.d (Ty.slD inlT L))),(3,.l (Ex.exit 2) (stA1x r n il w hid fr (↑k:Int) parts1 L)),(7,bt),(8,bt),(9,bt),(10,bt)] (cP hx0 (cP hx0 (cP hx0 (cP hx0 (cE (@a1Lp (r) (n) (il) (w) (hid) (fr) ((↑k:Int)) (parts) (L) (parts1) h1) (cC (@within (n) (il) (w) ((↑k:Int)) ((↑k:Int)) hil (L) eL) nilE)))))) (by kernel_rfl)
theorem a0S (r:List Int) (n:Int) (il:List Inl) (w:Int) (hid:List Span) (fr:Int) (k:Nat) (parts:List Part) (hil:il.length≤1000) (hh:hid.length≤1000) (hk:k≤r.length) (hr:r.length≤1000000) (L:List Inl) (eL:il.filter (inW (k:Int) (k:Int)) = L) (parts1:List Part) (h1:A1L r n il w hid fr (k:Int) parts L parts1) (hp1:parts1.length≤100000) (hk2:k < r.length) (hs:shB r hid (k:Int) = true):Rd XR 0 (ntOf XR FAt) (lpBody XR FAt 0) (stA0 r n il w hid fr k parts) (.ret,stA0r r n il w hid fr k parts1):=by
 have hx0:((↑k:Int) == (↑r.length:Int)) = false:=decide_eq_false (by omega)
 exact pR 12 [(1,.v (V.d (Ty.slD inlT L))),(3,.l (Ex.exit 2) (stA1x r n il w hid fr (↑k:Int) parts1 L)),(7,bf),(9,bf),(10,bf),(11,.v (zb true)),(12,bf)] (cP hx0 (cC (@shown (r) (n) (il) (w) (hid) ((↑k:Int)) hh (true) hs) (cP hx0 (cP hx0 (cP hx0 (cE (@a1Lp (r) (n) (il) (w) (hid) (fr) ((↑k:Int)) (parts) (L) (parts1) h1) (cC (@within (n) (il) (w) ((↑k:Int)) ((↑k:Int)) hil (L) eL) nilE))))))) (by kernel_rfl)
def withI (il:List Inl) (k:Nat) (parts:List Part):List Part:=parts ++ (il.filter (inW (k:Int) (k:Int))).map (partI (k:Int))
def goA (r:List Int) (il:List Inl) (hid:List Span):Nat→Nat→List Part→List Part × Nat
 | 0,k,parts=>(withI il k parts,k)
 | f + 1,k,parts =>
  if r.length≤k∨shB r hid (k:Int) = true then (withI il k parts,k)
  else if 0≤(hidAt hid (k:Int)).2 then goA r il hid f (hidAt hid (k:Int)).2.toNat (withI il k parts ++ [P3 3 (k:Int) []])
  else goA r il hid f (k + 1) (addP (withI il k parts) (i32T.nth r k) (k:Int))
def HidOk (n:Nat) (hid:List Span):Prop:=∀ y ∈ hid,(y.2.1:Int)≤n
theorem hidAt_gt {hid:List Span} {k:Int} (h:0≤(hidAt hid k).2) (hk:0≤k):k < (hidAt hid k).2∧∃ y ∈ hid,hidAt hid k = (y.1,y.2.1)∧inS k y = true:=by
 unfold hidAt at h ⊢
 cases e:hid.find? (inS k) with
 | none=>rw [e] at h;simp at h
 | some y =>
  have h1:=List.find?_some e
  have h2:=List.mem_of_find?_eq_some e
  refine ⟨?_,y,h2,rfl,h1⟩
  unfold inS at h1
  rw [Bool.and_eq_true,decide_eq_true_eq,decide_eq_true_eq] at h1
  exact h1.2
def atI (x:Inl):Int:=x.2.1
def cntI (il:List Inl) (k:Nat):Nat:=il.countP fun x=>decide (atI x < (k:Int))
structure PartsOk (il:List Inl) (k:Nat) (parts:List Part):Prop where
 len:parts.length≤cntI il k + k
 runes:(runesA parts).length≤40 * cntI il k + k
 each:∀ p ∈ parts,p.2.2.1.length≤1000 + k∧(0:Int)≤p.2.1∧(p.2.1:Int)≤k
theorem filt_mono (il:List Inl) {a b:Nat} (h:a≤b):cntI il a≤cntI il b:=by
 unfold cntI
 apply List.countP_mono_left
 intro x _ hx
 rw [decide_eq_true_eq] at hx ⊢
 omega
theorem filt_succ (il:List Inl) (k:Nat):cntI il (k + 1) = cntI il k + (il.filter (inW (k:Int) (k:Int))).length:=by
 unfold cntI
 rw [← List.countP_eq_length_filter]
 induction il with
 | nil=>rfl
 | cons x l ih =>
  have hw:inW (k:Int) (k:Int) x = (decide ((k:Int)≤atI x) && decide (atI x≤(k:Int))):=rfl
  simp only [List.countP_cons,ih,hw]
  by_cases h1:atI x < (k:Int)
  ·rw [if_pos (decide_eq_true (show atI x < ((k + 1:Nat):Int) by omega)),if_pos (decide_eq_true h1),decide_eq_false (show ¬ (k:Int)≤atI x by omega)]
   simp;omega
  ·by_cases h4:atI x = (k:Int)
   ·rw [if_pos (decide_eq_true (show atI x < ((k + 1:Nat):Int) by omega)),if_neg (by simpa using h1),decide_eq_true (show (k:Int)≤atI x by omega),decide_eq_true (show atI x≤(k:Int) by omega)]
    simp;omega
   ·rw [if_neg (show ¬ (decide (atI x < ((k + 1:Nat):Int)) = true) by rw [decide_eq_true_eq];omega),if_neg (by simpa using h1),decide_eq_true (show (k:Int)≤atI x by omega),decide_eq_false (show ¬ atI x≤(k:Int) by omega)]
    simp
theorem runesA_append (a b:List Part):runesA (a ++ b) = runesA a ++ runesA b:=by unfold runesA;rw [List.flatMap_append]
theorem runes_ins (L:List Inl) (at_:Int) (h:∀ x ∈ L,(Cmp.dec x.2.2.2.2.1).length≤40):(runesA (L.map (partI at_))).length≤40 * L.length:=by
 induction L with
 | nil=>simp [runesA]
 | cons x l ih =>
  have h1:=h x (by simp)
  have h2:=ih (fun y hy=>h y (by simp [hy]))
  have e:runesA ((x :: l).map (partI at_)) = rnOf (partI at_ x) ++ runesA (l.map (partI at_)):=rfl
  have e2:rnOf (partI at_ x) = Cmp.dec x.2.2.2.2.1:=by
   unfold rnOf partI
   exact if_neg (show ¬ (2:Int) = 3 by decide)
  rw [e,e2,List.length_append,List.length_cons];omega
theorem PartsOk.ins {il:List Inl} {k:Nat} {parts:List Part} (h:PartsOk il k parts) (h40:∀ x ∈ il,(Cmp.dec x.2.2.2.2.1).length≤40) :
  (withI il k parts).length≤cntI il (k + 1) + k∧(runesA (withI il k parts)).length≤40 * cntI il (k + 1) + k ∧
  ∀ p ∈ withI il k parts,p.2.2.1.length≤1000 + k∧(0:Int)≤p.2.1∧(p.2.1:Int)≤k:=by
 have hf:=filt_succ il k
 have hr:=runes_ins (il.filter (inW (k:Int) (k:Int))) (k:Int) (fun x hx=>h40 x ((List.mem_filter.1 hx).1))
 obtain ⟨h1,h2,h3⟩:=h
 unfold withI
 refine ⟨by rw [List.length_append,List.length_map];omega,by rw [runesA_append,List.length_append];omega,fun p hp=>?_⟩
 rcases List.mem_append.1 hp with hp | hp
 ·exact h3 p hp
 ·obtain ⟨x,hx,rfl⟩:=List.mem_map.1 hp
  have:=h40 x ((List.mem_filter.1 hx).1)
  refine ⟨?_,?_,Int.le_refl _⟩
  ·show (Cmp.dec x.2.2.2.2.1).length≤1000 + k;omega
  ·show (0:Int)≤(k:Int);omega
theorem PartsOk.fold {il:List Inl} {k b:Nat} {parts:List Part} (h:PartsOk il k parts) (h40:∀ x ∈ il,(Cmp.dec x.2.2.2.2.1).length≤40) (hb:k < b):PartsOk il b (withI il k parts ++ [P3 3 (k:Int) []]):=by
 obtain ⟨h1,h2,h3⟩:=h.ins h40
 have hm:=filt_mono il (show k + 1≤b by omega)
 have e:runesA [P3 3 (k:Int) []] = [8230]:=rfl
 refine ⟨by rw [List.length_append,List.length_singleton];omega,by rw [runesA_append,List.length_append,e,List.length_singleton];omega,fun p hp=>?_⟩
 rcases List.mem_append.1 hp with hp | hp
 ·obtain ⟨q1,q2,q3⟩:=h3 p hp
  exact ⟨by omega,q2,Int.le_trans q3 (Int.ofNat_le.2 (by omega))⟩
 ·simp at hp;subst hp
  exact ⟨by simp,by show (0:Int)≤(k:Int);omega,by show (k:Int)≤(b:Int);omega⟩
theorem addP_cases (l:List Part) (z at_:Int):addP l z at_ = l ++ [P3 1 at_ [z]] ∨ ∃ d p,l = d ++ [p] ∧ p.1 = (1:Int)∧(p.2.1:Int) + (p.2.2.1.length:Nat) = at_∧addP l z at_ = d ++ [P3 1 p.2.1 (p.2.2.1 ++ [z])]:=by
 unfold addP
 cases e:l.getLast? with
 | none =>
  left
  rw [List.getLast?_eq_none_iff] at e
  subst e;rfl
 | some p =>
  simp only
  split
  ·rename_i h
   right
   refine ⟨l.dropLast,p,?_,h.1,h.2,rfl⟩
   obtain ⟨ys,hy⟩:=List.getLast?_eq_some_iff.1 e
   rw [hy];simp
  ·left;rfl
theorem PartsOk.plain {il:List Inl} {k:Nat} {parts:List Part} (h:PartsOk il k parts) (h40:∀ x ∈ il,(Cmp.dec x.2.2.2.2.1).length≤40) (z:Int):PartsOk il (k + 1) (addP (withI il k parts) z (k:Int)):=by
 obtain ⟨h1,h2,h3⟩:=h.ins h40
 rcases addP_cases (withI il k parts) z (k:Int) with e | ⟨d,p,e1,e2,e3,e4⟩
 ·rw [e]
  have er:runesA [P3 1 (k:Int) [z]] = [z]:=rfl
  refine ⟨by rw [List.length_append,List.length_singleton];omega,by rw [runesA_append,List.length_append,er];simp only [List.length_append,List.length_singleton];omega,fun q hq=>?_⟩
  rcases List.mem_append.1 hq with hq | hq
  ·obtain ⟨q1,q2,q3⟩:=h3 q hq
   exact ⟨by omega,q2,Int.le_trans q3 (Int.ofNat_le.2 (by omega))⟩
  ·simp at hq;subst hq
   exact ⟨by simp;omega,by show (0:Int)≤(k:Int);omega,by show (k:Int)≤((k + 1:Nat):Int);omega⟩
 ·rw [e4]
  rw [e1] at h1 h2 h3
  have er:runesA [P3 1 p.2.1 (p.2.2.1 ++ [z])] = p.2.2.1 ++ [z]:=by
   show rnOf _ ++ [] = _
   unfold rnOf;rw [if_neg (show ¬ (1:Int) = 3 by decide)];simp
  have er2:runesA [p] = p.2.2.1:=by
   show rnOf _ ++ [] = _
   unfold rnOf;rw [if_neg (fun h=>absurd (e2.symm.trans h) (by decide))];simp
  rw [runesA_append,List.length_append,er2] at h2
  rw [List.length_append,List.length_singleton] at h1
  refine ⟨by rw [List.length_append,List.length_singleton];omega,by rw [runesA_append,List.length_append,er];simp only [List.length_append,List.length_singleton];omega,fun q hq=>?_⟩
  rcases List.mem_append.1 hq with hq | hq
  ·obtain ⟨q1,q2,q3⟩:=h3 q (List.mem_append_left _ hq)
   exact ⟨by omega,q2,Int.le_trans q3 (Int.ofNat_le.2 (by omega))⟩
  ·simp at hq;subst hq
   obtain ⟨q1,q2,q3⟩:=h3 p (by simp)
   exact ⟨by show (p.2.2.1 ++ [z]).length≤_;rw [List.length_append,List.length_singleton];omega,q2,Int.le_trans q3 (Int.ofNat_le.2 (by omega))⟩
theorem cntI_le (il:List Inl) (k:Nat):cntI il k≤il.length:=List.countP_le_length
theorem atLC (r:List Int) (n:Int) (il:List Inl) (w:Int) (hid:List Span) (fr:Int) (hil:il.length≤1000) (hh:hid.length≤1000) (hr:r.length≤5000) (h40:∀ x ∈ il,(Cmp.dec x.2.2.2.2.1).length≤40) (ht:∀ x ∈ il,x.2.2.2.2.1.length≤100000) (hok:HidOk r.length hid) :
  ∀ (f k m:Nat) (parts:List Part),r.length - k≤f→f < m→k≤r.length→PartsOk il k parts →
  LpC XR 0 (ntOf XR FAt) (lpKeep XR FAt 0) (lpBody XR FAt 0) 2 m (stA0 r n il w hid fr k parts) (.ret,stA0r r n il w hid fr (goA r il hid f k parts).2 (goA r il hid f k parts).1):=by
 have step:∀ (k:Nat) (parts:List Part),k≤r.length→PartsOk il k parts→A1L r n il w hid fr (k:Int) parts (il.filter (inW (k:Int) (k:Int))) (withI il k parts)∧(withI il k parts).length≤100000:=by
  intro k parts hk hp
  have h1:=hp.ins h40
  have h2:=cntI_le il (k + 1)
  have h3:=hp.len
  have h4:=cntI_le il k
  have h5:=List.length_filter_le (inW (k:Int) (k:Int)) il
  exact ⟨a1L r n il w hid fr (k:Int) parts _ (by omega) (by omega) (fun x hx=>ht x (List.mem_filter.1 hx).1),by omega⟩
 intro f
 induction f with
 | zero =>
  intro k m parts hf hm hk hp
  obtain rfl:k = r.length:=by omega
  obtain ⟨m,rfl⟩:∃ z,m = z + 1:=⟨m - 1,by omega⟩
  obtain ⟨s1,s2⟩:=step r.length parts hk hp
  exact LpC.last (a0E r n il w hid fr r.length parts hil hh (by omega) (by omega) _ rfl _ s1 s2 rfl) (by simp)
 | succ f ih =>
  intro k m parts hf hm hk hp
  obtain ⟨m,rfl⟩:∃ z,m = z + 1:=⟨m - 1,by omega⟩
  obtain ⟨s1,s2⟩:=step k parts hk hp
  unfold goA
  by_cases hk2:k = r.length
  ·rw [if_pos (.inl (by omega))]
   exact LpC.last (a0E r n il w hid fr k parts hil hh hk (by omega) _ rfl _ s1 s2 hk2) (by simp)
  have hk3:k < r.length:=by omega
  cases hs:shB r hid (k:Int) with
  | true =>
   rw [if_pos (.inr rfl)]
   exact LpC.last (a0S r n il w hid fr k parts hil hh hk (by omega) _ rfl _ s1 s2 hk3 hs) (by simp)
  | false =>
   rw [if_neg (by simp;omega)]
   by_cases hb:0≤(hidAt hid (k:Int)).2
   ·rw [if_pos hb]
    obtain ⟨h1,y,hy,h2,_⟩:=hidAt_gt hb (by omega)
    have hle:(hidAt hid (k:Int)).2≤r.length:=by rw [h2];exact hok y hy
    obtain ⟨nb,hnb⟩:∃ nb:Nat,(hidAt hid (k:Int)).2 = (nb:Int):=⟨(hidAt hid (k:Int)).2.toNat,by omega⟩
    rw [hnb,Int.toNat_natCast]
    refine LpC.next (a0F r n il w hid fr k parts hil hh hk (by omega) _ rfl _ s1 s2 hk3 hs (hidAt hid (k:Int)).1 nb (by rw [← hnb]) _ rfl) ?_
    exact ih nb m _ (by omega) (by omega) (by omega) (hp.fold h40 (by omega))
   ·rw [if_neg hb]
    refine LpC.next (a0P r n il w hid fr k parts hil hh hk (by omega) _ rfl _ s1 s2 hk3 hs (hidAt hid (k:Int)).1 (hidAt hid (k:Int)).2 rfl (by omega) _ rfl (fun p hpm=>?_) _ rfl) ?_
    ·obtain ⟨_,_,h3⟩:=hp.ins h40
     obtain ⟨q1,q2,q3⟩:=h3 p hpm
     exact ⟨by omega,Int.le_trans (by decide) q2,Int.le_trans q3 (by omega)⟩
    ·exact ih (k + 1) m _ (by omega) (by omega) (by omega) (hp.plain h40 _)
theorem partsOk_nil (il:List Inl) (k:Nat):PartsOk il k []:=⟨by simp,by simp [runesA],by simp⟩
def lineAt (r:List Int) (il:List Inl) (hid:List Span) (fr:Nat):List Part × Nat:=goA r il hid r.length fr []
def A0L (r:List Int) (n:Int) (il:List Inl) (w:Int) (hid:List Span) (fr:Int) (p:List Part) (to:Nat):Prop :=
 Lp XR 0 (ntOf XR FAt) (lpKeep XR FAt 0) (lpBody XR FAt 0) 2 FUEL (stA0 r n il w hid fr fr []) (.ret,stA0r r n il w hid fr to p)
theorem a0L (r:List Int) (n:Int) (il:List Inl) (w:Int) (hid:List Span) (fr:Nat) (hfr:fr≤r.length) (hil:il.length≤1000) (hh:hid.length≤1000) (hr:r.length≤5000) (h40:∀ x ∈ il,(Cmp.dec x.2.2.2.2.1).length≤40) (ht:∀ x ∈ il,x.2.2.2.2.1.length≤100000) (hok:HidOk r.length hid) :
  A0L r n il w hid fr (lineAt r il hid fr).1 (lineAt r il hid fr).2:=by
 have h:=atLC r n il w hid fr hil hh hr h40 ht hok r.length fr 1152921504606846975 [] (by omega) (by omega) hfr (partsOk_nil il fr)
 exact LpC.start h (by kernel_rfl)
theorem a0Lp:∀ (r:List Int) (n:Int) (il:List Inl) (w:Int) (hid:List Span) (fr:Int) (p:List Part) (to:Nat) (h:A0L r n il w hid fr p to),
 Lp XR 0 (ntOf XR FAt) (lpKeep XR FAt 0) (lpBody XR FAt 0) 2 FUEL (stA0 r n il w hid fr fr []) (.ret,stA0r r n il w hid fr to p):=fun _ _ _ _ _ _ _ _ h=>h
theorem at0 (r:List Int) (n:Int) (il:List Inl) (w:Int) (hid:List Span) (fr:Int) (p:List Part) (to:Nat) (h:A0L r n il w hid fr p to):Ans XR FAt [.d (.agg (textL r n il w hid)),.d (.int .i64 fr)] (.d (.agg [partT.slD p,.int .i64 fr,.int .i64 (to:Int)])):=by
 exact pV 12 [(0,.l (Ex.ret) (stA0r r n il w hid fr (↑to:Int) p))] (cE (@a0Lp (r) (n) (il) (w) (hid) (fr) (p) (to) h) nilE) (by kernel_rfl) rfl rfl
structure TextOk (r:List Int) (il:List Inl) (hid:List Span):Prop where
 hil:il.length≤1000
 hhid:hid.length≤1000
 hr:r.length≤5000
 h40:∀ x ∈ il,(Cmp.dec x.2.2.2.2.1).length≤40
 ht:∀ x ∈ il,x.2.2.2.2.1.length≤100000
 ok:HidOk r.length hid
def at_T:Prop:=∀ (r:List Int) (n:Int) (il:List Inl) (w:Int) (hid:List Span) (hk:TextOk r il hid) (fr:Nat) (hfr:fr≤r.length) (p:List Part) (to:Nat) (e:lineAt r il hid fr = (p,to)),Ans XR FAt [.d (.agg (textL r n il w hid)),.d (.int .i64 (fr:Int))] (.d (.agg [partT.slD p,.int .i64 (fr:Int),.int .i64 (to:Int)]))
theorem at':at_T:=fun r n il w hid hk fr hfr p to e=>by
 have h:=a0L r n il w hid fr hfr hk.hil hk.hhid hk.hr hk.h40 hk.ht hk.ok
 rw [e] at h
 exact at0 r n il w hid fr p to h
theorem atZ:∀ (r:List Int) (n:Int) (il:List Inl) (w:Int) (hid:List Span) (hk:TextOk r il hid) (p:List Part) (to:Nat) (e:lineAt r il hid 0 = (p,to)),Ans XR FAt [.d (.agg (textL r n il w hid)),.d (.int .i64 0)] (.d (.agg [partT.slD p,.int .i64 0,.int .i64 (to:Int)])):=fun r n il w hid hk p to e=>at' r n il w hid hk 0 (by omega) p to e
theorem atS:∀ (r:List Int) (n:Int) (il:List Inl) (w:Int) (hid:List Span) (hk:TextOk r il hid) (k:Nat) (hfr:k < r.length) (p:List Part) (to:Nat) (e:lineAt r il hid (k + 1) = (p,to)),Ans XR FAt [.d (.agg (textL r n il w hid)),.d (.int .i64 (IntKind.wrap .i64 ((k:Int) + 1)))] (.d (.agg [partT.slD p,.int .i64 (IntKind.wrap .i64 ((k:Int) + 1)),.int .i64 (to:Int)])):=fun r n il w hid hk k hfr p to e=>by
 have hr:=hk.hr
 have hw:IntKind.wrap .i64 ((k:Int) + 1) = ((k + 1:Nat):Int):=by rw [wrapId _ (by omega) (by omega)];omega
 rw [hw]
 exact at' r n il w hid hk (k + 1) (by omega) p to e
abbrev lineT:Ty:=.st (.cons (.sl partT) (.cons i64 (.cons i64 .nil)))
abbrev Line:=lineT.ty
abbrev L3 (p:List Part) (a b:Int):Line:=(p,a,b,())
theorem iaddrLineL:∀ (l:List Line) (i:Nat) (hb:l.length≤1000000) (hi:i + 1 = l.length),iaddrV XR 99 (.d (lineT.slD l)) (.d (.int .i64 (IntKind.wrap .i64 ((l.length:Int) - 1)))) = some (.d (.ref (l.flatMap lineT.enc) (i * 3))):=fun l i hb hi=>by
 have:=iaddrSl (X:=XR) (t := 99) (te := 103) (z:=3) (c:=l.flatMap lineT.enc) (n:=l.length) (K:=.i64) (i:=(i:Int)) (by kernel_rfl) (by kernel_rfl) (by omega) (by omega) (flat_len _ 3 (Ty.enc_length lineT) l)
 rwa [show IntKind.wrap .i64 ((l.length:Int) - 1) = (i:Int) by rw [wrapId _ (by omega) (by omega)];omega]
theorem loadLineTo:∀ (l:List Line) (h:List Ob) (k:Nat) (hk:k < l.length) (p:List Part) (a b:Int) (e:lineT.nth l k = L3 p a b),loadV XR h 3 (.d (.ref (l.flatMap lineT.enc) (k * 3 + 2))) = some (.d (.int .i64 b)):=fun l h k hk p a b e=>by
 have:=loadCell (X:=XR) (h:=h) (t := 3) (e:=lineT) (z1:=1) (o:=2) (by kernel_rfl) (by kernel_rfl) hk (show 2 < 3 by omega)
 rw [e] at this
 exact this
theorem appendLine:∀ (l:List Line) (p:List Part) (a b:Int) (hl:l.length≤1000000) (l2:List Line) (e:l ++ [L3 p a b] = l2),appendV XR 99 99 (lineT.tailV 103 l) (.full [partT.slD p,.int .i64 a,.int .i64 b] 1) = some (lineT.tailV 103 l2):=fun l p a b hl l2 e=>by
 subst e
 exact appendOne (e:=lineT) (E := 103) (i:=(XR.P.info? 103).getD default) (by kernel_rfl) (by kernel_rfl) (by kernel_rfl) (by decide +kernel) (by decide +kernel) (by kernel_rfl) (L3 p a b) rfl (by omega)
abbrev FAll:FuncId := 43
abbrev stL (r:List Int) (n:Int) (il:List Inl) (w:Int) (hid:List Span) (lv:V):St:=⟨[(1,.obj 0 0),(3,lv)],[textO r n il w hid],[]⟩
abbrev stLx (r:List Int) (n:Int) (il:List Inl) (w:Int) (hid:List Span) (lv:V):St:=⟨[(1,.obj 0 0),(3,lv),(17,.d (.bool false))],[textO r n il w hid],[]⟩
theorem iaddrCellN:∀ (l:List Cell) (i:Nat) (hi:i < l.length),iaddrV XR 35 (.d (cellT.slD l)) (.d (.int .i64 (i:Int))) = some (.d (.ref (l.flatMap cellT.enc) (i * 4))):=fun l i hi=>iaddrSl (te := 62) (z:=4) (by kernel_rfl) (by kernel_rfl) (by omega) (by omega) (flat_len _ 4 (Ty.enc_length cellT) l)
theorem loadCellE:∀ (l:List Cell) (h:List Ob) (k:Nat) (hk:k < l.length) (z x w a:Int) (e:cellT.nth l k = C4 z x w a),loadV XR h 62 (.d (.ref (l.flatMap cellT.enc) (k * 4))) = some (.d (.agg [.int .i32 z,.int .i64 x,.int .i64 w,.int .i64 a])):=fun l h k hk z x w a e=>by
 have:=loadAgg (X:=XR) (h:=h) (t := 62) (e:=cellT) (by kernel_rfl) (by kernel_rfl) hk
 rw [e] at this
 exact this
abbrev FBlank:FuncId := 75
abbrev FWidth:FuncId := 56
abbrev cellA (z x w a:Int):V:=.d (.agg [.int .i32 z,.int .i64 x,.int .i64 w,.int .i64 a])
def blankZ (z:Int):Bool:=z == 32 || z == 9
abbrev stWd (l:List Cell) (s:Int) (k:Int):St:=⟨[(3,.d (.int .i64 s)),(6,.d (cellT.slD l)),(7,.d (.int .i64 (l.length:Int))),(8,.d (.int .i64 k))],[],[]⟩
abbrev stWdx (l:List Cell) (s:Int):St:=⟨[(3,.d (.int .i64 s)),(6,.d (cellT.slD l)),(7,.d (.int .i64 (l.length:Int))),(8,.d (.int .i64 (l.length:Int))),(9,.d (.bool false))],[],[]⟩
theorem lF (r:List Int) (n:Int) (il:List Inl) (w:Int) (hid:List Span) (hk:TextOk r il hid) (hr:r.length≤5000) (p:List Part) (a:Int) (k:Nat) (hlt:k < r.length) (p2:List Part) (to:Nat) (e:lineAt r il hid (k + 1) = (p2,to)):RdC XR 0 (ntOf XR FAll) (lpKeep XR FAll 0) (lpBody XR FAll 0) 1 (stL r n il w hid (.full [partT.slD p,.int .i64 a,.int .i64 (k:Int)] 1)) (stL r n il w hid (lineT.tailV 103 [L3 p a k,L3 p2 (IntKind.wrap .i64 ((k:Int) + 1)) to])):=by
 have hx0:(decide ((↑k:Int) < (↑r.length:Int))) = true:=decide_eq_true (by omega)
 exact pC 12 [(7,bt),(14,.v (V.d (D.agg [(Ty.slD partT p2),(zi (zw ((↑k:Int) + (1:Int)))),(zi ↑to)])))] (cC (@atS (r) (n) (il) (w) (hid) hk (k) hlt (p2) (to) e) (cP hx0 nilE)) (by kernel_rfl)
theorem lT (r:List Int) (n:Int) (il:List Inl) (w:Int) (hid:List Span) (hk:TextOk r il hid) (hr:r.length≤5000) (l:List Line) (hl:l.length≤100000) (i:Nat) (hi:i + 1 = l.length) (hi2:i < l.length) (p:List Part) (a:Int) (k:Nat) (el:lineT.nth l i = L3 p a k) (hlt:k < r.length) (p2:List Part) (to:Nat) (e:lineAt r il hid (k + 1) = (p2,to)) (l2:List Line) (e2:l ++ [L3 p2 (IntKind.wrap .i64 ((k:Int) + 1)) to] = l2):RdC XR 0 (ntOf XR FAll) (lpKeep XR FAll 0) (lpBody XR FAll 0) 1 (stL r n il w hid (lineT.tailV 103 l)) (stL r n il w hid (lineT.tailV 103 l2)):=by
 have hx0:(decide ((↑k:Int) < (↑r.length:Int))) = true:=decide_eq_true (by omega)
 exact pC 12 [(2,.v (V.d (D.ref (List.flatMap (Ty.enc lineT) l) (i * 3)))),(3,.v (zv ↑k)),(7,bt),(11,.v (V.d (D.ref (List.flatMap (Ty.enc lineT) l) (i * 3)))),(12,.v (zv ↑k)),(14,.v (V.d (D.agg [(Ty.slD partT p2),(zi (zw ((↑k:Int) + (1:Int)))),(zi ↑to)]))),(15,.v (Ty.tailV lineT (103 : TypeId) l2))] (cP (@appendLine (l) (p2) (zw ((↑k:Int) + (1:Int))) ((↑to:Int)) (by omega) (l2) e2) (cC (@atS (r) (n) (il) (w) (hid) hk (k) hlt (p2) (to) e) (cP (@loadLineTo (l) ([(zc [(zs i32T r),(zv n),(zs inlT il),(zv w),(zs spanT hid)])]) (i) hi2 (p) (a) ((↑k:Int)) el) (cP (@iaddrLineL (l) (i) (by omega) hi) (cP hx0 (cP (@loadLineTo (l) ([(zc [(zs i32T r),(zv n),(zs inlT il),(zv w),(zs spanT hid)])]) (i) hi2 (p) (a) ((↑k:Int)) el) (cP (@iaddrLineL (l) (i) (by omega) hi) nilE))))))) (by kernel_rfl)
theorem lXF (r:List Int) (n:Int) (il:List Inl) (w:Int) (hid:List Span) (p:List Part) (a:Int) (k:Nat) (hlt:¬ k < r.length):Rd XR 0 (ntOf XR FAll) (lpBody XR FAll 0) (stL r n il w hid (.full [partT.slD p,.int .i64 a,.int .i64 (k:Int)] 1)) (.exit 0,stLx r n il w hid (.full [partT.slD p,.int .i64 a,.int .i64 (k:Int)] 1)):=by
 have hx0:(decide ((↑k:Int) < (↑r.length:Int))) = false:=decide_eq_false (by omega)
 exact (pR (r:=((Ex.exit 0),{ s:=[(1,(zo 0 0)),(3,(V.full [(zd partT p),(zi a),(zi ↑k)] 1)),(17,(zb (decide ((↑k:Int) < (↑r.length:Int)))))],h:=[(zc [(zs i32T r),(zv n),(zs inlT il),(zv w),(zs spanT hid)])],og:=[] })) 12 [(7,bf)] (cP hx0 nilE) (by kernel_rfl)).to (by simp (disch:=omega) [wrapId, *])
theorem lXT (r:List Int) (n:Int) (il:List Inl) (w:Int) (hid:List Span) (l:List Line) (hl:l.length≤100000) (i:Nat) (hi:i + 1 = l.length) (hi2:i < l.length) (p:List Part) (a:Int) (k:Nat) (el:lineT.nth l i = L3 p a k) (hlt:¬ k < r.length):Rd XR 0 (ntOf XR FAll) (lpBody XR FAll 0) (stL r n il w hid (lineT.tailV 103 l)) (.exit 0,stLx r n il w hid (lineT.tailV 103 l)):=by
 have hx0:(decide ((↑k:Int) < (↑r.length:Int))) = false:=decide_eq_false (by omega)
 exact (pR (r:=((Ex.exit 0),{ s:=[(1,(zo 0 0)),(3,(zt 103 lineT l)),(17,(zb (decide ((↑k:Int) < (↑r.length:Int)))))],h:=[(zc [(zs i32T r),(zv n),(zs inlT il),(zv w),(zs spanT hid)])],og:=[] })) 12 [(2,.v (V.d (D.ref (List.flatMap (Ty.enc lineT) l) (i * 3)))),(3,.v (zv ↑k)),(7,bf)] (cP hx0 (cP (@loadLineTo (l) ([(zc [(zs i32T r),(zv n),(zs inlT il),(zv w),(zs spanT hid)])]) (i) hi2 (p) (a) ((↑k:Int)) el) (cP (@iaddrLineL (l) (i) (by omega) hi) nilE))) (by kernel_rfl)).to (by simp (disch:=omega) [wrapId, *])
theorem bl1 (z x w a:Int) (q:z = 32):Ans XR FBlank [cellA z x w a] (.d (.bool true)):=by
 have hx0:(z == (32:Int)) = true:=decide_eq_true (by omega)
 exact pV 12 [(2,bt),(3,bt),(4,bt),(5,bt)] (cP hx0 (cP hx0 (cP hx0 (cP hx0 nilE)))) (by kernel_rfl) rfl rfl
theorem bl2 (z x w a:Int) (q:z ≠ 32):Ans XR FBlank [cellA z x w a] (.d (.bool (z == 9))):=by
 have hx0:(z == (32:Int)) = false:=decide_eq_false (by omega)
 exact pV 12 [(2,bf),(3,bf),(5,bf),(7,bf)] (cP hx0 (cP hx0 (cP hx0 (cP hx0 nilE)))) (by kernel_rfl) rfl rfl
theorem wd (l:List Cell) (s:Int) (k:Nat) (hl:l.length≤10000000) (hk:k < l.length) (z x w a:Int) (e:cellT.nth l k = C4 z x w a) (h0:0≤s) (h1:s≤100000000000) (h2:0≤w) (h3:w≤1000):RdC XR 0 (ntOf XR FWidth) (lpKeep XR FWidth 0) (lpBody XR FWidth 0) 0 (stWd l s k) (stWd l (s + w) (k + 1)):=by
 have hx0:(decide ((↑k:Int) < (↑l.length:Int))) = true:=decide_eq_true (by omega)
 exact (pC (st':={ s:=[(3,(zv (zw (s + w)))),(6,(zs cellT l)),(7,(zv (↑l.length:Int))),(8,(zv (zw ((↑k:Int) + (1:Int)))))],h:=[],og:=[] }) 12 [(1,bt),(2,.v (V.d (D.ref (List.flatMap (Ty.enc cellT) l) (k * 4)))),(3,.v (V.d (D.agg [(D.int IntKind.i32 z),(zi x),(zi w),(zi a)])))] (cP (@loadCellE (l) ([]) (k) hk (z) (x) (w) (a) e) (cP (@iaddrCellN (l) (k) hk) (cP hx0 nilE))) (by kernel_rfl)).to (by simp (disch:=omega) [wrapId, *])
theorem wdX (l:List Cell) (s:Int):Rd XR 0 (ntOf XR FWidth) (lpBody XR FWidth 0) (stWd l s l.length) (.exit 0,stWdx l s):=by
 have hx0:(decide ((↑l.length:Int) < (↑l.length:Int))) = false:=decide_eq_false (by omega)
 exact (pR (r:=((Ex.exit 0),{ s:=[(3,(zv s)),(6,(zs cellT l)),(7,(zv (↑l.length:Int))),(8,(zv (↑l.length:Int))),(9,(zb (decide ((↑l.length:Int) < (↑l.length:Int)))))],h:=[],og:=[] })) 12 [(1,bf)] (cP hx0 nilE) (by kernel_rfl)).to (by simp (disch:=omega) [wrapId, *])
theorem goA_ge (r:List Int) (il:List Inl) (hid:List Span) (hok:HidOk r.length hid):∀ (f k:Nat) (parts:List Part),k≤r.length→k≤(goA r il hid f k parts).2∧(goA r il hid f k parts).2≤r.length
 | 0,k,parts,h=>⟨Nat.le_refl _,h⟩
 | f + 1,k,parts,h=>by
  unfold goA
  split
  ·exact ⟨Nat.le_refl _,h⟩
  ·rename_i h1
   split
   ·rename_i h2
    obtain ⟨h3,y,hy,h4,_⟩:=hidAt_gt h2 (by omega)
    have h5:(hidAt hid (k:Int)).2≤r.length:=by rw [h4];exact hok y hy
    have:=goA_ge r il hid hok f (hidAt hid (k:Int)).2.toNat (withI il k parts ++ [P3 3 (k:Int) []]) (by omega)
    omega
   ·have h6:k < r.length:=by
     apply Classical.byContradiction
     intro h7;exact h1 (.inl (by omega))
    have:=goA_ge r il hid hok f (k + 1) (addP (withI il k parts) (i32T.nth r k) (k:Int)) (by omega)
    omega
theorem lineAt_ge (r:List Int) (il:List Inl) (hid:List Span) (hok:HidOk r.length hid) (fr:Nat) (h:fr≤r.length):fr≤(lineAt r il hid fr).2∧(lineAt r il hid fr).2≤r.length:=goA_ge r il hid hok _ fr [] h
def allG (r:List Int) (il:List Inl) (hid:List Span):Nat→Nat→List Line
 | 0,fr=>[L3 (lineAt r il hid fr).1 fr (lineAt r il hid fr).2]
 | f + 1,fr=>L3 (lineAt r il hid fr).1 fr (lineAt r il hid fr).2 :: if (lineAt r il hid fr).2 < r.length then allG r il hid f ((lineAt r il hid fr).2 + 1) else []
theorem allG_succ (r:List Int) (il:List Inl) (hid:List Span) (f fr:Nat):allG r il hid (f + 1) fr = L3 (lineAt r il hid fr).1 fr (lineAt r il hid fr).2 :: if (lineAt r il hid fr).2 < r.length then allG r il hid f ((lineAt r il hid fr).2 + 1) else []:=rfl
def allL (r:List Int) (il:List Inl) (hid:List Span):List Line:=allG r il hid r.length 0
theorem allLC (r:List Int) (n:Int) (il:List Inl) (w:Int) (hid:List Span) (hk:TextOk r il hid) :
  ∀ (f fr m:Nat) (d:List Line),r.length - fr≤f→f < m→fr≤r.length→d.length + 0≤fr →
  LpC XR 0 (ntOf XR FAll) (lpKeep XR FAll 0) (lpBody XR FAll 0) 1 m (stL r n il w hid (lineT.tailV 103 (d ++ [L3 (lineAt r il hid fr).1 fr (lineAt r il hid fr).2]))) (.exit 0,stLx r n il w hid (lineT.tailV 103 (d ++ allG r il hid f fr))):=by
 intro f
 have hr:=hk.hr
 induction f with
 | zero =>
  intro fr m d hf hm hfr hd
  obtain ⟨m,rfl⟩:∃ z,m = z + 1:=⟨m - 1,by omega⟩
  have hg:=lineAt_ge r il hid hk.ok fr hfr
  exact LpC.last (lXT r n il w hid (d ++ [L3 (lineAt r il hid fr).1 fr (lineAt r il hid fr).2]) (by simp;omega) d.length (by simp) (by simp) _ _ _ (nth_mid (e:=lineT) d [] _) (by omega)) (by simp)
 | succ f ih =>
  intro fr m d hf hm hfr hd
  obtain ⟨m,rfl⟩:∃ z,m = z + 1:=⟨m - 1,by omega⟩
  have hg:=lineAt_ge r il hid hk.ok fr hfr
  rw [allG_succ]
  by_cases h:(lineAt r il hid fr).2 < r.length
  ·rw [if_pos h]
   have hw:IntKind.wrap .i64 (((lineAt r il hid fr).2:Int) + 1) = (((lineAt r il hid fr).2 + 1:Nat):Int):=by rw [wrapId _ (by omega) (by omega)];omega
   have h2:=ih ((lineAt r il hid fr).2 + 1) m (d ++ [L3 (lineAt r il hid fr).1 fr (lineAt r il hid fr).2]) (by omega) (by omega) (by omega) (by simp;omega)
   have e1:d ++ [L3 (lineAt r il hid fr).1 fr (lineAt r il hid fr).2] ++ allG r il hid f ((lineAt r il hid fr).2 + 1) = d ++ L3 (lineAt r il hid fr).1 fr (lineAt r il hid fr).2 :: allG r il hid f ((lineAt r il hid fr).2 + 1):=by simp
   rw [e1] at h2
   refine LpC.next (lT r n il w hid hk (by omega) (d ++ [L3 (lineAt r il hid fr).1 fr (lineAt r il hid fr).2]) (by simp;omega) d.length (by simp) (by simp) _ _ _ (nth_mid (e:=lineT) d [] _) h (lineAt r il hid ((lineAt r il hid fr).2 + 1)).1 (lineAt r il hid ((lineAt r il hid fr).2 + 1)).2 rfl _ (by rw [hw])) h2
  ·rw [if_neg h]
   exact LpC.last (lXT r n il w hid (d ++ [L3 (lineAt r il hid fr).1 fr (lineAt r il hid fr).2]) (by simp;omega) d.length (by simp) (by simp) _ _ _ (nth_mid (e:=lineT) d [] _) h) (by simp)
def LL (r:List Int) (n:Int) (il:List Inl) (w:Int) (hid:List Span) (p:List Part) (to:Nat) (lv:V):Prop:=Lp XR 0 (ntOf XR FAll) (lpKeep XR FAll 0) (lpBody XR FAll 0) 1 FUEL (stL r n il w hid (.full [partT.slD p,.int .i64 0,.int .i64 (to:Int)] 1)) (.exit 0,stLx r n il w hid lv)
theorem lL (r:List Int) (n:Int) (il:List Inl) (w:Int) (hid:List Span) (hk:TextOk r il hid) :
  LL r n il w hid (lineAt r il hid 0).1 (lineAt r il hid 0).2 (if (lineAt r il hid 0).2 < r.length then lineT.tailV 103 (allL r il hid) else .full [partT.slD (lineAt r il hid 0).1,.int .i64 0,.int .i64 ((lineAt r il hid 0).2:Int)] 1):=by
 have hr:=hk.hr
 by_cases h:(lineAt r il hid 0).2 < r.length
 ·rw [if_pos h]
  have hw:IntKind.wrap .i64 (((lineAt r il hid 0).2:Int) + 1) = (((lineAt r il hid 0).2 + 1:Nat):Int):=by rw [wrapId _ (by omega) (by omega)];omega
  have h1:=lF r n il w hid hk hr (lineAt r il hid 0).1 0 (lineAt r il hid 0).2 h (lineAt r il hid ((lineAt r il hid 0).2 + 1)).1 (lineAt r il hid ((lineAt r il hid 0).2 + 1)).2 rfl
  rw [hw] at h1
  have h2:=allLC r n il w hid hk (r.length - 1) ((lineAt r il hid 0).2 + 1) 1152921504606846974 [L3 (lineAt r il hid 0).1 0 (lineAt r il hid 0).2] (by omega) (by omega) (by omega) (by simp)
  have e:[L3 (lineAt r il hid 0).1 0 (lineAt r il hid 0).2] ++ allG r il hid (r.length - 1) ((lineAt r il hid 0).2 + 1) = allL r il hid:=by
   unfold allL
   obtain ⟨q,hq⟩:∃ q,r.length = q + 1:=⟨r.length - 1,by omega⟩
   rw [hq,show q + 1 - 1 = q by omega]
   rw [allG_succ,if_pos (by omega)];rfl
  rw [e] at h2
  exact LpC.start (LpC.next (m:=1152921504606846974) h1 h2) (by kernel_rfl)
 ·rw [if_neg h]
  exact Lp.run0 (by kernel_rfl) (lXF r n il w hid (lineAt r il hid 0).1 0 (lineAt r il hid 0).2 h) (by simp)
theorem lLp:∀ (r:List Int) (n:Int) (il:List Inl) (w:Int) (hid:List Span) (p:List Part) (to:Nat) (lv:V) (h:LL r n il w hid p to lv),Lp XR 0 (ntOf XR FAll) (lpKeep XR FAll 0) (lpBody XR FAll 0) 1 FUEL (stL r n il w hid (.full [partT.slD p,.int .i64 0,.int .i64 (to:Int)] 1)) (.exit 0,stLx r n il w hid lv):=fun _ _ _ _ _ _ _ _ h=>h
def wOfC (c:Cell):Int:=c.2.2.1
def zOfC (c:Cell):Int:=c.1
def widthC (l:List Cell):Int:=(l.map wOfC).sum
def WOk (l:List Cell):Prop:=∀ c ∈ l,0≤wOfC c∧wOfC c≤16
theorem widthC_take {l:List Cell} {k:Nat} (h:k < l.length):widthC (l.take (k + 1)) = widthC (l.take k) + wOfC (cellT.nth l k):=by
 unfold widthC
 rw [take_succ_nth (e:=cellT) h,List.map_append,List.sum_append];simp
theorem widthC_le:∀ (l:List Cell),WOk l→0≤widthC l∧widthC l≤16 * l.length
 | [],_=>by simp [widthC]
 | c :: l,h=>by
  have h1:=h c (by simp)
  have h2:=widthC_le l (fun x hx=>h x (by simp [hx]))
  have e:widthC (c :: l) = wOfC c + widthC l:=rfl
  rw [e,List.length_cons];omega
def WdL (l:List Cell) (s:Int):Prop:=Lp XR 0 (ntOf XR FWidth) (lpKeep XR FWidth 0) (lpBody XR FWidth 0) 0 FUEL (stWd l 0 0) (.exit 0,stWdx l s)
theorem wdL (l:List Cell) (hl:l.length≤1000000) (hw:WOk l):WdL l (widthC l):=by
 have hx:Rd XR 0 (ntOf XR FWidth) (lpBody XR FWidth 0) (stWd l (widthC (l.take l.length)) l.length) (.exit 0,stWdx l (widthC l)):=by rw [List.take_length];exact wdX l _
 refine Lp.run (fun k=>stWd l (widthC (l.take k)) k) l.length (by omega) (by kernel_rfl) (fun k hk=>?_) hx (by simp)
 have h1:=widthC_le (l.take k) (fun x hx=>hw x (List.mem_of_mem_take hx))
 have h2:0≤wOfC (cellT.nth l k)∧wOfC (cellT.nth l k)≤16:=by rw [nth_get (e:=cellT) hk];exact hw _ (List.getElem_mem hk)
 rw [List.length_take] at h1
 rw [widthC_take hk]
 exact wd l _ k (by omega) hk _ _ (wOfC (cellT.nth l k)) _ rfl h1.1 (by omega) h2.1 (by omega)
theorem wdLp:∀ (l:List Cell) (s:Int) (h:WdL l s),Lp XR 0 (ntOf XR FWidth) (lpKeep XR FWidth 0) (lpBody XR FWidth 0) 0 FUEL ⟨[(3,.d (.int .i64 0)),(6,.d (cellT.slD l)),(7,.d (.int .i64 (l.length:Int))),(8,.d (.int .i64 0))],[],[]⟩ (.exit 0,stWdx l s):=fun _ _ h=>h
theorem allF (r:List Int) (n:Int) (il:List Inl) (w:Int) (hid:List Span) (hk:TextOk r il hid) (p:List Part) (to:Nat) (e:lineAt r il hid 0 = (p,to)) (h:LL r n il w hid p to (.full [partT.slD p,.int .i64 0,.int .i64 (to:Int)] 1)):Ans XR FAll [.d (.agg (textL r n il w hid))] (.full [partT.slD p,.int .i64 0,.int .i64 (to:Int)] 1):=by
 exact pV 12 [(1,.v (V.d (D.agg [(Ty.slD partT p),(zi 0),(zi ↑to)]))),(2,.l (Ex.exit 0) (stLx r n il w hid (V.full [(Ty.slD partT p),(zi 0),(zi ↑to)] 1)))] (cE (@lLp (r) (n) (il) (w) (hid) (p) (to) (V.full [(Ty.slD partT p),(zi 0),(zi ↑to)] 1) h) (cC (@atZ (r) (n) (il) (w) (hid) hk (p) (to) e) nilE)) (by kernel_rfl) rfl rfl
theorem allT (r:List Int) (n:Int) (il:List Inl) (w:Int) (hid:List Span) (hk:TextOk r il hid) (p:List Part) (to:Nat) (e:lineAt r il hid 0 = (p,to)) (L:List Line) (h:LL r n il w hid p to (lineT.tailV 103 L)):Ans XR FAll [.d (.agg (textL r n il w hid))] (.d (lineT.slD L)):=by
 exact pV 12 [(1,.v (V.d (D.agg [(Ty.slD partT p),(zi 0),(zi ↑to)]))),(2,.l (Ex.exit 0) (stLx r n il w hid (Ty.tailV lineT (103 : TypeId) L)))] (cE (@lLp (r) (n) (il) (w) (hid) (p) (to) (Ty.tailV lineT (103 : TypeId) L) h) (cC (@atZ (r) (n) (il) (w) (hid) hk (p) (to) e) nilE)) (by kernel_rfl) rfl rfl
theorem wd0 (l:List Cell) (s:Int) (h:WdL l s):Ans XR FWidth [.d (cellT.slD l)] (.d (.int .i64 s)):=by
 exact pV 12 [(1,.l (Ex.exit (0:Nat)) (stWdx l s))] (cE (@wdLp (l) (s) h) nilE) (by kernel_rfl) rfl rfl
theorem blank:∀ (z x w a:Int) (b:Bool) (e:blankZ z = b),Ans XR FBlank [cellA z x w a] (.d (.bool b)):=fun z x w a b e=>by
 subst e
 unfold blankZ
 by_cases h:z = 32
 ·subst h;exact bl1 32 x w a rfl
 ·have:(z == 32) = false:=beq_eq_false_iff_ne.2 h
  rw [this,Bool.false_or];exact bl2 z x w a h
theorem width:∀ (l:List Cell) (hl:l.length≤1000000) (hw:WOk l) (s:Int) (e:widthC l = s),Ans XR FWidth [.d (cellT.slD l)] (.d (.int .i64 s)):=fun l hl hw s e=>by subst e;exact wd0 l _ (wdL l hl hw)
theorem sliceCell:∀ (l:List Cell) (k:Nat) (h2:k≤l.length) (l2:List Cell) (e:l.take k = l2),sliceV XR 35 (.d (cellT.slD l)) none (some (.d (.int .i64 (k:Int)))) none = some (.d (cellT.slD l2)):=fun l k h2 l2 e=>by subst e;exact sliceHi (e:=cellT) (te := 62) (by kernel_rfl) (by kernel_rfl) (by omega) (by omega)
theorem sliceCellW:∀ (l:List Cell) (k:Nat) (hl:l.length≤1000000) (h2:k < l.length) (l2:List Cell) (e:l.take (k + 1) = l2),sliceV XR 35 (.d (cellT.slD l)) none (some (.d (.int .i64 (IntKind.wrap .i64 ((k:Int) + 1))))) none = some (.d (cellT.slD l2)):=fun l k hl h2 l2 e=>by
 have:=sliceCell l (k + 1) (by omega) l2 e
 rwa [show IntKind.wrap .i64 ((k:Int) + 1) = ((k + 1:Nat):Int) by rw [wrapId _ (by omega) (by omega)];omega]
theorem iaddrCellP:∀ (l:List Cell) (k:Nat) (hl:l.length≤1000000) (h:k + 1≤l.length),iaddrV XR 35 (.d (cellT.slD l)) (.d (.int .i64 (IntKind.wrap .i64 (((k + 1:Nat):Int) - 1)))) = some (.d (.ref (l.flatMap cellT.enc) (k * 4))):=fun l k hl h=>by
 have:=iaddrCellN l k (by omega)
 rwa [show IntKind.wrap .i64 (((k + 1:Nat):Int) - 1) = (k:Int) by rw [wrapId _ (by omega) (by omega)];omega]
theorem loadCellW:∀ (l:List Cell) (h:List Ob) (k:Nat) (hk:k < l.length) (z x w a:Int) (e:cellT.nth l k = C4 z x w a),loadV XR h 3 (.d (.ref (l.flatMap cellT.enc) (k * 4 + 2))) = some (.d (.int .i64 w)):=fun l h k hk z x w a e=>by
 have:=loadCell (X:=XR) (h:=h) (t := 3) (e:=cellT) (z1:=1) (o:=2) (by kernel_rfl) (by kernel_rfl) hk (show 2 < 4 by omega)
 rw [e] at this
 exact this
abbrev FBound:FuncId := 77
abbrev FIndent:FuncId := 70
abbrev stId (l:List Cell) (k:Int):St:=⟨[(0,.d (cellT.slD l)),(3,.d (.int .i64 k))],[],[]⟩
abbrev stIdx (l:List Cell) (k:Int):St:=⟨[(0,.d (cellT.slD l)),(3,.d (.int .i64 k)),(15,.d (.bool false))],[],[]⟩
abbrev FFit:FuncId := 76
abbrev stFt (l:List Cell) (room n:Int):St:=⟨[(0,.d (cellT.slD l)),(1,.d (.int .i64 room)),(5,.d (.int .i64 n))],[],[]⟩
abbrev stFtx (l:List Cell) (room n:Int):St:=⟨[(0,.d (cellT.slD l)),(1,.d (.int .i64 room)),(5,.d (.int .i64 n)),(18,.d (.bool false))],[],[]⟩
abbrev stFu (l:List Cell) (n:Int):St:=⟨[(0,.d (cellT.slD l)),(5,.d (.int .i64 n))],[],[]⟩
abbrev stFux (l:List Cell) (n:Int):St:=⟨[(0,.d (cellT.slD l)),(5,.d (.int .i64 n)),(34,.d (.bool false))],[],[]⟩
theorem bd0 (l:List Cell):Ans XR FBound [.d (cellT.slD l),.d (.int .i64 0)] (.d (.bool false)):=by
 exact pV 12 [] nilE (by kernel_rfl) rfl rfl
theorem bd1 (l:List Cell) (k:Nat) (h0:0 < k) (h:¬ k < l.length):Ans XR FBound [.d (cellT.slD l),.d (.int .i64 (k:Int))] (.d (.bool false)):=by
 have hx0:(decide ((↑k:Int) > (0:Int))) = true:=decide_eq_true (by omega)
 have hx1:(decide ((↑k:Int) < (↑l.length:Int))) = false:=decide_eq_false (by omega)
 exact pV 12 [(1,bt),(2,bt),(3,bt),(5,bt),(7,bt),(8,bf),(9,bf),(10,bf),(11,bf),(12,bf),(13,bf),(14,bf)] (cP hx1 (cP hx1 (cP hx1 (cP hx1 (cP hx1 (cP hx1 (cP hx1 (cP hx0 (cP hx0 (cP hx0 (cP hx0 (cP hx0 nilE)))))))))))) (by kernel_rfl) rfl rfl
theorem bd2 (l:List Cell) (k:Nat) (hl:l.length≤1000000) (h:k + 1 < l.length) (z1 x1 w1 a1:Int) (e1:cellT.nth l k = C4 z1 x1 w1 a1) (q1:blankZ z1 = false):Ans XR FBound [.d (cellT.slD l),.d (.int .i64 ((k + 1:Nat):Int))] (.d (.bool false)):=by
 have hx0:(decide ((↑(k + (1:Nat)):Int) > (0:Int))) = true:=decide_eq_true (by omega)
 have hx1:(decide ((↑(k + (1:Nat)):Int) < (↑l.length:Int))) = true:=decide_eq_true (by omega)
 exact pV 12 [(1,bt),(2,bt),(3,bt),(5,bt),(7,bt),(8,bt),(9,bt),(10,bt),(12,bt),(13,.v (V.d (D.ref (List.flatMap (Ty.enc cellT) l) (k * 4)))),(14,bt),(15,.v (V.d (D.agg [(D.int IntKind.i32 z1),(zi x1),(zi w1),(zi a1)]))),(16,bt),(17,.v (zb false)),(18,bt)] (cP hx1 (cC (@blank (z1) (x1) (w1) (a1) (false) q1) (cP hx1 (cP (@loadCellE (l) ([]) (k) (by omega) (z1) (x1) (w1) (a1) e1) (cP hx1 (cP (@iaddrCellP (l) (k) hl (by omega)) (cP hx1 (cP hx1 (cP hx1 (cP hx1 (cP hx0 (cP hx0 (cP hx0 (cP hx0 (cP hx0 nilE))))))))))))))) (by kernel_rfl) rfl rfl
theorem bd3 (l:List Cell) (k:Nat) (hl:l.length≤1000000) (h:k + 1 < l.length) (z1 x1 w1 a1:Int) (e1:cellT.nth l k = C4 z1 x1 w1 a1) (q1:blankZ z1 = true) (z2 x2 w2 a2:Int) (e2:cellT.nth l (k + 1) = C4 z2 x2 w2 a2) (q2:blankZ z2 = true):Ans XR FBound [.d (cellT.slD l),.d (.int .i64 ((k + 1:Nat):Int))] (.d (.bool false)):=by
 have hx0:(decide ((↑(k + (1:Nat)):Int) > (0:Int))) = true:=decide_eq_true (by omega)
 have hx1:(decide ((↑(k + (1:Nat)):Int) < (↑l.length:Int))) = true:=decide_eq_true (by omega)
 exact pV 12 [(1,bt),(2,bt),(3,bt),(5,bt),(7,bt),(8,bt),(9,bt),(10,bt),(12,bt),(13,.v (V.d (D.ref (List.flatMap (Ty.enc cellT) l) (k * 4)))),(14,bt),(15,.v (V.d (D.agg [(D.int IntKind.i32 z1),(zi x1),(zi w1),(zi a1)]))),(16,bt),(17,.v (zb true)),(18,bt),(22,.v (V.d (D.ref (List.flatMap (Ty.enc cellT) l) ((k + 1) * 4)))),(24,.v (V.d (D.agg [(D.int IntKind.i32 z2),(zi x2),(zi w2),(zi a2)]))),(26,.v (zb true))] (cC (@blank (z2) (x2) (w2) (a2) (true) q2) (cP (@loadCellE (l) ([]) (k + 1) h (z2) (x2) (w2) (a2) e2) (cP (@iaddrCellN (l) (k + 1) h) (cP hx1 (cC (@blank (z1) (x1) (w1) (a1) (true) q1) (cP hx1 (cP (@loadCellE (l) ([]) (k) (by omega) (z1) (x1) (w1) (a1) e1) (cP hx1 (cP (@iaddrCellP (l) (k) hl (by omega)) (cP hx1 (cP hx1 (cP hx1 (cP hx1 (cP hx0 (cP hx0 (cP hx0 (cP hx0 (cP hx0 nilE)))))))))))))))))) (by kernel_rfl) rfl rfl
theorem bd4 (l:List Cell) (k:Nat) (hl:l.length≤1000000) (h:k + 1 < l.length) (z1 x1 w1 a1:Int) (e1:cellT.nth l k = C4 z1 x1 w1 a1) (q1:blankZ z1 = true) (z2 x2 w2 a2:Int) (e2:cellT.nth l (k + 1) = C4 z2 x2 w2 a2) (q2:blankZ z2 = false):Ans XR FBound [.d (cellT.slD l),.d (.int .i64 ((k + 1:Nat):Int))] (.d (.bool (decide (w2 > 0)))):=by
 have hx0:(decide ((↑(k + (1:Nat)):Int) > (0:Int))) = true:=decide_eq_true (by omega)
 have hx1:(decide ((↑(k + (1:Nat)):Int) < (↑l.length:Int))) = true:=decide_eq_true (by omega)
 exact pV 12 [(1,bt),(2,bt),(3,bt),(5,bt),(7,bt),(8,bt),(9,bt),(10,bt),(12,bt),(13,.v (V.d (D.ref (List.flatMap (Ty.enc cellT) l) (k * 4)))),(14,bt),(15,.v (V.d (D.agg [(D.int IntKind.i32 z1),(zi x1),(zi w1),(zi a1)]))),(16,bt),(17,.v (zb true)),(18,bt),(22,.v (V.d (D.ref (List.flatMap (Ty.enc cellT) l) ((k + 1) * 4)))),(24,.v (V.d (D.agg [(D.int IntKind.i32 z2),(zi x2),(zi w2),(zi a2)]))),(26,.v (zb false)),(32,.v (V.d (D.ref (List.flatMap (Ty.enc cellT) l) ((k + 1) * 4)))),(35,.v (zv w2))] (cP (@loadCellW (l) ([]) (k + 1) h (z2) (x2) (w2) (a2) e2) (cP (@iaddrCellN (l) (k + 1) h) (cC (@blank (z2) (x2) (w2) (a2) (false) q2) (cP (@loadCellE (l) ([]) (k + 1) h (z2) (x2) (w2) (a2) e2) (cP (@iaddrCellN (l) (k + 1) h) (cP hx1 (cC (@blank (z1) (x1) (w1) (a1) (true) q1) (cP hx1 (cP (@loadCellE (l) ([]) (k) (by omega) (z1) (x1) (w1) (a1) e1) (cP hx1 (cP (@iaddrCellP (l) (k) hl (by omega)) (cP hx1 (cP hx1 (cP hx1 (cP hx1 (cP hx0 (cP hx0 (cP hx0 (cP hx0 (cP hx0 nilE)))))))))))))))))))) (by kernel_rfl) rfl rfl
theorem id1 (l:List Cell) (k:Nat) (hl:l.length≤1000000) (hk:k < l.length) (z x w a:Int) (e:cellT.nth l k = C4 z x w a) (q:blankZ z = true):RdC XR 0 (ntOf XR FIndent) (lpKeep XR FIndent 0) (lpBody XR FIndent 0) 0 (stId l k) (stId l (k + 1)):=by
 have hx0:(decide ((↑k:Int) < (↑l.length:Int))) = true:=decide_eq_true (by omega)
 exact (pC (st':={ s:=[(0,(zs cellT l)),(3,(zv (zw ((↑k:Int) + (1:Int)))))],h:=[],og:=[] }) 12 [(2,bt),(3,bt),(4,bt),(5,.v (V.d (D.ref (List.flatMap (Ty.enc cellT) l) (k * 4)))),(6,bt),(7,.v (V.d (D.agg [(D.int IntKind.i32 z),(zi x),(zi w),(zi a)]))),(8,bt),(9,.v (zb true)),(10,bt)] (cP hx0 (cC (@blank (z) (x) (w) (a) (true) q) (cP hx0 (cP (@loadCellE (l) ([]) (k) hk (z) (x) (w) (a) e) (cP hx0 (cP (@iaddrCellN (l) (k) hk) (cP hx0 (cP hx0 (cP hx0 nilE))))))))) (by kernel_rfl)).to (by simp (disch:=omega) [wrapId, *])
theorem id2 (l:List Cell) (k:Nat) (hl:l.length≤1000000) (hk:k < l.length) (z x w a:Int) (e:cellT.nth l k = C4 z x w a) (q:blankZ z = false):Rd XR 0 (ntOf XR FIndent) (lpBody XR FIndent 0) (stId l k) (.exit 0,stIdx l k):=by
 have hx0:(decide ((↑k:Int) < (↑l.length:Int))) = true:=decide_eq_true (by omega)
 exact pR 12 [(2,bt),(3,bt),(4,bt),(5,.v (V.d (D.ref (List.flatMap (Ty.enc cellT) l) (k * 4)))),(6,bt),(7,.v (V.d (D.agg [(D.int IntKind.i32 z),(zi x),(zi w),(zi a)]))),(8,bt),(9,.v (zb false)),(10,bt)] (cP hx0 (cC (@blank (z) (x) (w) (a) (false) q) (cP hx0 (cP (@loadCellE (l) ([]) (k) hk (z) (x) (w) (a) e) (cP hx0 (cP (@iaddrCellN (l) (k) hk) (cP hx0 (cP hx0 (cP hx0 nilE))))))))) (by kernel_rfl)
theorem id3 (l:List Cell) (k:Nat) (hk:¬ k < l.length):Rd XR 0 (ntOf XR FIndent) (lpBody XR FIndent 0) (stId l k) (.exit 0,stIdx l k):=by
 have hx0:(decide ((↑k:Int) < (↑l.length:Int))) = false:=decide_eq_false (by omega)
 exact pR 12 [(2,bf),(3,bf),(4,bf),(5,bf),(6,bf),(7,bf)] (cP hx0 (cP hx0 (cP hx0 (cP hx0 (cP hx0 (cP hx0 nilE)))))) (by kernel_rfl)
theorem ft1 (l:List Cell) (room:Int) (k:Nat) (hl:l.length≤1000000) (hk:k < l.length) (l2:List Cell) (e2:l.take (k + 1) = l2) (hl2:l2.length≤1000000) (hw:WOk l2) (s:Int) (es:widthC l2 = s) (q:s≤room):RdC XR 0 (ntOf XR FFit) (lpKeep XR FFit 0) (lpBody XR FFit 0) 0 (stFt l room k) (stFt l room (k + 1)):=by
 have hx0:(decide ((↑k:Int) < (↑l.length:Int))) = true:=decide_eq_true (by omega)
 have hx1:(decide (s≤room)) = true:=decide_eq_true (by omega)
 exact (pC (st':={ s:=[(0,(zs cellT l)),(1,(zv room)),(5,(zv (zw ((↑k:Int) + (1:Int)))))],h:=[],og:=[] }) 12 [(2,bt),(3,bt),(4,bt),(6,bt),(7,.v (V.d (Ty.slD cellT l2))),(8,bt),(9,.v (zv s)),(10,bt),(11,bt),(13,bt),(14,bt)] (cP hx1 (cP hx0 (cP hx0 (cP hx0 (cC (@width (l2) hl2 hw (s) es) (cP hx0 (cP (@sliceCellW (l) (k) hl hk (l2) e2) (cP hx0 (cP hx0 (cP hx0 (cP hx0 nilE))))))))))) (by kernel_rfl)).to (by simp (disch:=omega) [wrapId, *])
theorem ft2 (l:List Cell) (room:Int) (k:Nat) (hl:l.length≤1000000) (hk:k < l.length) (l2:List Cell) (e2:l.take (k + 1) = l2) (hl2:l2.length≤1000000) (hw:WOk l2) (s:Int) (es:widthC l2 = s) (q:¬ s≤room):Rd XR 0 (ntOf XR FFit) (lpBody XR FFit 0) (stFt l room k) (.exit 0,stFtx l room k):=by
 have hx0:(decide ((↑k:Int) < (↑l.length:Int))) = true:=decide_eq_true (by omega)
 have hx1:(decide (s≤room)) = false:=decide_eq_false (by omega)
 exact (pR (r:=((Ex.exit 0),{ s:=[(0,(zs cellT l)),(1,(zv room)),(5,(zv ↑k)),(18,(zb (decide (s≤room))))],h:=[],og:=[] })) 12 [(2,bt),(3,bt),(4,bt),(6,bt),(7,.v (V.d (Ty.slD cellT l2))),(8,bt),(9,.v (zv s)),(10,bt),(11,bt),(13,bt),(14,bf)] (cP hx1 (cP hx0 (cP hx0 (cP hx0 (cC (@width (l2) hl2 hw (s) es) (cP hx0 (cP (@sliceCellW (l) (k) hl hk (l2) e2) (cP hx0 (cP hx0 (cP hx0 (cP hx0 nilE))))))))))) (by kernel_rfl)).to (by simp (disch:=omega) [wrapId, *])
theorem ft3 (l:List Cell) (room:Int) (k:Nat) (hk:¬ k < l.length):Rd XR 0 (ntOf XR FFit) (lpBody XR FFit 0) (stFt l room k) (.exit 0,stFtx l room k):=by
 have hx0:(decide ((↑k:Int) < (↑l.length:Int))) = false:=decide_eq_false (by omega)
 exact pR 12 [(2,bf),(3,bf),(4,bf),(5,bf),(6,bf),(7,bf),(8,bf),(9,bf)] (cP hx0 (cP hx0 (cP hx0 (cP hx0 (cP hx0 (cP hx0 (cP hx0 (cP hx0 nilE)))))))) (by kernel_rfl)
theorem fu1 (l:List Cell) (k:Nat) (hl:l.length≤1000000) (hk:k < l.length) (z x w a:Int) (e:cellT.nth l k = C4 z x w a) (q:w = 0):RdC XR 0 (ntOf XR FFit) (lpKeep XR FFit 1) (lpBody XR FFit 1) 0 (stFu l k) (stFu l (k + 1)):=by
 have hx0:(decide ((↑k:Int) < (↑l.length:Int))) = true:=decide_eq_true (by omega)
 have hx1:(w == (0:Int)) = true:=decide_eq_true (by omega)
 exact (pC (st':={ s:=[(0,(zs cellT l)),(5,(zv (zw ((↑k:Int) + (1:Int)))))],h:=[],og:=[] }) 12 [(2,bt),(3,bt),(4,bt),(5,.v (V.d (D.ref (List.flatMap (Ty.enc cellT) l) (k * 4)))),(6,bt),(7,bt),(8,.v (zv w)),(9,bt),(11,bt),(12,bt)] (cP hx1 (cP hx0 (cP hx0 (cP (@loadCellW (l) ([]) (k) hk (z) (x) (w) (a) e) (cP hx0 (cP hx0 (cP (@iaddrCellN (l) (k) hk) (cP hx0 (cP hx0 (cP hx0 nilE)))))))))) (by kernel_rfl)).to (by simp (disch:=omega) [wrapId, *])
theorem fu2 (l:List Cell) (k:Nat) (hl:l.length≤1000000) (hk:k < l.length) (z x w a:Int) (e:cellT.nth l k = C4 z x w a) (q:w ≠ 0):Rd XR 0 (ntOf XR FFit) (lpBody XR FFit 1) (stFu l k) (.exit 2,stFux l k):=by
 have hx0:(decide ((↑k:Int) < (↑l.length:Int))) = true:=decide_eq_true (by omega)
 have hx1:(w == (0:Int)) = false:=decide_eq_false (by omega)
 exact (pR (r:=((Ex.exit 2),{ s:=[(0,(zs cellT l)),(5,(zv ↑k)),(34,(zb (w == (0:Int))))],h:=[],og:=[] })) 12 [(2,bt),(3,bt),(4,bt),(5,.v (V.d (D.ref (List.flatMap (Ty.enc cellT) l) (k * 4)))),(6,bt),(7,bt),(8,.v (zv w)),(9,bt),(11,bt),(12,bf)] (cP hx1 (cP hx0 (cP hx0 (cP (@loadCellW (l) ([]) (k) hk (z) (x) (w) (a) e) (cP hx0 (cP hx0 (cP (@iaddrCellN (l) (k) hk) (cP hx0 (cP hx0 (cP hx0 nilE)))))))))) (by kernel_rfl)).to (by simp (disch:=omega) [wrapId, *])
theorem fu3 (l:List Cell) (k:Nat) (hk:¬ k < l.length):Rd XR 0 (ntOf XR FFit) (lpBody XR FFit 1) (stFu l k) (.exit 2,stFux l k):=by
 have hx0:(decide ((↑k:Int) < (↑l.length:Int))) = false:=decide_eq_false (by omega)
 exact pR 12 [(2,bf),(3,bf),(4,bf),(5,bf),(6,bf),(7,bf),(8,bf)] (cP hx0 (cP hx0 (cP hx0 (cP hx0 (cP hx0 (cP hx0 (cP hx0 nilE))))))) (by kernel_rfl)
def blC (c:Cell):Bool:=blankZ (zOfC c)
def cAt (l:List Cell) (k:Nat):Cell:=cellT.nth l k
def boundB (l:List Cell) (k:Nat):Bool:=decide (0 < k) && decide (k < l.length) && blC (cAt l (k - 1)) && !blC (cAt l k) && decide (wOfC (cAt l k) > 0)
theorem bound:∀ (l:List Cell) (hl:l.length≤1000000) (k:Nat) (b:Bool) (e:boundB l k = b),Ans XR FBound [.d (cellT.slD l),.d (.int .i64 (k:Int))] (.d (.bool b)):=fun l hl k b e=>by
 subst e
 unfold boundB
 match k with
 | 0=>exact bd0 l
 | k + 1 =>
  by_cases h:k + 1 < l.length
  ·rw [decide_eq_true h,decide_eq_true (show 0 < k + 1 by omega),Nat.add_sub_cancel]
   simp only [Bool.true_and]
   cases q1:blC (cAt l k) with
   | false=>exact bd2 l k hl h _ _ _ _ rfl q1
   | true =>
    cases q2:blC (cAt l (k + 1)) with
    | true=>exact bd3 l k hl h _ _ _ _ rfl q1 _ _ _ _ rfl q2
    | false=>simp only [Bool.not_false,Bool.true_and];exact bd4 l k hl h _ _ _ _ rfl q1 _ _ _ _ rfl q2
  ·rw [decide_eq_false h,decide_eq_true (show 0 < k + 1 by omega)]
   simp only [Bool.true_and,Bool.false_and]
   exact bd1 l (k + 1) (by omega) h
def lead (p:Cell→Bool):List Cell→Nat
 | []=>0
 | c :: l=>if p c = true then lead p l + 1 else 0
theorem lead_le (p:Cell→Bool):∀ l:List Cell,lead p l≤l.length
 | []=>Nat.le_refl _
 | c :: l=>by unfold lead;have:=lead_le p l;split <;> simp <;> omega
theorem lead_lt (p:Cell→Bool):∀ (l:List Cell) (k:Nat),k < lead p l→p (cAt l k) = true
 | [],k,h=>by simp [lead] at h
 | c :: l,k,h=>by
  unfold lead at h
  split at h
  ·rename_i hc
   match k with
   | 0=>exact hc
   | k + 1=>exact lead_lt p l k (by omega)
  ·omega
theorem lead_at (p:Cell→Bool):∀ (l:List Cell),lead p l < l.length→p (cAt l (lead p l)) = false
 | [],h=>by simp [lead] at h
 | c :: l,h=>by
  unfold lead at h ⊢
  split
  ·rename_i hc
   rw [if_pos hc] at h
   exact lead_at p l (by simpa using h)
  ·rename_i hc
   show p c = false
   simpa using hc
def IdL (l:List Cell) (k:Nat):Prop:=Lp XR 0 (ntOf XR FIndent) (lpKeep XR FIndent 0) (lpBody XR FIndent 0) 0 FUEL (stId l 0) (.exit 0,stIdx l k)
theorem idL (l:List Cell) (hl:l.length≤1000000):IdL l (lead blC l):=by
 have hle:=lead_le blC l
 have hx:Rd XR 0 (ntOf XR FIndent) (lpBody XR FIndent 0) (stId l (lead blC l)) (.exit 0,stIdx l (lead blC l)):=by
  by_cases h:lead blC l < l.length
  ·exact id2 l _ hl h _ _ _ _ rfl (lead_at blC l h)
  ·exact id3 l _ h
 exact Lp.run (fun k=>stId l k) (lead blC l) (by omega) (by kernel_rfl) (fun k hk=>id1 l k hl (by omega) _ _ _ _ rfl (lead_lt blC l k hk)) hx (by simp)
theorem idLp:∀ (l:List Cell) (k:Nat) (h:IdL l k),Lp XR 0 (ntOf XR FIndent) (lpKeep XR FIndent 0) (lpBody XR FIndent 0) 0 FUEL ⟨[(0,.d (cellT.slD l)),(3,.d (.int .i64 0))],[],[]⟩ (.exit 0,stIdx l k):=fun _ _ h=>h
def indentC (l:List Cell):Int:=if widthC (l.take (lead blC l)) > 8 then 8 else widthC (l.take (lead blC l))
def fits (room:Int) (l:List Cell):Nat→Nat→Nat
 | 0,k=>k
 | f + 1,k=>if k < l.length∧widthC (l.take (k + 1))≤room then fits room l f (k + 1) else k
def fitN (l:List Cell) (room:Int):Nat:=fits room l l.length 0
theorem fits_le (room:Int) (l:List Cell):∀ f k,k≤l.length→k≤fits room l f k∧fits room l f k≤l.length
 | 0,k,h=>⟨Nat.le_refl _,h⟩
 | f + 1,k,h=>by
  unfold fits
  split
  ·rename_i h1
   have:=fits_le room l f (k + 1) (by omega)
   omega
  ·exact ⟨Nat.le_refl _,h⟩
theorem ftLC (l:List Cell) (room:Int) (hl:l.length≤1000000) (hw:WOk l):∀ (f k m:Nat),l.length - k≤f→f < m→k≤l.length→LpC XR 0 (ntOf XR FFit) (lpKeep XR FFit 0) (lpBody XR FFit 0) 0 m (stFt l room k) (.exit 0,stFtx l room (fits room l f k)):=by
 intro f
 induction f with
 | zero =>
  intro k m hf hm hk
  obtain ⟨m,rfl⟩:∃ z,m = z + 1:=⟨m - 1,by omega⟩
  exact LpC.last (ft3 l room k (by omega)) (by simp)
 | succ f ih =>
  intro k m hf hm hk
  obtain ⟨m,rfl⟩:∃ z,m = z + 1:=⟨m - 1,by omega⟩
  have hw2:WOk (l.take (k + 1)):=fun x hx=>hw x (List.mem_of_mem_take hx)
  unfold fits
  by_cases hk2:k < l.length
  ·by_cases hq:widthC (l.take (k + 1))≤room
   ·rw [if_pos ⟨hk2,hq⟩]
    exact LpC.next (ft1 l room k hl hk2 _ rfl (by rw [List.length_take];omega) hw2 _ rfl hq) (ih (k + 1) m (by omega) (by omega) (by omega))
   ·rw [if_neg (fun h=>hq h.2)]
    exact LpC.last (ft2 l room k hl hk2 _ rfl (by rw [List.length_take];omega) hw2 _ rfl hq) (by simp)
  ·rw [if_neg (fun h=>hk2 h.1)]
   exact LpC.last (ft3 l room k hk2) (by simp)
def FtL (l:List Cell) (room:Int) (n:Nat):Prop:=Lp XR 0 (ntOf XR FFit) (lpKeep XR FFit 0) (lpBody XR FFit 0) 0 FUEL (stFt l room 0) (.exit 0,stFtx l room n)
theorem ftL (l:List Cell) (room:Int) (hl:l.length≤1000000) (hw:WOk l):FtL l room (fitN l room):=LpC.start (m:=1152921504606846975) (ftLC l room hl hw l.length 0 _ (by omega) (by omega) (by omega)) (by kernel_rfl)
theorem ftLp:∀ (l:List Cell) (room:Int) (n:Nat) (h:FtL l room n),Lp XR 0 (ntOf XR FFit) (lpKeep XR FFit 0) (lpBody XR FFit 0) 0 FUEL ⟨[(0,.d (cellT.slD l)),(1,.d (.int .i64 room)),(5,.d (.int .i64 0))],[],[]⟩ (.exit 0,stFtx l room n):=fun _ _ _ h=>h
def zeroW (c:Cell):Bool:=wOfC c == 0
def oneN (l:List Cell):Nat:=1 + lead zeroW (l.drop 1)
def FuL (l:List Cell) (n:Nat):Prop:=Lp XR 0 (ntOf XR FFit) (lpKeep XR FFit 1) (lpBody XR FFit 1) 0 FUEL (stFu l 1) (.exit 2,stFux l n)
theorem cAt_drop (l:List Cell) (k:Nat):cAt (l.drop 1) k = cAt l (k + 1):=by
 show (l.drop 1).getD k _ = l.getD (k + 1) _
 rw [List.getD_eq_getElem?_getD,List.getD_eq_getElem?_getD,List.getElem?_drop,Nat.add_comm 1 k]
theorem fuL (l:List Cell) (hl:l.length≤1000000) (h0:0 < l.length):FuL l (oneN l):=by
 have hle:=lead_le zeroW (l.drop 1)
 rw [List.length_drop] at hle
 unfold oneN
 have hx:Rd XR 0 (ntOf XR FFit) (lpBody XR FFit 1) (stFu l ((lead zeroW (l.drop 1) + 1:Nat):Int)) (.exit 2,stFux l ((lead zeroW (l.drop 1) + 1:Nat):Int)):=by
  by_cases h:lead zeroW (l.drop 1) + 1 < l.length
  ·have h2:=lead_at zeroW (l.drop 1) (by rw [List.length_drop];omega)
   rw [cAt_drop] at h2
   exact fu2 l _ hl h _ _ _ _ rfl (beq_eq_false_iff_ne.1 h2)
  ·exact fu3 l _ h
 rw [Nat.add_comm 1]
 exact Lp.run (fun k=>stFu l ((k + 1:Nat):Int)) (lead zeroW (l.drop 1)) (by omega) (by kernel_rfl) (fun k hk=>by
  have h2:=lead_lt zeroW (l.drop 1) k hk
  rw [cAt_drop] at h2
  exact fu1 l (k + 1) hl (by omega) _ _ _ _ rfl (beq_iff_eq.1 h2)) hx (by simp)
theorem fuLp:∀ (l:List Cell) (n:Nat) (h:FuL l n),Lp XR 0 (ntOf XR FFit) (lpKeep XR FFit 1) (lpBody XR FFit 1) 0 FUEL ⟨[(0,.d (cellT.slD l)),(5,.d (.int .i64 1))],[],[]⟩ (.exit 2,stFux l n):=fun _ _ h=>h
theorem idn8 (l:List Cell) (hl:l.length≤1000000) (k:Nat) (hk:k≤l.length) (h:IdL l k) (l2:List Cell) (e2:l.take k = l2) (hl2:l2.length≤1000000) (hw:WOk l2) (s:Int) (es:widthC l2 = s) (q:s > 8):Ans XR FIndent [.d (cellT.slD l)] (.d (.int .i64 8)):=by
 have hx0:(decide (s > (8:Int))) = true:=decide_eq_true (by omega)
 exact pV 12 [(0,.l (Ex.exit 0) (stIdx l (↑k:Int))),(1,.v (V.d (Ty.slD cellT l2))),(2,.v (zv s)),(4,bt)] (cP hx0 (cC (@width (l2) hl2 hw (s) es) (cP (@sliceCell (l) (k) hk (l2) e2) (cE (@idLp (l) (k) h) nilE)))) (by kernel_rfl) rfl rfl
theorem idnS (l:List Cell) (hl:l.length≤1000000) (k:Nat) (hk:k≤l.length) (h:IdL l k) (l2:List Cell) (e2:l.take k = l2) (hl2:l2.length≤1000000) (hw:WOk l2) (s:Int) (es:widthC l2 = s) (q:¬ s > 8):Ans XR FIndent [.d (cellT.slD l)] (.d (.int .i64 s)):=by
 have hx0:(decide (s > (8:Int))) = false:=decide_eq_false (by omega)
 exact pV 12 [(0,.l (Ex.exit 0) (stIdx l (↑k:Int))),(1,.v (V.d (Ty.slD cellT l2))),(2,.v (zv s)),(4,bf)] (cP hx0 (cC (@width (l2) hl2 hw (s) es) (cP (@sliceCell (l) (k) hk (l2) e2) (cE (@idLp (l) (k) h) nilE)))) (by kernel_rfl) rfl rfl
theorem fi0 (l:List Cell) (room:Int) (n0:Nat) (h:FtL l room n0) (q:n0 = 0) (n:Nat) (h2:FuL l n):Ans XR FFit [.d (cellT.slD l),.d (.int .i64 room)] (.d (.int .i64 (n:Int))):=by
 have hx0:((↑n0:Int) == (0:Int)) = true:=decide_eq_true (by omega)
 exact pV 12 [(0,.l (Ex.exit (0:Nat)) (stFtx l room (↑n0:Int))),(2,bt),(3,.l (Ex.exit (2:Nat)) (stFux l (↑n:Int)))] (cE (@fuLp (l) (n) h2) (cP hx0 (cE (@ftLp (l) (room) (n0) h) nilE))) (by kernel_rfl) rfl rfl
theorem fi1 (l:List Cell) (room:Int) (n0:Nat) (h:FtL l room n0) (q:n0 ≠ 0):Ans XR FFit [.d (cellT.slD l),.d (.int .i64 room)] (.d (.int .i64 (n0:Int))):=by
 have hx0:((↑n0:Int) == (0:Int)) = false:=decide_eq_false (by omega)
 exact pV 12 [(0,.l (Ex.exit (0:Nat)) (stFtx l room (↑n0:Int))),(2,bf)] (cP hx0 (cE (@ftLp (l) (room) (n0) h) nilE)) (by kernel_rfl) rfl rfl
theorem WOk.take {l:List Cell} (h:WOk l) (k:Nat):WOk (l.take k):=fun x hx=>h x (List.mem_of_mem_take hx)
theorem WOk.drop {l:List Cell} (h:WOk l) (k:Nat):WOk (l.drop k):=fun x hx=>h x (List.mem_of_mem_drop hx)
theorem indent:∀ (l:List Cell) (hl:l.length≤1000000) (hw:WOk l) (n:Int) (e:indentC l = n),Ans XR FIndent [.d (cellT.slD l)] (.d (.int .i64 n)):=fun l hl hw n e=>by
 subst e
 have h:=idL l hl
 have hk:=lead_le blC l
 unfold indentC
 by_cases q:widthC (l.take (lead blC l)) > 8
 ·rw [if_pos q];exact idn8 l hl _ hk h _ rfl (by rw [List.length_take];omega) (hw.take _) _ rfl q
 ·rw [if_neg q];exact idnS l hl _ hk h _ rfl (by rw [List.length_take];omega) (hw.take _) _ rfl q
def fitC (l:List Cell) (room:Int):Nat:=if fitN l room = 0 then oneN l else fitN l room
theorem fit:∀ (l:List Cell) (hl:l.length≤1000000) (h0:0 < l.length) (hw:WOk l) (room:Int) (n:Nat) (e:fitC l room = n),Ans XR FFit [.d (cellT.slD l),.d (.int .i64 room)] (.d (.int .i64 (n:Int))):=fun l hl h0 hw room n e=>by
 subst e
 unfold fitC
 by_cases q:fitN l room = 0
 ·rw [if_pos q];exact fi0 l room _ (ftL l room hl hw) q _ (fuL l hl h0)
 ·rw [if_neg q];exact fi1 l room _ (ftL l room hl hw) q
theorem fitC_le (l:List Cell) (room:Int) (h0:0 < l.length):1≤fitC l room∧fitC l room≤l.length:=by
 have h1:=fits_le room l l.length 0 (by omega)
 have h2:=lead_le zeroW (l.drop 1)
 rw [List.length_drop] at h2
 unfold fitC
 split
 ·unfold oneN;omega
 ·unfold fitN at *;omega
abbrev FTakes:FuncId := 73
abbrev stTk (l:List Cell) (n best k:Int):St:=⟨[(0,.d (cellT.slD l)),(5,.d (.int .i64 n)),(6,.d (.int .i64 best)),(7,.d (.int .i64 k))],[],[]⟩
abbrev stTkx (l:List Cell) (n best k:Int):St:=⟨[(0,.d (cellT.slD l)),(5,.d (.int .i64 n)),(6,.d (.int .i64 best)),(7,.d (.int .i64 k)),(21,.d (.bool false))],[],[]⟩
def bestB (l:List Cell):Nat→Nat
 | 0=>0
 | k + 1=>if boundB l (k + 1) = true then k + 1 else bestB l k
theorem bestB_le (l:List Cell):∀ k,bestB l k≤k
 | 0=>Nat.le_refl _
 | k + 1=>by unfold bestB;have:=bestB_le l k;split <;> omega
def TkL (l:List Cell) (n best k:Nat):Prop:=Lp XR 0 (ntOf XR FTakes) (lpKeep XR FTakes 0) (lpBody XR FTakes 0) 0 FUEL (stTk l n 0 1) (.exit 0,stTkx l n best k)
theorem tkLp:∀ (l:List Cell) (n best k:Nat) (h:TkL l n best k),Lp XR 0 (ntOf XR FTakes) (lpKeep XR FTakes 0) (lpBody XR FTakes 0) 0 FUEL ⟨[(0,.d (cellT.slD l)),(5,.d (.int .i64 (n:Int))),(6,.d (.int .i64 0)),(7,.d (.int .i64 1))],[],[]⟩ (.exit 0,stTkx l n best k):=fun _ _ _ _ h=>h
abbrev FStart:FuncId := 72
abbrev stSt (l:List Cell) (room n:Int) (l2:List Cell) (k:Int):St:=⟨[(0,.d (cellT.slD l)),(1,.d (.int .i64 room)),(5,.d (.int .i64 n)),(15,.d (cellT.slD l2)),(16,.d (.int .i64 (l2.length:Int))),(17,.d (.int .i64 k))],[],[]⟩
abbrev stStx (l:List Cell) (room n:Int) (l2:List Cell):St:=⟨[(0,.d (cellT.slD l)),(1,.d (.int .i64 room)),(5,.d (.int .i64 n)),(15,.d (cellT.slD l2)),(16,.d (.int .i64 (l2.length:Int))),(17,.d (.int .i64 (l2.length:Int))),(18,.d (.bool false))],[],[]⟩
theorem tk1 (l:List Cell) (hl:l.length≤1000000) (n:Nat) (hn:n≤l.length) (best k:Nat) (hk:k≤n) (q:boundB l k = true):RdC XR 0 (ntOf XR FTakes) (lpKeep XR FTakes 0) (lpBody XR FTakes 0) 0 (stTk l n best k) (stTk l n k (k + 1)):=by
 have hx0:(decide ((↑k:Int)≤(↑n:Int))) = true:=decide_eq_true (by omega)
 exact (pC (st':={ s:=[(0,(zs cellT l)),(5,(zv ↑n)),(6,(zv ↑k)),(7,(zv (zw ((↑k:Int) + (1:Int)))))],h:=[],og:=[] }) 12 [(1,bt),(2,.v (zb true))] (cC (@bound (l) hl (k) (true) q) (cP hx0 nilE)) (by kernel_rfl)).to (by simp (disch:=omega) [wrapId, *])
theorem tk2 (l:List Cell) (hl:l.length≤1000000) (n:Nat) (hn:n≤l.length) (best k:Nat) (hk:k≤n) (q:boundB l k = false):RdC XR 0 (ntOf XR FTakes) (lpKeep XR FTakes 0) (lpBody XR FTakes 0) 0 (stTk l n best k) (stTk l n best (k + 1)):=by
 have hx0:(decide ((↑k:Int)≤(↑n:Int))) = true:=decide_eq_true (by omega)
 exact (pC (st':={ s:=[(0,(zs cellT l)),(5,(zv ↑n)),(6,(zv ↑best)),(7,(zv (zw ((↑k:Int) + (1:Int)))))],h:=[],og:=[] }) 12 [(1,bt),(2,.v (zb false))] (cC (@bound (l) hl (k) (false) q) (cP hx0 nilE)) (by kernel_rfl)).to (by simp (disch:=omega) [wrapId, *])
theorem tk3 (l:List Cell) (n best k:Nat) (hk:¬ k≤n):Rd XR 0 (ntOf XR FTakes) (lpBody XR FTakes 0) (stTk l n best k) (.exit 0,stTkx l n best k):=by
 have hx0:(decide ((↑k:Int)≤(↑n:Int))) = false:=decide_eq_false (by omega)
 exact (pR (r:=((Ex.exit 0),{ s:=[(0,(zs cellT l)),(5,(zv ↑n)),(6,(zv ↑best)),(7,(zv ↑k)),(21,(zb (decide ((↑k:Int)≤(↑n:Int)))))],h:=[],og:=[] })) 12 [(1,bf)] (cP hx0 nilE) (by kernel_rfl)).to (by simp (disch:=omega) [wrapId, *])
theorem ta0 (l:List Cell) (room:Int) (h0:l.length = 0):Ans XR FTakes [.d (cellT.slD l),.d (.int .i64 room)] (.d (.int .i64 0)):=by
 have hx0:((↑l.length:Int) == (0:Int)) = true:=decide_eq_true (by omega)
 exact pV 12 [(2,bt)] (cP hx0 nilE) (by kernel_rfl) rfl rfl
theorem ta1 (l:List Cell) (hl:l.length≤1000000) (h0:0 < l.length) (hw:WOk l) (room:Int) (n:Nat) (e:fitC l room = n) (q:n = l.length):Ans XR FTakes [.d (cellT.slD l),.d (.int .i64 room)] (.d (.int .i64 (n:Int))):=by
 have hx0:((↑l.length:Int) == (0:Int)) = false:=decide_eq_false (by omega)
 have hx1:((↑n:Int) == (↑l.length:Int)) = true:=decide_eq_true (by omega)
 exact pV 12 [(2,bf),(3,.v (zv ↑n)),(6,bt)] (cP hx1 (cC (@fit (l) hl h0 hw (room) (n) e) (cP hx0 nilE))) (by kernel_rfl) rfl rfl
theorem ta2 (l:List Cell) (hl:l.length≤1000000) (h0:0 < l.length) (hw:WOk l) (room:Int) (n:Nat) (e:fitC l room = n) (q:n ≠ l.length) (best k:Nat) (h:TkL l n best k) (q2:best = 0):Ans XR FTakes [.d (cellT.slD l),.d (.int .i64 room)] (.d (.int .i64 (n:Int))):=by
 have hx0:((↑l.length:Int) == (0:Int)) = false:=decide_eq_false (by omega)
 have hx1:((↑n:Int) == (↑l.length:Int)) = false:=decide_eq_false (by omega)
 have hx2:((↑best:Int) == (0:Int)) = true:=decide_eq_true (by omega)
 exact pV 12 [(2,bf),(3,.v (zv ↑n)),(6,bf),(7,.l (Ex.exit 0) (stTkx l (↑n:Int) (↑best:Int) (↑k:Int))),(9,bt)] (cP hx2 (cE (@tkLp (l) (n) (best) (k) h) (cP hx1 (cC (@fit (l) hl h0 hw (room) (n) e) (cP hx0 nilE))))) (by kernel_rfl) rfl rfl
theorem ta3 (l:List Cell) (hl:l.length≤1000000) (h0:0 < l.length) (hw:WOk l) (room:Int) (n:Nat) (e:fitC l room = n) (q:n ≠ l.length) (best k:Nat) (h:TkL l n best k) (q2:best ≠ 0):Ans XR FTakes [.d (cellT.slD l),.d (.int .i64 room)] (.d (.int .i64 (best:Int))):=by
 have hx0:((↑l.length:Int) == (0:Int)) = false:=decide_eq_false (by omega)
 have hx1:((↑n:Int) == (↑l.length:Int)) = false:=decide_eq_false (by omega)
 have hx2:((↑best:Int) == (0:Int)) = false:=decide_eq_false (by omega)
 exact pV 12 [(2,bf),(3,.v (zv ↑n)),(6,bf),(7,.l (Ex.exit 0) (stTkx l (↑n:Int) (↑best:Int) (↑k:Int))),(9,bf)] (cP hx2 (cE (@tkLp (l) (n) (best) (k) h) (cP hx1 (cC (@fit (l) hl h0 hw (room) (n) e) (cP hx0 nilE))))) (by kernel_rfl) rfl rfl
theorem st1 (l:List Cell) (room n:Int) (l2:List Cell) (k:Nat) (hl:l2.length≤1000000) (hk:k < l2.length) (z x w a:Int) (e:cellT.nth l2 k = C4 z x w a) (q:blankZ z = true):RdC XR 0 (ntOf XR FStart) (lpKeep XR FStart 0) (lpBody XR FStart 0) 0 (stSt l room n l2 k) (stSt l room n l2 (k + 1)):=by
 have hx0:(decide ((↑k:Int) < (↑l2.length:Int))) = true:=decide_eq_true (by omega)
 exact (pC (st':={ s:=[(0,(zs cellT l)),(1,(zv room)),(5,(zv n)),(15,(zs cellT l2)),(16,(zv (↑l2.length:Int))),(17,(zv (zw ((↑k:Int) + (1:Int)))))],h:=[],og:=[] }) 12 [(1,bt),(2,.v (V.d (D.ref (List.flatMap (Ty.enc cellT) l2) (k * 4)))),(3,.v (V.d (D.agg [(D.int IntKind.i32 z),(zi x),(zi w),(zi a)]))),(5,.v (zb true))] (cC (@blank (z) (x) (w) (a) (true) q) (cP (@loadCellE (l2) ([]) (k) hk (z) (x) (w) (a) e) (cP (@iaddrCellN (l2) (k) hk) (cP hx0 nilE)))) (by kernel_rfl)).to (by simp (disch:=omega) [wrapId, *])
theorem st2 (l:List Cell) (room n:Int) (l2:List Cell) (k:Nat) (hl:l2.length≤1000000) (hk:k < l2.length) (z x w a:Int) (e:cellT.nth l2 k = C4 z x w a) (q:blankZ z = false):Rd XR 0 (ntOf XR FStart) (lpBody XR FStart 0) (stSt l room n l2 k) (.ret,⟨[(4,.d (.int .i64 n))],[.cells [.d (.int .i32 z),.d (.int .i64 x),.d (.int .i64 w),.d (.int .i64 a)]],[]⟩):=by
 have hx0:(decide ((↑k:Int) < (↑l2.length:Int))) = true:=decide_eq_true (by omega)
 exact pR 12 [(1,bt),(2,.v (V.d (D.ref (List.flatMap (Ty.enc cellT) l2) (k * 4)))),(3,.v (V.d (D.agg [(D.int IntKind.i32 z),(zi x),(zi w),(zi a)]))),(5,.v (zb false))] (cC (@blank (z) (x) (w) (a) (false) q) (cP (@loadCellE (l2) ([]) (k) hk (z) (x) (w) (a) e) (cP (@iaddrCellN (l2) (k) hk) (cP hx0 nilE)))) (by kernel_rfl)
theorem st3 (l:List Cell) (room n:Int) (l2:List Cell):Rd XR 0 (ntOf XR FStart) (lpBody XR FStart 0) (stSt l room n l2 l2.length) (.exit 0,stStx l room n l2):=by
 have hx0:(decide ((↑l2.length:Int) < (↑l2.length:Int))) = false:=decide_eq_false (by omega)
 exact (pR (r:=((Ex.exit 0),{ s:=[(0,(zs cellT l)),(1,(zv room)),(5,(zv n)),(15,(zs cellT l2)),(16,(zv (↑l2.length:Int))),(17,(zv (↑l2.length:Int))),(18,(zb (decide ((↑l2.length:Int) < (↑l2.length:Int)))))],h:=[],og:=[] })) 12 [(1,bf)] (cP hx0 nilE) (by kernel_rfl)).to (by simp (disch:=omega) [wrapId, *])
theorem tkL (l:List Cell) (hl:l.length≤1000000) (n:Nat) (hn:n≤l.length):TkL l n (bestB l n) (n + 1):=by
 refine Lp.run (fun j=>stTk l n (bestB l j) ((j + 1:Nat):Int)) n (by omega) (by kernel_rfl) (fun j hj=>?_) (tk3 l n (bestB l n) (n + 1) (by omega)) (by simp)
 show RdC XR 0 (ntOf XR FTakes) (lpKeep XR FTakes 0) (lpBody XR FTakes 0) 0 (stTk l n (bestB l j) ((j + 1:Nat):Int)) (stTk l n (bestB l (j + 1)) (((j + 1:Nat):Int) + 1))
 rw [show bestB l (j + 1) = if boundB l (j + 1) = true then j + 1 else bestB l j from rfl]
 cases q:boundB l (j + 1) with
 | true=>rw [if_pos rfl];exact tk1 l hl n hn (bestB l j) (j + 1) (by omega) q
 | false=>rw [if_neg (by simp)];exact tk2 l hl n hn (bestB l j) (j + 1) (by omega) q
def takesC (l:List Cell) (room:Int):Nat :=
 if l.length = 0 then 0 else if fitC l room = l.length then fitC l room else if bestB l (fitC l room) = 0 then fitC l room else bestB l (fitC l room)
theorem takes:∀ (l:List Cell) (hl:l.length≤1000000) (hw:WOk l) (room:Int) (n:Nat) (e:takesC l room = n),Ans XR FTakes [.d (cellT.slD l),.d (.int .i64 room)] (.d (.int .i64 (n:Int))):=fun l hl hw room n e=>by
 subst e
 unfold takesC
 by_cases h0:l.length = 0
 ·rw [if_pos h0];exact ta0 l room h0
 rw [if_neg h0]
 have hf:=fitC_le l room (by omega)
 by_cases h1:fitC l room = l.length
 ·rw [if_pos h1];exact ta1 l hl (by omega) hw room _ rfl h1
 rw [if_neg h1]
 have h:=tkL l hl (fitC l room) hf.2
 by_cases h2:bestB l (fitC l room) = 0
 ·rw [if_pos h2];exact ta2 l hl (by omega) hw room _ rfl h1 _ _ h h2
 ·rw [if_neg h2];exact ta3 l hl (by omega) hw room _ rfl h1 _ _ h h2
theorem takesC_le (l:List Cell) (room:Int):(0 < l.length→1≤takesC l room)∧takesC l room≤l.length:=by
 unfold takesC
 by_cases h0:l.length = 0
 ·rw [if_pos h0];omega
 rw [if_neg h0]
 have hf:=fitC_le l room (by omega)
 have hb:=bestB_le l (fitC l room)
 split
 ·omega
 ·split <;> omega
def StL (l:List Cell) (room n:Int) (l2:List Cell) (x:Ex × St):Prop:=Lp XR 0 (ntOf XR FStart) (lpKeep XR FStart 0) (lpBody XR FStart 0) 0 FUEL (stSt l room n l2 0) x
def StX (l:List Cell) (room n:Int) (l2:List Cell):Prop:=StL l room n l2 (.exit 0,stStx l room n l2)
def StR (l:List Cell) (room n:Int) (l2:List Cell) (c:Cell):Prop:=StL l room n l2 (.ret,⟨[(4,.d (.int .i64 n))],[.cells [.d (.int .i32 c.1),.d (.int .i64 c.2.1),.d (.int .i64 c.2.2.1),.d (.int .i64 c.2.2.2.1)]],[]⟩)
def nbl (c:Cell):Bool:=!blC c
theorem nbl_no {c:Cell} (h:nbl c = false):blankZ (zOfC c) = true:=by
 have:(!blankZ (zOfC c)) = false:=h
 simpa using this
theorem nbl_yes {c:Cell} (h:nbl c = true):blankZ (zOfC c) = false:=by
 have:(!blankZ (zOfC c)) = true:=h
 simpa using this
theorem stL' (l:List Cell) (room n:Int) (l2:List Cell) (hl:l2.length≤1000000):(StX l room n l2∧l2.any nbl = false)∨∃ c,StR l room n l2 c∧l2.any nbl = true:=by
 cases h:l2.any nbl with
 | false=>exact .inl ⟨Lp.run (fun k=>stSt l room n l2 k) l2.length (by omega) (by kernel_rfl) (fun k hk=>st1 l room n l2 k hl hk _ _ _ _ rfl (nbl_no (anyNo (e:=cellT) nbl h hk))) (st3 l room n l2) (by simp),rfl⟩
 | true =>
  obtain ⟨k,hk,h1,h2⟩:=anyYes (e:=cellT) nbl h
  exact .inr ⟨_,Lp.run (fun k=>stSt l room n l2 k) k (by omega) (by kernel_rfl) (fun j hj=>st1 l room n l2 j hl (by omega) _ _ _ _ rfl (nbl_no (h2 j hj))) (st2 l room n l2 k hl hk _ _ _ _ rfl (nbl_yes h1)) (by simp),rfl⟩
def stLx_T:Prop:=∀ (l:List Cell) (room n:Int) (l2:List Cell) (h:StX l room n l2),Lp XR 0 (ntOf XR FStart) (lpKeep XR FStart 0) (lpBody XR FStart 0) 0 FUEL (stSt l room n l2 0) (.exit 0,stStx l room n l2)
theorem stLx':stLx_T:=fun _ _ _ _ h=>h
def stLr_T:Prop:=∀ (l:List Cell) (room n:Int) (l2:List Cell) (c:Cell) (h:StR l room n l2 c),Lp XR 0 (ntOf XR FStart) (lpKeep XR FStart 0) (lpBody XR FStart 0) 0 FUEL (stSt l room n l2 0) (.ret,⟨[(4,.d (.int .i64 n))],[.cells [.d (.int .i32 c.1),.d (.int .i64 c.2.1),.d (.int .i64 c.2.2.1),.d (.int .i64 c.2.2.2.1)]],[]⟩)
theorem stLr':stLr_T:=fun _ _ _ _ _ h=>h
abbrev FHang:FuncId := 66
theorem sr0 (l:List Cell) (hl:l.length≤1000000) (hw:WOk l) (room:Int) (n:Nat) (e:takesC l room = n) (q:n = 0):Ans XR FStart [.d (cellT.slD l),.d (.int .i64 room)] (.d (.int .i64 0)):=by
 have hx0:((↑n:Int) == (0:Int)) = true:=decide_eq_true (by omega)
 exact pV 12 [(0,.v (zv ↑n)),(2,bt)] (cP hx0 (cC (@takes (l) hl hw (room) (n) e) nilE)) (by kernel_rfl) rfl rfl
theorem sr1 (l:List Cell) (hl:l.length≤1000000) (hw:WOk l) (room:Int) (n:Nat) (e:takesC l room = n) (q:n ≠ 0) (hn:n≤l.length) (l2:List Cell) (e2:l.take n = l2) (c:Cell) (h:StR l room (n:Int) l2 c):Ans XR FStart [.d (cellT.slD l),.d (.int .i64 room)] (.d (.int .i64 (n:Int))):=by
 have hx0:((↑n:Int) == (0:Int)) = false:=decide_eq_false (by omega)
 exact pV 12 [(0,.v (zv ↑n)),(2,bf),(3,.v (V.d (Ty.slD cellT l2))),(5,.l (Ex.ret) ({ s:=[(4,(zv ↑n))],h:=[(zc [(V.d (D.int IntKind.i32 (Prod.fst c))),(zv (Prod.fst (Prod.snd c))),(zv (Prod.fst (Prod.snd (Prod.snd c)))),(zv (Prod.fst (Prod.snd (Prod.snd (Prod.snd c)))))])],og:=[] }))] (cE (@stLr' (l) (room) ((↑n:Int)) (l2) (c) h) (cP (@sliceCell (l) (n) hn (l2) e2) (cP hx0 (cC (@takes (l) hl hw (room) (n) e) nilE)))) (by kernel_rfl) rfl rfl
theorem sr2 (l:List Cell) (hl:l.length≤1000000) (h0:0 < l.length) (hw:WOk l) (room:Int) (n:Nat) (e:takesC l room = n) (q:n ≠ 0) (hn:n≤l.length) (l2:List Cell) (e2:l.take n = l2) (h:StX l room (n:Int) l2) (n2:Nat) (e3:fitC l room = n2):Ans XR FStart [.d (cellT.slD l),.d (.int .i64 room)] (.d (.int .i64 (n2:Int))):=by
 have hx0:((↑n:Int) == (0:Int)) = false:=decide_eq_false (by omega)
 exact pV 12 [(0,.v (zv ↑n)),(2,bf),(3,.v (V.d (Ty.slD cellT l2))),(5,.l (Ex.exit 0) (stStx l room (↑n:Int) l2)),(6,.v (zv ↑n2))] (cC (@fit (l) hl h0 hw (room) (n2) e3) (cE (@stLx' (l) (room) ((↑n:Int)) (l2) h) (cP (@sliceCell (l) (n) hn (l2) e2) (cP hx0 (cC (@takes (l) hl hw (room) (n) e) nilE))))) (by kernel_rfl) rfl rfl
theorem hg1 (l:List Cell) (hl:l.length≤1000000) (hw:WOk l) (wd:Int) (h0:0≤wd) (h1:wd≤200) (n:Int) (e:indentC l = n) (q:wd - 2 < n):Ans XR FHang [.d (cellT.slD l),.d (.int .i64 wd)] (.d (.int .i64 0)):=by
 have hx0:(decide (wd ≥ (0:Int))) = true:=decide_eq_true (by omega)
 have hx1:(!(decide (wd≤(200:Int)))) = false:=by simp [*]
 have hx2:(decide ((IntKind.wrap IntKind.i64 (wd - (2:Int))) < n)) = true:=by (first | assumption | (((try simp only [SA] at *);(try simp (disch:=omega) only [SB,wrapI32,reduceCtorEq] at *)) <;> first | omega | assumption | (refine ⟨?_,?_⟩ <;> assumption) | (intros;assumption)))
 exact pV 12 [(0,.v (zv n)),(3,bt),(4,bt),(6,bt),(7,bf),(8,bf),(10,bf),(11,bf),(13,bf),(14,bt)] (cP hx2 (cP hx1 (cP hx1 (cP hx1 (cP hx1 (cP hx1 (cP hx0 (cP hx0 (cP hx0 (cC (@indent (l) hl hw (n) e) nilE)))))))))) (by kernel_rfl) rfl rfl
theorem hg2 (l:List Cell) (hl:l.length≤1000000) (hw:WOk l) (wd:Int) (h0:0≤wd) (h1:wd≤200) (n:Int) (e:indentC l = n) (q:¬ wd - 2 < n):Ans XR FHang [.d (cellT.slD l),.d (.int .i64 wd)] (.d (.int .i64 n)):=by
 have hx0:(decide (wd ≥ (0:Int))) = true:=decide_eq_true (by omega)
 have hx1:(!(decide (wd≤(200:Int)))) = false:=by simp [*]
 have hx2:(decide ((IntKind.wrap IntKind.i64 (wd - (2:Int))) < n)) = false:=by (first | assumption | (((try simp only [SA] at *);(try simp (disch:=omega) only [SB,wrapI32,reduceCtorEq] at *)) <;> first | omega | assumption | (refine ⟨?_,?_⟩ <;> assumption) | (intros;assumption)))
 exact pV 12 [(0,.v (zv n)),(3,bt),(4,bt),(6,bt),(7,bf),(8,bf),(10,bf),(11,bf),(13,bf),(14,bf)] (cP hx2 (cP hx1 (cP hx1 (cP hx1 (cP hx1 (cP hx1 (cP hx0 (cP hx0 (cP hx0 (cC (@indent (l) hl hw (n) e) nilE)))))))))) (by kernel_rfl) rfl rfl
def startC (l:List Cell) (room:Int):Nat:=if takesC l room = 0 then 0 else if (l.take (takesC l room)).any nbl = true then takesC l room else fitC l room
theorem start:∀ (l:List Cell) (hl:l.length≤1000000) (hw:WOk l) (room:Int) (n:Nat) (e:startC l room = n),Ans XR FStart [.d (cellT.slD l),.d (.int .i64 room)] (.d (.int .i64 (n:Int))):=fun l hl hw room n e=>by
 subst e
 have ht:=takesC_le l room
 unfold startC
 by_cases q:takesC l room = 0
 ·rw [if_pos q];exact sr0 l hl hw room _ rfl q
 rw [if_neg q]
 have h0:0 < l.length:=by omega
 rcases stL' l room (takesC l room:Int) (l.take (takesC l room)) (by rw [List.length_take];omega) with ⟨h1,h2⟩ | ⟨c,h1,h2⟩
 ·rw [if_neg (by rw [h2];simp)];exact sr2 l hl h0 hw room _ rfl q ht.2 _ rfl h1 _ rfl
 ·rw [if_pos h2];exact sr1 l hl hw room _ rfl q ht.2 _ rfl c h1
theorem startC_le (l:List Cell) (room:Int):(0 < l.length→1≤startC l room)∧startC l room≤l.length:=by
 have ht:=takesC_le l room
 unfold startC
 split
 ·omega
 ·split
  ·omega
  ·have:=fitC_le l room
   omega
def hangC (l:List Cell) (wd:Int):Int:=if wd - 2 < indentC l then 0 else indentC l
theorem hang:∀ (l:List Cell) (hl:l.length≤1000000) (hw:WOk l) (wd:Int) (h0:0≤wd) (h1:wd≤200) (n:Int) (e:hangC l wd = n),Ans XR FHang [.d (cellT.slD l),.d (.int .i64 wd)] (.d (.int .i64 n)):=fun l hl hw wd h0 h1 n e=>by
 subst e
 unfold hangC
 by_cases q:wd - 2 < indentC l
 ·rw [if_pos q];exact hg1 l hl hw wd h0 h1 _ rfl q
 ·rw [if_neg q];exact hg2 l hl hw wd h0 h1 _ rfl q
abbrev FAllT:FuncId := 67
theorem sliceCellLo:∀ (l:List Cell) (k:Nat) (h2:k≤l.length) (l2:List Cell) (e:l.drop k = l2),sliceV XR 35 (.d (cellT.slD l)) (some (.d (.int .i64 (k:Int)))) none none = some (.d (cellT.slD l2)):=fun l k h2 l2 e=>by subst e;exact sliceLo (e:=cellT) (te := 62) (by kernel_rfl) (by kernel_rfl) (by omega) (by omega)
abbrev stAT (l:List Cell) (r0 r1:Int) (lv:V) (k:Int):St:=⟨[(0,.d (cellT.slD l)),(3,.obj 0 0),(5,lv),(6,.d (.int .i64 k))],[.cells [.d (.int .i64 r0),.d (.int .i64 r1)]],[]⟩
abbrev stATx (l:List Cell) (r0 r1:Int) (lv:V) (k:Int):St:=⟨[(0,.d (cellT.slD l)),(3,.obj 0 0),(5,lv),(6,.d (.int .i64 k)),(19,.d (.bool false))],[.cells [.d (.int .i64 r0),.d (.int .i64 r1)]],[]⟩
abbrev rowsT:Ty:=.sl cellT
abbrev FRows:FuncId := 54
theorem appendCells:∀ (l m:List Cell) (hl:l.length≤1000000) (hm:m.length≤1000000) (l2:List Cell) (e:l ++ m = l2),appendV XR 35 35 (cellT.tailV 62 l) (.d (cellT.slD m)) = some (cellT.tailV 62 l2):=fun l m hl hm l2 e=>by
 subst e
 exact appendList (e:=cellT) (E := 62) (i:=(XR.P.info? 62).getD default) (by kernel_rfl) (by kernel_rfl) (by kernel_rfl) (by kernel_rfl) (by decide +kernel) (by decide +kernel) (by kernel_rfl) (fun _=>rfl) (m:=m) rfl (by omega) (by omega)
theorem appendRw:∀ (l:List (List Cell)) (x:List Cell) (hl:l.length≤1000000) (l2:List (List Cell)) (e:l ++ [x] = l2),appendV XR 121 121 (rowsT.tailV 35 l) (.full [cellT.slD x] 1) = some (rowsT.tailV 35 l2):=fun l x hl l2 e=>by
 subst e
 exact appendOne (e:=rowsT) (E := 35) (i:=(XR.P.info? 35).getD default) (by kernel_rfl) (by kernel_rfl) (by kernel_rfl) (by decide +kernel) (by decide +kernel) (by kernel_rfl) x rfl (by omega)
theorem sliceCellM:∀ (l:List Cell) (k n:Nat) (hl:l.length≤1000000) (h2:k + n≤l.length) (l2:List Cell) (e:(l.drop k).take n = l2),sliceV XR 35 (.d (cellT.slD l)) (some (.d (.int .i64 (k:Int)))) (some (.d (.int .i64 (IntKind.wrap .i64 ((k:Int) + (n:Int)))))) none = some (.d (cellT.slD l2)):=fun l k n hl h2 l2 e=>by
 subst e
 have hw:IntKind.wrap .i64 ((k:Int) + (n:Int)) = ((k + n:Nat):Int):=by rw [wrapId _ (by omega) (by omega)];omega
 rw [hw]
 have:=sliceSl (X:=XR) (t := 35) (e:=cellT) (te := 62) (l:=l) (a:=(k:Int)) (b:=((k + n:Nat):Int)) (by kernel_rfl) (by kernel_rfl) (by omega) (by omega) (by omega)
 rw [this,Int.toNat_natCast,Int.toNat_natCast,List.drop_take,show k + n - k = n by omega]
theorem loadCellA:∀ (l:List Cell) (h:List Ob) (k:Nat) (hk:k < l.length) (z x w a:Int) (e:cellT.nth l k = C4 z x w a),loadV XR h 3 (.d (.ref (l.flatMap cellT.enc) (k * 4 + 3))) = some (.d (.int .i64 a)):=fun l h k hk z x w a e=>by
 have:=loadCell (X:=XR) (h:=h) (t := 3) (e:=cellT) (z1:=1) (o:=3) (by kernel_rfl) (by kernel_rfl) hk (show 3 < 4 by omega)
 rw [e] at this
 exact this
abbrev stR2 (l:List Cell) (hg:Int) (out:List (List Cell)) (at_ i n:Int) (row:List Cell) (k:Int) (tk:D) (tn ti:Int):St :=
 ⟨[(0,.d (cellT.slD l)),(6,.d (.int .i64 hg)),(7,rowsT.tailV 35 out),(8,.d (.int .i64 at_)),(9,.d (.int .i64 i)),(10,.d (.int .i64 n)),(11,cellT.tailV 62 row),(12,.d (.int .i64 k)),(28,.d tk),(29,.d (.int .i64 tn)),(30,.d (.int .i64 ti))],[],[]⟩
abbrev stR2x (l:List Cell) (hg:Int) (out:List (List Cell)) (at_ i n:Int) (row:List Cell) (k:Int) (tk:D) (tn ti:Int):St :=
 ⟨[(0,.d (cellT.slD l)),(6,.d (.int .i64 hg)),(7,rowsT.tailV 35 out),(8,.d (.int .i64 at_)),(9,.d (.int .i64 i)),(10,.d (.int .i64 n)),(11,cellT.tailV 62 row),(12,.d (.int .i64 k)),(28,.d tk),(29,.d (.int .i64 tn)),(30,.d (.int .i64 ti)),(41,.d (.bool false))],[],[]⟩
theorem atF (l:List Cell) (r0 r1 n0:Int) (k:Nat) (hl:l.length≤1000000) (hk:k < l.length) (l2:List Cell) (e2:l.drop k = l2) (hl2:l2.length≤1000000) (hw:WOk l2) (n:Nat) (en:takesC l2 r1 = n) (hn:n≤1000000):RdC XR 0 (ntOf XR FAllT) (lpKeep XR FAllT 0) (lpBody XR FAllT 0) 1 (stAT l r0 r1 (.full [.int .i64 n0] 1) k) (stAT l r0 r1 (i64.tailV 3 [n0,(n:Int)]) ((k:Int) + n)):=by
 have hx0:(decide ((↑k:Int) < (↑l.length:Int))) = true:=decide_eq_true (by omega)
 exact (pC (st':={ s:=[(0,(zs cellT l)),(3,(zo 0 0)),(5,(V.tail (nat_lit 3) [(zi n0),(zi ↑n)] 2)),(6,(zv (zw ((↑k:Int) + (↑n:Int)))))],h:=[(zc [(zv r0),(zv r1)])],og:=[] }) 12 [(2,bt),(3,.v (V.d (Ty.slD cellT l2))),(6,.v (zv ↑n))] (cC (@takes (l2) hl2 hw (r1) (n) en) (cP (@sliceCellLo (l) (k) (by omega) (l2) e2) (cP hx0 nilE))) (by kernel_rfl)).to (by simp (disch:=omega) [Ty.enc,wrapId,Ty.slD, *])
theorem atT (l:List Cell) (r0 r1:Int) (out:List Int) (ho:out.length≤1000000) (k:Nat) (hl:l.length≤1000000) (hk:k < l.length) (l2:List Cell) (e2:l.drop k = l2) (hl2:l2.length≤1000000) (hw:WOk l2) (n:Nat) (en:takesC l2 r1 = n) (hn:n≤1000000) (out2:List Int) (eo:out ++ [(n:Int)] = out2):RdC XR 0 (ntOf XR FAllT) (lpKeep XR FAllT 0) (lpBody XR FAllT 0) 1 (stAT l r0 r1 (i64.tailV 3 out) k) (stAT l r0 r1 (i64.tailV 3 out2) ((k:Int) + n)):=by
 have hx0:(decide ((↑k:Int) < (↑l.length:Int))) = true:=decide_eq_true (by omega)
 exact (pC (st':={ s:=[(0,(zs cellT l)),(3,(zo 0 0)),(5,(zt 3 i64 out2)),(6,(zv (zw ((↑k:Int) + (↑n:Int)))))],h:=[(zc [(zv r0),(zv r1)])],og:=[] }) 12 [(2,bt),(3,.v (V.d (Ty.slD cellT l2))),(6,.v (zv ↑n)),(7,.v (Ty.tailV i64 (3 : TypeId) out2))] (cP (@appendI (out) ((↑n:Int)) ho (out2) eo) (cC (@takes (l2) hl2 hw (r1) (n) en) (cP (@sliceCellLo (l) (k) (by omega) (l2) e2) (cP hx0 nilE)))) (by kernel_rfl)).to (by simp (disch:=omega) [wrapId, *])
theorem atXF (l:List Cell) (r0 r1 n0:Int) (k:Nat) (hk:¬ k < l.length):Rd XR 0 (ntOf XR FAllT) (lpBody XR FAllT 0) (stAT l r0 r1 (.full [.int .i64 n0] 1) k) (.exit 0,stATx l r0 r1 (.full [.int .i64 n0] 1) k):=by
 have hx0:(decide ((↑k:Int) < (↑l.length:Int))) = false:=decide_eq_false (by omega)
 exact (pR (r:=((Ex.exit 0),{ s:=[(0,(zs cellT l)),(3,(zo 0 0)),(5,(V.full [(zi n0)] 1)),(6,(zv ↑k)),(19,(zb (decide ((↑k:Int) < (↑l.length:Int)))))],h:=[(zc [(zv r0),(zv r1)])],og:=[] })) 12 [(2,bf)] (cP hx0 nilE) (by kernel_rfl)).to (by simp (disch:=omega) [wrapId, *])
theorem atXT (l:List Cell) (r0 r1:Int) (out:List Int) (k:Nat) (hk:¬ k < l.length):Rd XR 0 (ntOf XR FAllT) (lpBody XR FAllT 0) (stAT l r0 r1 (i64.tailV 3 out) k) (.exit 0,stATx l r0 r1 (i64.tailV 3 out) k):=by
 have hx0:(decide ((↑k:Int) < (↑l.length:Int))) = false:=decide_eq_false (by omega)
 exact (pR (r:=((Ex.exit 0),{ s:=[(0,(zs cellT l)),(3,(zo 0 0)),(5,(zt 3 i64 out)),(6,(zv ↑k)),(19,(zb (decide ((↑k:Int) < (↑l.length:Int)))))],h:=[(zc [(zv r0),(zv r1)])],og:=[] })) 12 [(2,bf)] (cP hx0 nilE) (by kernel_rfl)).to (by simp (disch:=omega) [wrapId, *])
theorem r2A (l:List Cell) (hl:l.length≤1000000) (hg:Int) (hg2:hg≤100) (out:List (List Cell)) (at_:Nat) (ha:at_ < l.length) (i:Nat) (hi:0 < i) (n:Int) (row:List Cell) (hr:row.length≤1000) (k:Int) (hk0:0≤k) (hk:k < hg) (tk:D) (tn ti:Int) (z x w a:Int) (e:cellT.nth l at_ = C4 z x w a) (row2:List Cell) (er:row ++ [C4 32 5 1 a] = row2):RdC XR 0 (ntOf XR FRows) (lpKeep XR FRows 1) (lpBody XR FRows 1) 0 (stR2 l hg out at_ i n row k tk tn ti) (stR2 l hg out at_ i n row2 (k + 1) tk tn ti):=by
 have hx0:(decide ((↑i:Int) > (0:Int))) = true:=decide_eq_true (by omega)
 have hx1:(decide (k < hg)) = true:=decide_eq_true (by omega)
 exact (pC (st':={ s:=[(0,(zs cellT l)),(6,(zv hg)),(7,(zt 35 rowsT out)),(8,(zv ↑at_)),(9,(zv ↑i)),(10,(zv n)),(11,(zt 62 cellT row2)),(12,(zv (zw (k + (1:Int))))),(28,(V.d tk)),(29,(zv tn)),(30,(zv ti))],h:=[],og:=[] }) 12 [(1,bt),(2,bt),(3,bt),(5,bt),(6,bt),(7,.v (V.d (D.ref (List.flatMap (Ty.enc cellT) l) (at_ * 4)))),(8,.v (zv a)),(9,.v (Ty.tailV cellT (62 : TypeId) row2))] (cP (@appendCell (row) ((32:Int)) ((5:Int)) ((1:Int)) (a) (by omega) (row2) er) (cP (@loadCellA (l) ([]) (at_) ha (z) (x) (w) (a) e) (cP (@iaddrCellN (l) (at_) ha) (cP hx1 (cP hx0 (cP hx0 (cP hx0 (cP hx0 nilE)))))))) (by kernel_rfl)).to (by simp (disch:=omega) [wrapId, *])
theorem r2X (l:List Cell) (hg:Int) (out:List (List Cell)) (at_:Int) (i:Nat) (hi:0 < i) (n:Int) (row:List Cell) (k:Int) (hk:¬ k < hg) (tk:D) (tn ti:Int):Rd XR 0 (ntOf XR FRows) (lpBody XR FRows 1) (stR2 l hg out at_ i n row k tk tn ti) (.exit 2,stR2x l hg out at_ i n row k tk tn ti):=by
 have hx0:(decide ((↑i:Int) > (0:Int))) = true:=decide_eq_true (by omega)
 have hx1:(decide (k < hg)) = false:=decide_eq_false (by omega)
 exact (pR (r:=((Ex.exit 2),{ s:=[(0,(zs cellT l)),(6,(zv hg)),(7,(zt 35 rowsT out)),(8,(zv at_)),(9,(zv ↑i)),(10,(zv n)),(11,(zt 62 cellT row)),(12,(zv k)),(28,(V.d tk)),(29,(zv tn)),(30,(zv ti)),(41,(zb (decide (k < hg))))],h:=[],og:=[] })) 12 [(1,bt),(2,bt),(3,bt),(5,bt),(6,bf)] (cP hx1 (cP hx0 (cP hx0 (cP hx0 (cP hx0 nilE))))) (by kernel_rfl)).to (by simp (disch:=omega) [wrapId, *])
def takG (l:List Cell) (r1:Int):Nat→Nat→List Nat
 | 0,_=>[]
 | f + 1,k=>if k < l.length then takesC (l.drop k) r1 :: takG l r1 f (k + takesC (l.drop k) r1) else []
theorem takG_succ (l:List Cell) (r1:Int) (f k:Nat):takG l r1 (f + 1) k = if k < l.length then takesC (l.drop k) r1 :: takG l r1 f (k + takesC (l.drop k) r1) else []:=rfl
def takA (l:List Cell) (r0 r1:Int):List Nat:=startC l r0 :: takG l r1 l.length (startC l r0)
def natI (l:List Nat):List Int:=l.map (fun n:Nat=>(n:Int))
theorem alLC (l:List Cell) (r0 r1:Int) (hl:l.length≤100000) (hw:WOk l) :
  ∀ (f k m:Nat) (out:List Int),l.length - k≤f→f < m→k≤l.length→out.length≤1 + k →
  LpC XR 0 (ntOf XR FAllT) (lpKeep XR FAllT 0) (lpBody XR FAllT 0) 1 m (stAT l r0 r1 (i64.tailV 3 out) k) (.exit 0,stATx l r0 r1 (i64.tailV 3 (out ++ natI (takG l r1 f k))) l.length):=by
 intro f
 induction f with
 | zero =>
  intro k m out hf hm hk ho
  obtain ⟨m,rfl⟩:∃ z,m = z + 1:=⟨m - 1,by omega⟩
  obtain rfl:k = l.length:=by omega
  rw [show natI (takG l r1 0 l.length) = [] from rfl,List.append_nil]
  exact LpC.last (atXT l r0 r1 out l.length (by omega)) (by simp)
 | succ f ih =>
  intro k m out hf hm hk ho
  obtain ⟨m,rfl⟩:∃ z,m = z + 1:=⟨m - 1,by omega⟩
  rw [takG_succ]
  by_cases h:k < l.length
  ·rw [if_pos h]
   have ht:=takesC_le (l.drop k) r1
   have h0:=ht.1 (by rw [List.length_drop];omega)
   have h1:=ht.2
   rw [List.length_drop] at h1
   have h2:=ih (k + takesC (l.drop k) r1) m (out ++ [(takesC (l.drop k) r1:Int)]) (by omega) (by omega) (by omega) (by simp;omega)
   have e1:out ++ [(takesC (l.drop k) r1:Int)] ++ natI (takG l r1 f (k + takesC (l.drop k) r1)) = out ++ natI (takesC (l.drop k) r1 :: takG l r1 f (k + takesC (l.drop k) r1)):=by simp [natI]
   rw [e1] at h2
   refine LpC.next ?_ h2
   rw [show ((k + takesC (l.drop k) r1:Nat):Int) = (k:Int) + (takesC (l.drop k) r1:Int) by omega]
   exact atT l r0 r1 out (by omega) k (by omega) h _ rfl (by rw [List.length_drop];omega) (hw.drop k) _ rfl (by omega) _ rfl
  ·rw [if_neg h]
   obtain rfl:k = l.length:=by omega
   rw [show natI [] = [] from rfl,List.append_nil]
   exact LpC.last (atXT l r0 r1 out l.length (by omega)) (by simp)
def AtL (l:List Cell) (r0 r1:Int) (n0:Nat) (lv:V) (k:Nat):Prop:=Lp XR 0 (ntOf XR FAllT) (lpKeep XR FAllT 0) (lpBody XR FAllT 0) 1 FUEL (stAT l r0 r1 (.full [.int .i64 (n0:Int)] 1) (n0:Int)) (.exit 0,stATx l r0 r1 lv (k:Int))
theorem atL (l:List Cell) (r0 r1:Int) (hl:l.length≤100000) (hw:WOk l) :
  AtL l r0 r1 (startC l r0) (if startC l r0 < l.length then i64.tailV 3 (natI (takA l r0 r1)) else .full [.int .i64 (startC l r0:Int)] 1) l.length:=by
 have hs:=startC_le l r0
 by_cases h:startC l r0 < l.length
 ·rw [if_pos h]
  have hs1:=hs.1 (by omega)
  have ht:=takesC_le (l.drop (startC l r0)) r1
  have h0:=ht.1 (by rw [List.length_drop];omega)
  have h1:=ht.2
  rw [List.length_drop] at h1
  have h2:=atF l r0 r1 (startC l r0:Int) (startC l r0) (by omega) h _ rfl (by rw [List.length_drop];omega) (hw.drop _) _ rfl (by omega)
  have h3:=alLC l r0 r1 hl hw (l.length - 1) (startC l r0 + takesC (l.drop (startC l r0)) r1) 1152921504606846974 [(startC l r0:Int),(takesC (l.drop (startC l r0)) r1:Int)] (by omega) (by omega) (by omega) (by simp;omega)
  have e:[(startC l r0:Int),(takesC (l.drop (startC l r0)) r1:Int)] ++ natI (takG l r1 (l.length - 1) (startC l r0 + takesC (l.drop (startC l r0)) r1)) = natI (takA l r0 r1):=by
   unfold takA
   obtain ⟨q,hq⟩:∃ q,l.length = q + 1:=⟨l.length - 1,by omega⟩
   rw [hq,show q + 1 - 1 = q by omega,takG_succ,if_pos (by omega)];rfl
  rw [e,show ((startC l r0 + takesC (l.drop (startC l r0)) r1:Nat):Int) = (startC l r0:Int) + (takesC (l.drop (startC l r0)) r1:Int) by omega] at h3
  exact LpC.start (LpC.next (m:=1152921504606846974) h2 h3) (by kernel_rfl)
 ·rw [if_neg h]
  have e:startC l r0 = l.length:=by omega
  have:AtL l r0 r1 (startC l r0) (.full [.int .i64 (startC l r0:Int)] 1) (startC l r0):=Lp.run0 (by kernel_rfl) (atXF l r0 r1 (startC l r0:Int) (startC l r0) h) (by simp)
  rw [e] at this ⊢
  exact this
theorem alLp:∀ (l:List Cell) (r0 r1:Int) (n0:Nat) (lv:V) (k:Nat) (h:AtL l r0 r1 n0 lv k),Lp XR 0 (ntOf XR FAllT) (lpKeep XR FAllT 0) (lpBody XR FAllT 0) 1 FUEL (stAT l r0 r1 (.full [.int .i64 (n0:Int)] 1) (n0:Int)) (.exit 0,stATx l r0 r1 lv (k:Int)):=fun _ _ _ _ _ _ h=>h
theorem alT (l:List Cell) (hl:l.length≤1000000) (hw:WOk l) (r0 r1:Int) (n0:Nat) (e0:startC l r0 = n0) (k:Nat) (L:List Int) (h:AtL l r0 r1 n0 (i64.tailV 3 L) k):Ans XR FAllT [.d (cellT.slD l),.d (.agg [.int .i64 r0,.int .i64 r1])] (.d (i64.slD L)):=by
 exact pV 12 [(2,.v (zv ↑n0)),(5,.l (Ex.exit 0) (stATx l r0 r1 (Ty.tailV i64 (3 : TypeId) L) (↑k:Int)))] (cE (@alLp (l) (r0) (r1) (n0) (Ty.tailV i64 (3 : TypeId) L) (k) h) (cC (@start (l) hl hw (r0) (n0) e0) nilE)) (by kernel_rfl) rfl rfl
theorem sliceCell0:∀ (l:List Cell) (n:Nat) (hl:l.length≤1000000) (h2:n≤l.length) (l2:List Cell) (e:l.take n = l2),sliceV XR 35 (.d (cellT.slD l)) (some (.d (.int .i64 0))) (some (.d (.int .i64 (IntKind.wrap .i64 (0 + (n:Int)))))) none = some (.d (cellT.slD l2)):=fun l n hl h2 l2 e=>by
 have:=sliceCellM l 0 n hl (by omega) l2 (by rw [List.drop_zero];exact e)
 exact this
theorem sliceCellAll:∀ (l:List Cell) (n:Nat) (hl:l.length≤1000000) (h2:n≤l.length) (h3:l.length≤n),sliceV XR 35 (.d (cellT.slD l)) (some (.d (.int .i64 0))) (some (.d (.int .i64 (IntKind.wrap .i64 (0 + (n:Int)))))) none = some (.d (cellT.slD l)):=fun l n hl h2 h3=>sliceCell0 l n hl h2 l (List.take_of_length_le h3)
theorem appendRw0:∀ (x:List Cell),appendV XR 121 121 (.tail 35 [] 0) (.full [cellT.slD x] 1) = some (rowsT.tailV 35 [x]):=fun x=>appendRw [] x (by simp) [x] rfl
theorem appendCellsN:∀ (m:List Cell) (hm:m.length≤1000000),appendV XR 35 35 (.tail 62 [] 0) (.d (cellT.slD m)) = some (cellT.tailV 62 m):=fun m hm=>appendCells [] m (by simp) hm m rfl
theorem rw0 (l:List Cell) (hl:l.length≤100000) (hw:WOk l) (hg:Int) (eg:hangC l 0 = hg):Ans XR FRows [.d (cellT.slD l),.d (.int .i64 0)] (.d (rowsT.slD [l])):=by
 exact pV 12 [(1,.v (zv hg)),(18,.v (V.d (Ty.slD cellT l))),(19,.v (Ty.tailV cellT (62 : TypeId) l)),(20,.v (Ty.tailV rowsT (35 : TypeId) [l]))] (cP (@appendRw0 (l)) (cP (@appendCellsN (l) (by omega)) (cP (@sliceCellAll (l) l.length (by omega) (by omega) (by omega)) (cC (@hang (l) (by omega) hw ((0:Int)) (by omega) (by omega) (hg) eg) nilE)))) (by kernel_rfl) rfl rfl
theorem rw1 (l:List Cell) (hl:l.length≤100000) (hw:WOk l) (wd:Int) (h0:0 < wd) (h1:wd≤200) (hg:Int) (eg:hangC l wd = hg) (hg1:0≤hg) (hg2:hg≤100) (n0:Nat) (ef:startC l wd = n0) (k:Nat) (h:AtL l wd (wd - hg) n0 (.full [.int .i64 (n0:Int)] 1) k) (hn:n0 = l.length):Ans XR FRows [.d (cellT.slD l),.d (.int .i64 wd)] (.d (rowsT.slD [l])):=by
 have hx0:(decide (wd > (0:Int))) = true:=decide_eq_true (by omega)
 have hx1:(decide ((↑n0:Int) < (↑l.length:Int))) = false:=decide_eq_false (by omega)
 exact pV 12 [(1,.v (zv hg)),(3,bt),(8,.v (zv ↑n0)),(14,bf),(29,.v (V.d (Ty.slD cellT l))),(30,.v (Ty.tailV cellT (62 : TypeId) l)),(31,.v (Ty.tailV rowsT (35 : TypeId) [l]))] (cP (@appendRw0 (l)) (cP (@appendCellsN (l) (by omega)) (cP (@sliceCellAll (l) (n0) (by omega) (by omega) (by omega)) (cP hx1 (cC (@start (l) (by omega) hw (wd) (n0) ef) (cP hx0 (cC (@hang (l) (by omega) hw (wd) (by omega) h1 (hg) eg) nilE))))))) (by kernel_rfl) rfl rfl
def indR (hg:Nat) (a:Int):List Cell:=List.replicate hg (C4 32 5 1 a)
def R2L (l:List Cell) (hg:Int) (out:List (List Cell)) (at_ i n:Int) (row:List Cell) (tk:D) (tn ti:Int):Prop:=Lp XR 0 (ntOf XR FRows) (lpKeep XR FRows 1) (lpBody XR FRows 1) 0 FUEL (stR2 l hg out at_ i n [] 0 tk tn ti) (.exit 2,stR2x l hg out at_ i n row hg tk tn ti)
theorem r2L (l:List Cell) (hl:l.length≤1000000) (hg:Nat) (hg2:hg≤100) (out:List (List Cell)) (at_:Nat) (ha:at_ < l.length) (i:Nat) (hi:0 < i) (n:Int) (tk:D) (tn ti:Int) (z x w a:Int) (e:cellT.nth l at_ = C4 z x w a):R2L l (hg:Int) out at_ i n (indR hg a) tk tn ti:=by
 refine Lp.run (fun k=>stR2 l hg out at_ i n (indR k a) ((k:Nat):Int) tk tn ti) hg (by omega) (by kernel_rfl) (fun k hk=>?_) (r2X l hg out at_ i hi n (indR hg a) hg (by omega) tk tn ti) (by simp)
 exact r2A l hl hg (by omega) out at_ ha i hi n (indR k a) (by simp [indR];omega) k (by omega) (by omega) tk tn ti z x w a e (indR (k + 1) a) (by simp [indR,List.replicate_succ'])
theorem r2Lp:∀ (l:List Cell) (hg:Int) (out:List (List Cell)) (at_ i n:Int) (row:List Cell) (tk:D) (tn ti:Int) (h:R2L l hg out at_ i n row tk tn ti),Lp XR 0 (ntOf XR FRows) (lpKeep XR FRows 1) (lpBody XR FRows 1) 0 FUEL (stR2 l hg out at_ i n [] 0 tk tn ti) (.exit 2,stR2x l hg out at_ i n row hg tk tn ti):=fun _ _ _ _ _ _ _ _ _ _ h=>h
abbrev stR1 (l:List Cell) (hg:Int) (out:List (List Cell)) (at_:Int) (tk:List Int) (ti:Int):St :=
 ⟨[(0,.d (cellT.slD l)),(6,.d (.int .i64 hg)),(7,rowsT.tailV 35 out),(8,.d (.int .i64 at_)),(28,.d (i64.slD tk)),(29,.d (.int .i64 (tk.length:Int))),(30,.d (.int .i64 ti))],[],[]⟩
abbrev stR1x (l:List Cell) (hg:Int) (out:List (List Cell)) (at_:Int) (tk:List Int) (ti:Int):St :=
 ⟨[(0,.d (cellT.slD l)),(6,.d (.int .i64 hg)),(7,rowsT.tailV 35 out),(8,.d (.int .i64 at_)),(28,.d (i64.slD tk)),(29,.d (.int .i64 (tk.length:Int))),(30,.d (.int .i64 ti)),(31,.d (.bool false))],[],[]⟩
theorem loadInt0:∀ (l:List Int) (h:List Ob) (hk:0 < l.length) (z:Int) (e:i64.nth l 0 = z),loadV XR h 3 (.d (.ref (l.flatMap i64.enc) 0)) = some (.d (.int .i64 z)):=fun l h hk z e=>loadIntE l h 0 hk z e
theorem appendRw1:∀ (x:List Cell) (l2:List (List Cell)) (e:[x] = l2),appendV XR 121 121 (.tail 35 [] 0) (.full [cellT.slD x] 1) = some (rowsT.tailV 35 l2):=fun x l2 e=>appendRw [] x (by simp) l2 e
theorem rA (l:List Cell) (hl:l.length≤100000) (hg:Int) (tk:List Int) (htk:tk.length≤1000000) (ht0:0 < tk.length) (n:Nat) (en:i64.nth tk 0 = (n:Int)) (hn:n≤l.length) (row:List Cell) (er:l.take n = row) (hr:row.length≤100000) (out2:List (List Cell)) (eo:[row] = out2):RdC XR 0 (ntOf XR FRows) (lpKeep XR FRows 0) (lpBody XR FRows 0) 0 (stR1 l hg [] 0 tk 0) (stR1 l hg out2 n tk 1):=by
 have hx0:(decide ((0:Int) < (↑tk.length:Int))) = true:=decide_eq_true (by omega)
 exact (pC (st':={ s:=[(0,(zs cellT l)),(6,(zv hg)),(7,(zt 35 rowsT out2)),(8,(zv (zw ((0:Int) + (↑n:Int))))),(28,(zs i64 tk)),(29,(zv (↑tk.length:Int))),(30,(zv (zw ((0:Int) + (1:Int)))))],h:=[],og:=[] }) 12 [(1,bt),(2,.v (V.d (D.ref (List.flatMap (Ty.enc i64) tk) (0 * 1)))),(3,.v (zv ↑n)),(12,.v (V.d (Ty.slD cellT row))),(13,.v (Ty.tailV cellT (62 : TypeId) row)),(14,.v (Ty.tailV rowsT (35 : TypeId) out2))] (cP (@appendRw1 (row) (out2) eo) (cP (@appendCellsN (row) (by omega)) (cP (@sliceCell0 (l) (n) (by omega) hn (row) er) (cP (@loadInt0 (tk) ([]) ht0 ((↑n:Int)) en) (cP (@iaddrIntN (tk) 0 ht0) (cP hx0 nilE)))))) (by kernel_rfl)).to (by simp (disch:=omega) [wrapId, *])
theorem rB (l:List Cell) (hl:l.length≤100000) (hg:Int) (out:List (List Cell)) (ho:out.length≤100000) (k:Nat) (hk:k≤l.length) (tk:List Int) (htk:tk.length≤1000000) (i:Nat) (hi:0 < i) (hi2:i < tk.length) (n:Nat) (en:i64.nth tk i = (n:Int)) (hn:k + n≤l.length) (ind:List Cell) (hind:ind.length≤1000) (h:R2L l hg out k i n ind (i64.slD tk) tk.length i) (pc:List Cell) (ep:(l.drop k).take n = pc) (hp:pc.length≤100000) (row:List Cell) (er:ind ++ pc = row) (out2:List (List Cell)) (eo:out ++ [row] = out2):RdC XR 0 (ntOf XR FRows) (lpKeep XR FRows 0) (lpBody XR FRows 0) 0 (stR1 l hg out k tk i) (stR1 l hg out2 ((k:Int) + n) tk ((i:Int) + 1)):=by
 have hx0:(decide ((↑i:Int) < (↑tk.length:Int))) = true:=decide_eq_true (by omega)
 exact (pC (st':={ s:=[(0,(zs cellT l)),(6,(zv hg)),(7,(zt 35 rowsT out2)),(8,(zv (zw ((↑k:Int) + (↑n:Int))))),(28,(zs i64 tk)),(29,(zv (↑tk.length:Int))),(30,(zv (zw ((↑i:Int) + (1:Int)))))],h:=[],og:=[] }) 12 [(1,bt),(2,.v (V.d (D.ref (List.flatMap (Ty.enc i64) tk) (i * 1)))),(3,.v (zv ↑n)),(4,.l (Ex.exit 2) (stR2x l hg out (↑k:Int) (↑i:Int) (↑n:Int) ind hg (zd i64 tk) (↑tk.length:Int) (↑i:Int))),(6,.v (V.d (Ty.slD cellT pc))),(7,.v (Ty.tailV cellT (62 : TypeId) row)),(8,.v (Ty.tailV rowsT (35 : TypeId) out2))] (cP (@appendRw (out) (row) (by omega) (out2) eo) (cP (@appendCells (ind) (pc) (by omega) (by omega) (row) er) (cP (@sliceCellM (l) (k) (n) (by omega) hn (pc) ep) (cE (@r2Lp (l) (hg) (out) ((↑k:Int)) ((↑i:Int)) ((↑n:Int)) (ind) (zd i64 tk) ((↑tk.length:Int)) ((↑i:Int)) h) (cP (@loadIntE (tk) ([]) (i) hi2 ((↑n:Int)) en) (cP (@iaddrIntN (tk) (i) hi2) (cP hx0 nilE))))))) (by kernel_rfl)).to (by simp (disch:=omega) [wrapId, *])
theorem rX (l:List Cell) (hg:Int) (out:List (List Cell)) (k:Int) (tk:List Int) (i:Nat) (hi2:¬ i < tk.length):Rd XR 0 (ntOf XR FRows) (lpBody XR FRows 0) (stR1 l hg out k tk i) (.exit 0,stR1x l hg out k tk i):=by
 have hx0:(decide ((↑i:Int) < (↑tk.length:Int))) = false:=decide_eq_false (by omega)
 exact (pR (r:=((Ex.exit 0),{ s:=[(0,(zs cellT l)),(6,(zv hg)),(7,(zt 35 rowsT out)),(8,(zv k)),(28,(zs i64 tk)),(29,(zv (↑tk.length:Int))),(30,(zv ↑i)),(31,(zb (decide ((↑i:Int) < (↑tk.length:Int)))))],h:=[],og:=[] })) 12 [(1,bf)] (cP hx0 nilE) (by kernel_rfl)).to (by simp (disch:=omega) [wrapId, *])
def atOf (l:List Cell) (k:Nat):Int:=(cellT.nth l k).2.2.2.1
def rowG (l:List Cell) (r1:Int) (hg:Nat):Nat→Nat→List (List Cell)
 | 0,_=>[]
 | f + 1,k=>if k < l.length then (indR hg (atOf l k) ++ (l.drop k).take (takesC (l.drop k) r1)) :: rowG l r1 hg f (k + takesC (l.drop k) r1) else []
theorem rowG_succ (l:List Cell) (r1:Int) (hg f k:Nat):rowG l r1 hg (f + 1) k = if k < l.length then (indR hg (atOf l k) ++ (l.drop k).take (takesC (l.drop k) r1)) :: rowG l r1 hg f (k + takesC (l.drop k) r1) else []:=rfl
theorem drop_cons {l:List Int} {i:Nat} {z:Int} {t:List Int} (h:l.drop i = z :: t):i < l.length∧i64.nth l i = z∧l.drop (i + 1) = t:=by
 have hi:i < l.length:=by
  rcases Nat.lt_or_ge i l.length with h1 | h1
  ·exact h1
  ·rw [List.drop_eq_nil_of_le h1] at h;cases h
 rw [List.drop_eq_getElem_cons hi] at h
 injection h with h1 h2
 exact ⟨hi,by rw [nth_get (e:=i64) hi];exact h1,h2⟩
theorem rLC (l:List Cell) (hg:Nat) (r1:Int) (hl:l.length≤100000) (hgl:hg≤100) (tk:List Int) (htk:tk.length≤1000000) :
  ∀ (f k i m:Nat) (out:List (List Cell)),l.length - k≤f→f < m→k≤l.length→out.length + (l.length - k)≤1 + l.length→0 < i→i≤tk.length→tk.drop i = natI (takG l r1 f k) →
  LpC XR 0 (ntOf XR FRows) (lpKeep XR FRows 0) (lpBody XR FRows 0) 0 m (stR1 l hg out k tk i) (.exit 0,stR1x l hg (out ++ rowG l r1 hg f k) l.length tk tk.length):=by
 intro f
 induction f with
 | zero =>
  intro k i m out hf hm hk ho hi hi2 h
  obtain ⟨m,rfl⟩:∃ z,m = z + 1:=⟨m - 1,by omega⟩
  obtain rfl:k = l.length:=by omega
  rw [show natI (takG l r1 0 l.length) = [] from rfl,List.drop_eq_nil_iff] at h
  obtain rfl:i = tk.length:=by omega
  rw [show rowG l r1 hg 0 l.length = [] from rfl,List.append_nil]
  exact LpC.last (rX l hg out l.length tk tk.length (by omega)) (by simp)
 | succ f ih =>
  intro k i m out hf hm hk ho hi hi2 h
  obtain ⟨m,rfl⟩:∃ z,m = z + 1:=⟨m - 1,by omega⟩
  rw [takG_succ] at h
  rw [rowG_succ]
  by_cases q:k < l.length
  ·rw [if_pos q] at h ⊢
   have ht:=takesC_le (l.drop k) r1
   have h0:=ht.1 (by rw [List.length_drop];omega)
   have h1:=ht.2
   rw [List.length_drop] at h1
   obtain ⟨d1,d2,d3⟩:=drop_cons (show tk.drop i = (takesC (l.drop k) r1:Int) :: natI (takG l r1 f (k + takesC (l.drop k) r1)) from h)
   have h2:=ih (k + takesC (l.drop k) r1) (i + 1) m (out ++ [indR hg (atOf l k) ++ (l.drop k).take (takesC (l.drop k) r1)]) (by omega) (by omega) (by omega) (by simp;omega) (by omega) (by omega) d3
   rw [show out ++ [indR hg (atOf l k) ++ (l.drop k).take (takesC (l.drop k) r1)] ++ rowG l r1 hg f (k + takesC (l.drop k) r1) = out ++ (indR hg (atOf l k) ++ (l.drop k).take (takesC (l.drop k) r1)) :: rowG l r1 hg f (k + takesC (l.drop k) r1) by simp] at h2
   refine LpC.next ?_ h2
   rw [show ((k + takesC (l.drop k) r1:Nat):Int) = (k:Int) + (takesC (l.drop k) r1:Int) by omega,show ((i + 1:Nat):Int) = (i:Int) + 1 by omega]
   exact rB l hl hg out (by omega) k (by omega) tk htk i hi d1 _ d2 (by omega) (indR hg (atOf l k)) (by simp [indR];omega)
    (r2L l (by omega) hg hgl out k q i hi _ (i64.slD tk) tk.length i _ _ _ (atOf l k) rfl) _ rfl (by simp;omega) _ rfl _ rfl
  ·rw [if_neg q] at h ⊢
   obtain rfl:k = l.length:=by omega
   rw [show natI [] = [] from rfl,List.drop_eq_nil_iff] at h
   obtain rfl:i = tk.length:=by omega
   rw [List.append_nil]
   exact LpC.last (rX l hg out l.length tk tk.length (by omega)) (by simp)
def RwL (l:List Cell) (hg:Int) (tk:List Int) (L:List (List Cell)) (k:Int) (ti:Int):Prop:=Lp XR 0 (ntOf XR FRows) (lpKeep XR FRows 0) (lpBody XR FRows 0) 0 FUEL (stR1 l hg [] 0 tk 0) (.exit 0,stR1x l hg L k tk ti)
def rowsM (l:List Cell) (r0 r1:Int) (hg:Nat):List (List Cell):=l.take (startC l r0) :: rowG l r1 hg l.length (startC l r0)
theorem takG_len (l:List Cell) (r1:Int):∀ f k,(takG l r1 f k).length≤f
 | 0,_=>by simp [takG]
 | f + 1,k=>by
  rw [takG_succ];split
  ·have:=takG_len l r1 f (k + takesC (l.drop k) r1);simp;omega
  ·simp
theorem rwL (l:List Cell) (hg:Nat) (r0 r1:Int) (hl:l.length≤100000) (hgl:hg≤100):RwL l hg (natI (takA l r0 r1)) (rowsM l r0 r1 hg) l.length (natI (takA l r0 r1)).length:=by
 have hs:=(startC_le l r0).2
 have hlen:=takG_len l r1 l.length (startC l r0)
 have e:(natI (takA l r0 r1)).length = (takG l r1 l.length (startC l r0)).length + 1:=by simp [natI,takA]
 have hA:=rA l hl hg (natI (takA l r0 r1)) (by omega) (by omega) (startC l r0) rfl hs _ rfl (by simp;omega) _ rfl
 have h2:=rLC l hg r1 hl hgl (natI (takA l r0 r1)) (by omega) l.length (startC l r0) 1 1152921504606846974 [l.take (startC l r0)] (by omega) (by omega) (by omega) (by simp) (by omega) (by omega) rfl
 exact LpC.start (LpC.next (m:=1152921504606846974) hA h2) (by kernel_rfl)
theorem rwLp:∀ (l:List Cell) (hg:Int) (tk:List Int) (L:List (List Cell)) (k ti:Int) (h:RwL l hg tk L k ti),Lp XR 0 (ntOf XR FRows) (lpKeep XR FRows 0) (lpBody XR FRows 0) 0 FUEL (stR1 l hg [] 0 tk 0) (.exit 0,stR1x l hg L k tk ti):=fun _ _ _ _ _ _ h=>h
theorem rw2 (l:List Cell) (hl:l.length≤100000) (hw:WOk l) (wd:Int) (h0:0 < wd) (h1:wd≤200) (hg:Int) (eg:hangC l wd = hg) (hg1:0≤hg) (hg2:hg≤100) (n0:Nat) (ef:startC l wd = n0) (k:Nat) (tk:List Int) (htk:tk.length≤1000000) (h:AtL l wd (IntKind.wrap .i64 (wd - hg)) n0 (i64.tailV 3 tk) k) (L:List (List Cell)) (k2 ti:Int) (h2:RwL l hg tk L k2 ti):Ans XR FRows [.d (cellT.slD l),.d (.int .i64 wd)] (.d (rowsT.slD L)):=by
 have hx0:(decide (wd > (0:Int))) = true:=decide_eq_true (by omega)
 exact pV 12 [(1,.v (zv hg)),(3,bt),(5,.v (V.d (Ty.slD i64 tk))),(7,.l (Ex.exit 0) (stR1x l hg L k2 tk ti))] (cE (@rwLp (l) (hg) (tk) (L) (k2) (ti) h2) (cC (@alT (l) (by omega) hw (wd) (zw (wd - hg)) (n0) ef (k) (tk) h) (cP hx0 (cC (@hang (l) (by omega) hw (wd) (by omega) h1 (hg) eg) nilE)))) (by kernel_rfl) rfl rfl
end Go.Proofs.Ytaobccodpdmieaa.Lay
