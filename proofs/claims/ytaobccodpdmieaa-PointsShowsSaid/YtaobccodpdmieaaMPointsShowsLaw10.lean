/- Lemmas for the law PointsShowsLaw: texts of mine, merged. -/
import Derived.Test.YtaobccodpdmieaaMPointsShowsLaw9
set_option maxRecDepth 100000
set_option linter.unusedSimpArgs false
set_option linter.unusedVariables false
set_option maxHeartbeats 4000000
namespace Go.Proofs.Ytaobccodpdmieaa.Points
open Go Pv G
theorem rline (rows:List Row) (i:Nat) (hs:smallR rows) (hr:rows.length≤10000000) (hi:i < rows.length):Ans X0 FRL [.d (rowT.slD rows),.d (.int .i64 i)] (.d (.agg [cellT.slD (lineOf rows i),.int .i64 (aheadOf rows i)])):=by
 exact pV 12 [(0,.l (Ex.exit (0:Nat)) (stBx rows i (backTo rows i))),(1,.l (Ex.exit (2:Nat)) (stOx rows i (backTo rows i) (lineOf rows i) (aheadOf rows i) ((backTo rows i) + (Points.runN rows (backTo rows i)))))] (cE (@rlLoop0 (rows) (i) hs hi) (cE (@backLoop (rows) (i) hr hi) nilE)) (by kernel_rfl) rfl rfl
theorem rmSkip (rows:List Row) (i:Nat) (r:Row) (L:List Cell) (ah:Nat) (M:List Mark) (k col:Nat) (hc:col < (Row.cells r).length) (hc2:(Row.cells r).length≤100000) (hk:Cell.kind (cellT.nth (Row.cells r) col) = 5):RdC X0 0 (ntOf X0 FRM) (lpKeep X0 FRM 1) (lpBody X0 FRM 1) 2 (stK rows i r L ah M k col) (stK rows i r L ah M k (col + 1)):=by
 have h0:(decide ((↑col:Int) < (↑(List.length (Row.cells r)):Int))) = true:=by (((try simp only [Bool.not_eq_true',Bool.not_eq_false',Bool.and_eq_true,Bool.and_eq_false_iff,decide_eq_true_eq,decide_eq_false_iff_not,beq_iff_eq,beq_eq_false_iff_ne,bne_iff_ne,bne_eq_false_iff_eq,ne_eq,not_and,Int.toNat_natCast] at *);(try simp only [Row.cells,Row.wrapped,Row.end_,Cell.kind,Cell.at] at *);(try simp (disch:=omega) only [wrapId,toNatAdd,toNatSucc,isAt,reduceCtorEq,or_false,and_true,Bool.and_true,Bool.and_eq_true,Bool.and_eq_false_iff,beq_iff_eq,beq_eq_false_iff_ne,ne_eq,Int.toNat_natCast] at *)) <;> first | omega | assumption)
 have h1:((Prod.fst (Prod.snd (Ty.nth cellT (Row.cells r) (Int.toNat (↑col:Int))))) == (5:Int)) = true:=by (((try simp only [Bool.not_eq_true',Bool.not_eq_false',Bool.and_eq_true,Bool.and_eq_false_iff,decide_eq_true_eq,decide_eq_false_iff_not,beq_iff_eq,beq_eq_false_iff_ne,bne_iff_ne,bne_eq_false_iff_eq,ne_eq,not_and,Int.toNat_natCast] at *);(try simp only [Row.cells,Row.wrapped,Row.end_,Cell.kind,Cell.at] at *);(try simp (disch:=omega) only [wrapId,toNatAdd,toNatSucc,isAt,reduceCtorEq,or_false,and_true,Bool.and_true,Bool.and_eq_true,Bool.and_eq_false_iff,beq_iff_eq,beq_eq_false_iff_ne,ne_eq,Int.toNat_natCast] at *)) <;> first | omega | assumption)
 exact (pC (st':={ s:=[(0,(zs rowT rows)),(3,(zt 51 markT M)),(4,(zv ↑i)),(5,(zo 0 0)),(6,(zo 1 0)),(7,(zv ↑k)),(10,(zs rowT rows)),(11,(zv (↑rows.length:Int))),(12,(zv ↑i)),(23,(zs cellT (Row.cells r))),(24,(zv (↑(List.length (Row.cells r)):Int))),(25,(zv (zw ((↑col:Int) + (1:Int)))))],h:=[(zc [(zs cellT (Prod.fst r)),(zv (Prod.fst (Prod.snd r))),(zv (Prod.fst (Prod.snd (Prod.snd r)))),(zv (Prod.fst (Prod.snd (Prod.snd (Prod.snd r))))),(zb (Prod.fst (Prod.snd (Prod.snd (Prod.snd (Prod.snd r)))))),(zb (Prod.fst (Prod.snd (Prod.snd (Prod.snd (Prod.snd (Prod.snd r))))))),(zv (Prod.fst (Prod.snd (Prod.snd (Prod.snd (Prod.snd (Prod.snd (Prod.snd r))))))))]),(zc [(zs cellT L),(zv ↑ah)])],og:=[] }) 12 [(1,bt),(2,.v (V.d (D.ref (List.flatMap (Ty.enc cellT) (Row.cells r)) ((Int.toNat (↑col:Int)) * 4)))),(3,.v (V.d (D.agg (Ty.enc cellT (Ty.nth cellT (Row.cells r) (Int.toNat (↑col:Int))))))),(6,bt)] (cP h1 (cP (@loadCell' (Row.cells r) ([(zc [(zs cellT (Prod.fst r)),(zv (Prod.fst (Prod.snd r))),(zv (Prod.fst (Prod.snd (Prod.snd r)))),(zv (Prod.fst (Prod.snd (Prod.snd (Prod.snd r))))),(zb (Prod.fst (Prod.snd (Prod.snd (Prod.snd (Prod.snd r)))))),(zb (Prod.fst (Prod.snd (Prod.snd (Prod.snd (Prod.snd (Prod.snd r))))))),(zv (Prod.fst (Prod.snd (Prod.snd (Prod.snd (Prod.snd (Prod.snd (Prod.snd r))))))))]),(zc [(zs cellT L),(zv ↑ah)])]) (Int.toNat (↑col:Int)) (by omega)) (cP (@iaddrCell (Row.cells r) ((↑col:Int)) (by omega) (by omega)) (cP h0 nilE)))) (by kernel_rfl)).to (by simp (disch:=omega) [wrapId, *])
theorem rmStop (rows:List Row) (i:Nat) (r:Row) (L:List Cell) (ah:Nat) (M:List Mark) (k col:Nat) (hc:col < (Row.cells r).length) (hc2:(Row.cells r).length≤100000) (hk:Cell.kind (cellT.nth (Row.cells r) col) ≠ 5) (hL:k < L.length) (hL2:L.length < 20000000) (hM:M.length < 100000000) (hs:stopAt L k = true):RdC X0 0 (ntOf X0 FRM) (lpKeep X0 FRM 1) (lpBody X0 FRM 1) 2 (stK rows i r L ah M k col) (stK rows i r L ah (M ++ [cm r i col]) (k + 1) (col + 1)):=by
 have h0:(decide ((↑col:Int) < (↑(List.length (Row.cells r)):Int))) = true:=by (((try simp only [Bool.not_eq_true',Bool.not_eq_false',Bool.and_eq_true,Bool.and_eq_false_iff,decide_eq_true_eq,decide_eq_false_iff_not,beq_iff_eq,beq_eq_false_iff_ne,bne_iff_ne,bne_eq_false_iff_eq,ne_eq,not_and,Int.toNat_natCast] at *);(try simp only [Row.cells,Row.wrapped,Row.end_,Cell.kind,Cell.at] at *);(try simp (disch:=omega) only [wrapId,toNatAdd,toNatSucc,isAt,reduceCtorEq,or_false,and_true,Bool.and_true,Bool.and_eq_true,Bool.and_eq_false_iff,beq_iff_eq,beq_eq_false_iff_ne,ne_eq,Int.toNat_natCast] at *)) <;> first | omega | assumption)
 have h1:((Prod.fst (Prod.snd (Ty.nth cellT (Row.cells r) (Int.toNat (↑col:Int))))) == (5:Int)) = false:=by (((try simp only [Bool.not_eq_true',Bool.not_eq_false',Bool.and_eq_true,Bool.and_eq_false_iff,decide_eq_true_eq,decide_eq_false_iff_not,beq_iff_eq,beq_eq_false_iff_ne,bne_iff_ne,bne_eq_false_iff_eq,ne_eq,not_and,Int.toNat_natCast] at *);(try simp only [Row.cells,Row.wrapped,Row.end_,Cell.kind,Cell.at] at *);(try simp (disch:=omega) only [wrapId,toNatAdd,toNatSucc,isAt,reduceCtorEq,or_false,and_true,Bool.and_true,Bool.and_eq_true,Bool.and_eq_false_iff,beq_iff_eq,beq_eq_false_iff_ne,ne_eq,Int.toNat_natCast] at *)) <;> first | omega | assumption)
 have h2:(stopAt L k) = true:=by (((try simp only [Bool.not_eq_true',Bool.not_eq_false',Bool.and_eq_true,Bool.and_eq_false_iff,decide_eq_true_eq,decide_eq_false_iff_not,beq_iff_eq,beq_eq_false_iff_ne,bne_iff_ne,bne_eq_false_iff_eq,ne_eq,not_and,Int.toNat_natCast] at *);(try simp only [Row.cells,Row.wrapped,Row.end_,Cell.kind,Cell.at] at *);(try simp (disch:=omega) only [wrapId,toNatAdd,toNatSucc,isAt,reduceCtorEq,or_false,and_true,Bool.and_true,Bool.and_eq_true,Bool.and_eq_false_iff,beq_iff_eq,beq_eq_false_iff_ne,ne_eq,Int.toNat_natCast] at *)) <;> first | omega | assumption)
 exact (pC (st':={ s:=[(0,(zs rowT rows)),(3,(zt 51 markT (M ++ [((↑i:Int),(↑col:Int),(Prod.fst (Prod.snd (Ty.nth cellT (Row.cells r) (Int.toNat (↑col:Int))))),(Prod.fst (Prod.snd (Prod.snd (Prod.snd (Ty.nth cellT (Row.cells r) (Int.toNat (↑col:Int))))))),())]))),(4,(zv ↑i)),(5,(zo 0 0)),(6,(zo 1 0)),(7,(zv (zw ((↑k:Int) + (1:Int))))),(10,(zs rowT rows)),(11,(zv (↑rows.length:Int))),(12,(zv ↑i)),(23,(zs cellT (Row.cells r))),(24,(zv (↑(List.length (Row.cells r)):Int))),(25,(zv (zw ((↑col:Int) + (1:Int)))))],h:=[(zc [(zs cellT (Prod.fst r)),(zv (Prod.fst (Prod.snd r))),(zv (Prod.fst (Prod.snd (Prod.snd r)))),(zv (Prod.fst (Prod.snd (Prod.snd (Prod.snd r))))),(zb (Prod.fst (Prod.snd (Prod.snd (Prod.snd (Prod.snd r)))))),(zb (Prod.fst (Prod.snd (Prod.snd (Prod.snd (Prod.snd (Prod.snd r))))))),(zv (Prod.fst (Prod.snd (Prod.snd (Prod.snd (Prod.snd (Prod.snd (Prod.snd r))))))))]),(zc [(zs cellT L),(zv ↑ah)])],og:=[] }) 12 [(1,bt),(2,.v (V.d (D.ref (List.flatMap (Ty.enc cellT) (Row.cells r)) ((Int.toNat (↑col:Int)) * 4)))),(3,.v (V.d (D.agg (Ty.enc cellT (Ty.nth cellT (Row.cells r) (Int.toNat (↑col:Int))))))),(6,bf),(8,.v (zb (stopAt L k))),(9,bt),(12,.v (Ty.tailV markT (51:TypeId) (M ++ [((↑i:Int),(↑col:Int),(Prod.fst (Prod.snd (Ty.nth cellT (Row.cells r) (Int.toNat (↑col:Int))))),(Prod.fst (Prod.snd (Prod.snd (Prod.snd (Ty.nth cellT (Row.cells r) (Int.toNat (↑col:Int))))))),())])))] (cP (@appendRMark (M) ((↑i:Int)) ((↑col:Int)) (Prod.fst (Prod.snd (Ty.nth cellT (Row.cells r) (Int.toNat (↑col:Int))))) (Prod.fst (Prod.snd (Prod.snd (Prod.snd (Ty.nth cellT (Row.cells r) (Int.toNat (↑col:Int))))))) (by omega)) (cP h2 (cC (@stop1 (L) (k) hL hL2) (cP h1 (cP (@loadCell' (Row.cells r) ([(zc [(zs cellT (Prod.fst r)),(zv (Prod.fst (Prod.snd r))),(zv (Prod.fst (Prod.snd (Prod.snd r)))),(zv (Prod.fst (Prod.snd (Prod.snd (Prod.snd r))))),(zb (Prod.fst (Prod.snd (Prod.snd (Prod.snd (Prod.snd r)))))),(zb (Prod.fst (Prod.snd (Prod.snd (Prod.snd (Prod.snd (Prod.snd r))))))),(zv (Prod.fst (Prod.snd (Prod.snd (Prod.snd (Prod.snd (Prod.snd (Prod.snd r))))))))]),(zc [(zs cellT L),(zv ↑ah)])]) (Int.toNat (↑col:Int)) (by omega)) (cP (@iaddrCell (Row.cells r) ((↑col:Int)) (by omega) (by omega)) (cP h0 nilE))))))) (by kernel_rfl)).to (by ((try simp (disch:=omega) only [wrapId,toNatAdd,toNatSucc,goesOn,Row.wrapped] at *);(try simp only [Int.toNat_natCast,beq_iff_eq,beq_eq_false_iff_ne,bne_iff_ne,bne_eq_false_iff_eq,ne_eq,Int.natCast_eq_zero,Int.natCast_inj,Row.cells] at *);first | (simp (disch:=omega) [Ty.enc,stopAt,lineMarks,lineM,lineA,lineW,Row.end_,inA,inW,inM,mk,Cell.kind,Cell.at,Row.cells,wrapId,mP,isAt,toNatPred,toNatAdd,toNatSucc,goesOn,ltF,ltT,Row.wrapped,Ty.slD, *];done) | (subst_vars;simp (disch:=omega) [Ty.enc,stopAt,lineMarks,lineM,lineA,lineW,Row.end_,inA,inW,inM,mk,Cell.kind,Cell.at,Row.cells,wrapId,mP,isAt,toNatPred,toNatAdd,toNatSucc,goesOn,ltF,ltT,Row.wrapped,Ty.slD, *];done)))
theorem rmNo (rows:List Row) (i:Nat) (r:Row) (L:List Cell) (ah:Nat) (M:List Mark) (k col:Nat) (hc:col < (Row.cells r).length) (hc2:(Row.cells r).length≤100000) (hk:Cell.kind (cellT.nth (Row.cells r) col) ≠ 5) (hL:k < L.length) (hL2:L.length < 20000000) (hs:stopAt L k = false):RdC X0 0 (ntOf X0 FRM) (lpKeep X0 FRM 1) (lpBody X0 FRM 1) 2 (stK rows i r L ah M k col) (stK rows i r L ah M (k + 1) (col + 1)):=by
 have h0:(decide ((↑col:Int) < (↑(List.length (Row.cells r)):Int))) = true:=by (((try simp only [Bool.not_eq_true',Bool.not_eq_false',Bool.and_eq_true,Bool.and_eq_false_iff,decide_eq_true_eq,decide_eq_false_iff_not,beq_iff_eq,beq_eq_false_iff_ne,bne_iff_ne,bne_eq_false_iff_eq,ne_eq,not_and,Int.toNat_natCast] at *);(try simp only [Row.cells,Row.wrapped,Row.end_,Cell.kind,Cell.at] at *);(try simp (disch:=omega) only [wrapId,toNatAdd,toNatSucc,isAt,reduceCtorEq,or_false,and_true,Bool.and_true,Bool.and_eq_true,Bool.and_eq_false_iff,beq_iff_eq,beq_eq_false_iff_ne,ne_eq,Int.toNat_natCast] at *)) <;> first | omega | assumption)
 have h1:((Prod.fst (Prod.snd (Ty.nth cellT (Row.cells r) (Int.toNat (↑col:Int))))) == (5:Int)) = false:=by (((try simp only [Bool.not_eq_true',Bool.not_eq_false',Bool.and_eq_true,Bool.and_eq_false_iff,decide_eq_true_eq,decide_eq_false_iff_not,beq_iff_eq,beq_eq_false_iff_ne,bne_iff_ne,bne_eq_false_iff_eq,ne_eq,not_and,Int.toNat_natCast] at *);(try simp only [Row.cells,Row.wrapped,Row.end_,Cell.kind,Cell.at] at *);(try simp (disch:=omega) only [wrapId,toNatAdd,toNatSucc,isAt,reduceCtorEq,or_false,and_true,Bool.and_true,Bool.and_eq_true,Bool.and_eq_false_iff,beq_iff_eq,beq_eq_false_iff_ne,ne_eq,Int.toNat_natCast] at *)) <;> first | omega | assumption)
 have h2:(stopAt L k) = false:=by (((try simp only [Bool.not_eq_true',Bool.not_eq_false',Bool.and_eq_true,Bool.and_eq_false_iff,decide_eq_true_eq,decide_eq_false_iff_not,beq_iff_eq,beq_eq_false_iff_ne,bne_iff_ne,bne_eq_false_iff_eq,ne_eq,not_and,Int.toNat_natCast] at *);(try simp only [Row.cells,Row.wrapped,Row.end_,Cell.kind,Cell.at] at *);(try simp (disch:=omega) only [wrapId,toNatAdd,toNatSucc,isAt,reduceCtorEq,or_false,and_true,Bool.and_true,Bool.and_eq_true,Bool.and_eq_false_iff,beq_iff_eq,beq_eq_false_iff_ne,ne_eq,Int.toNat_natCast] at *)) <;> first | omega | assumption)
 exact (pC (st':={ s:=[(0,(zs rowT rows)),(3,(zt 51 markT M)),(4,(zv ↑i)),(5,(zo 0 0)),(6,(zo 1 0)),(7,(zv (zw ((↑k:Int) + (1:Int))))),(10,(zs rowT rows)),(11,(zv (↑rows.length:Int))),(12,(zv ↑i)),(23,(zs cellT (Row.cells r))),(24,(zv (↑(List.length (Row.cells r)):Int))),(25,(zv (zw ((↑col:Int) + (1:Int)))))],h:=[(zc [(zs cellT (Prod.fst r)),(zv (Prod.fst (Prod.snd r))),(zv (Prod.fst (Prod.snd (Prod.snd r)))),(zv (Prod.fst (Prod.snd (Prod.snd (Prod.snd r))))),(zb (Prod.fst (Prod.snd (Prod.snd (Prod.snd (Prod.snd r)))))),(zb (Prod.fst (Prod.snd (Prod.snd (Prod.snd (Prod.snd (Prod.snd r))))))),(zv (Prod.fst (Prod.snd (Prod.snd (Prod.snd (Prod.snd (Prod.snd (Prod.snd r))))))))]),(zc [(zs cellT L),(zv ↑ah)])],og:=[] }) 12 [(1,bt),(2,.v (V.d (D.ref (List.flatMap (Ty.enc cellT) (Row.cells r)) ((Int.toNat (↑col:Int)) * 4)))),(3,.v (V.d (D.agg (Ty.enc cellT (Ty.nth cellT (Row.cells r) (Int.toNat (↑col:Int))))))),(6,bf),(8,.v (zb (stopAt L k))),(9,bf)] (cP h2 (cC (@stop1 (L) (k) hL hL2) (cP h1 (cP (@loadCell' (Row.cells r) ([(zc [(zs cellT (Prod.fst r)),(zv (Prod.fst (Prod.snd r))),(zv (Prod.fst (Prod.snd (Prod.snd r)))),(zv (Prod.fst (Prod.snd (Prod.snd (Prod.snd r))))),(zb (Prod.fst (Prod.snd (Prod.snd (Prod.snd (Prod.snd r)))))),(zb (Prod.fst (Prod.snd (Prod.snd (Prod.snd (Prod.snd (Prod.snd r))))))),(zv (Prod.fst (Prod.snd (Prod.snd (Prod.snd (Prod.snd (Prod.snd (Prod.snd r))))))))]),(zc [(zs cellT L),(zv ↑ah)])]) (Int.toNat (↑col:Int)) (by omega)) (cP (@iaddrCell (Row.cells r) ((↑col:Int)) (by omega) (by omega)) (cP h0 nilE)))))) (by kernel_rfl)).to (by simp (disch:=omega) [wrapId, *])
theorem rmExit1 (rows:List Row) (i:Nat) (r:Row) (L:List Cell) (ah:Nat) (M:List Mark) (k:Nat):Rd X0 0 (ntOf X0 FRM) (lpBody X0 FRM 1) (stK rows i r L ah M k (Row.cells r).length) (.exit 2,stKx rows i r L ah M k):=by
 have h0:(decide ((↑(List.length (Row.cells r)):Int) < (↑(List.length (Row.cells r)):Int))) = false:=by (((try simp only [Bool.not_eq_true',Bool.not_eq_false',Bool.and_eq_true,Bool.and_eq_false_iff,decide_eq_true_eq,decide_eq_false_iff_not,beq_iff_eq,beq_eq_false_iff_ne,bne_iff_ne,bne_eq_false_iff_eq,ne_eq,not_and,Int.toNat_natCast] at *);(try simp only [Row.cells,Row.wrapped,Row.end_,Cell.kind,Cell.at] at *);(try simp (disch:=omega) only [wrapId,toNatAdd,toNatSucc,isAt,reduceCtorEq,or_false,and_true,Bool.and_true,Bool.and_eq_true,Bool.and_eq_false_iff,beq_iff_eq,beq_eq_false_iff_ne,ne_eq,Int.toNat_natCast] at *)) <;> first | omega | assumption)
 exact pR 12 [(1,bf)] (cP h0 nilE) (by kernel_rfl)
theorem cntTo_mono (cells:List Cell) (c d:Nat) (h:c≤d):cntTo cells c≤cntTo cells d:=by
 obtain ⟨d,rfl⟩:=Nat.exists_eq_add_of_le h
 clear h
 induction d with
 | zero=>exact Nat.le_refl _
 | succ d ih=>refine Nat.le_trans ih ?_;show cntTo cells (c + d)≤cntTo cells (c + d + 1);simp only [cntTo];split <;> omega
theorem allF_mono (rows:List Row) (fi m n:Nat) (h:m≤n):(allF rows fi m).length≤(allF rows fi n).length:=by
 obtain ⟨d,rfl⟩:=Nat.exists_eq_add_of_le h
 clear h
 induction d with
 | zero=>exact Nat.le_refl _
 | succ d ih =>
  refine Nat.le_trans ih ?_
  show (allF rows fi (m + d)).length≤(rowA (allF rows fi (m + d)) (rowT.nth rows (fi + (m + d)))).length
  unfold rowA
  rw [inAto_cnt]
  omega
theorem runFrom_get (rows:List Row) (i:Nat):∀ f n t,n≤t→t < runFrom rows i f n→goesOn rows i t = true
 | 0,n,t,h1,h2=>by simp only [runFrom] at h2;omega
 | f + 1,n,t,h1,h2=>by
  simp only [runFrom] at h2
  split at h2
  ·rename_i hg
   by_cases h:n = t
   ·subst h;exact hg
   ·exact runFrom_get rows i f (n + 1) t (by omega) h2
  ·omega
theorem runFrom_ge (rows:List Row) (i n':Nat):∀ f n,n≤n' → n' ≤ n + f→(∀ t,n≤t→t < n' → goesOn rows i t = true)→n' ≤ runFrom rows i f n
 | 0,n,h1,h2,h3=>by simp only [runFrom];omega
 | f + 1,n,h1,h2,h3=>by
  simp only [runFrom]
  by_cases h:n = n'
  ·subst h;split
   ·exact Nat.le_trans (Nat.le_succ n) (by
     have:∀ f n,n≤runFrom rows i f n:=by
      intro f
      induction f with
      | zero=>intro n;exact Nat.le_refl _
      | succ f ih=>intro n;simp only [runFrom];split;exact Nat.le_trans (Nat.le_succ n) (ih (n + 1));exact Nat.le_refl _
     exact this f (n + 1))
   ·exact Nat.le_refl _
  ·rw [if_pos (h3 n (Nat.le_refl _) (by omega))]
   exact runFrom_ge rows i n' f (n + 1) (by omega) (by omega) (fun t h4 h5=>h3 t (by omega) h5)
theorem backTo_wrapped (rows:List Row):∀ i j,backTo rows i < j→j≤i→Row.wrapped (rowT.nth rows j) = true
 | 0,j,h1,h2=>by omega
 | i + 1,j,h1,h2=>by
  simp only [backTo] at h1
  split at h1
  ·rename_i hw
   by_cases h:j = i + 1
   ·subst h;exact hw
   ·exact backTo_wrapped rows i j h1 (by omega)
  ·omega
theorem in_run (rows:List Row) (i:Nat) (hi:i < rows.length):i < backTo rows i + runN rows (backTo rows i):=by
 have h0:=backTo_le rows i
 have:=runFrom_ge rows (backTo rows i) (i - backTo rows i + 1) rows.length 1 (by omega) (by omega) (fun t h1 h2=>by
  simp only [goesOn,Bool.and_eq_true,decide_eq_true_eq]
  exact ⟨by omega,backTo_wrapped rows i _ (by omega) (by omega)⟩)
 unfold runN
 omega
theorem ahead_lt (rows:List Row) (i:Nat) (hi:i < rows.length) (col:Nat) (hc:col < (Row.cells (rowT.nth rows i)).length) (hk:Cell.kind (cellT.nth (Row.cells (rowT.nth rows i)) col) ≠ 5) :
  aheadOf rows i + cntTo (Row.cells (rowT.nth rows i)) col < (lineOf rows i).length:=by
 have h0:=backTo_le rows i
 have h1:=in_run rows i hi
 unfold aheadOf ahF lineOf
 rw [if_pos h1]
 have h2:=allF_mono rows (backTo rows i) (i - backTo rows i + 1) (runN rows (backTo rows i)) (by omega)
 have h3:(allF rows (backTo rows i) (i - backTo rows i + 1)).length = (allF rows (backTo rows i) (i - backTo rows i)).length + cntTo (Row.cells (rowT.nth rows i)) (Row.cells (rowT.nth rows i)).length:=by
  simp only [allF]
  unfold rowA
  rw [inAto_cnt,show backTo rows i + (i - backTo rows i) = i by omega]
 have h4:=cntTo_mono (Row.cells (rowT.nth rows i)) (col + 1) _ hc
 have h5:cntTo (Row.cells (rowT.nth rows i)) (col + 1) = cntTo (Row.cells (rowT.nth rows i)) col + 1:=by
  simp only [cntTo]
  rw [if_neg (by simpa using hk)]
 omega
theorem lineOf_len {rows:List Row} (hs:smallR rows) (i:Nat) (hi:i < rows.length):(lineOf rows i).length < 20000000:=by
 have h1:=allF_len hs (backTo rows i) (runN rows (backTo rows i))
 have h2:=runFrom_le rows (backTo rows i) rows.length 1 (by have:=backTo_le rows i;omega)
 have h3:=hs.1
 have h4:runN rows (backTo rows i)≤10000000:=by unfold runN;omega
 unfold lineOf
 omega
def rmM (i:Nat) (L:List Cell) (r:Row) (k0:Nat) (M:List Mark):Nat→List Mark
 | 0=>M
 | col + 1=>if Cell.kind (cellT.nth (Row.cells r) col) == 5 then rmM i L r k0 M col else if stopAt L (k0 + cntTo (Row.cells r) col) then rmM i L r k0 M col ++ [cm r i col] else rmM i L r k0 M col
theorem rmM_len (i:Nat) (L:List Cell) (r:Row) (k0:Nat) (M:List Mark):∀ c,(rmM i L r k0 M c).length≤M.length + c
 | 0=>Nat.le_refl _
 | c + 1=>by have:=rmM_len i L r k0 M c;simp only [rmM];split;omega;split;simp;omega;omega
theorem rmM_cnt (i:Nat) (L:List Cell) (r:Row) (k0:Nat) (M:List Mark):∀ c,(rmM i L r k0 M c).length≤M.length + cntTo (Row.cells r) c
 | 0=>Nat.le_refl _
 | c + 1=>by have:=rmM_cnt i L r k0 M c;simp only [rmM,cntTo];split;omega;split;simp;omega;omega
def rowMarks (rows:List Row) (M:List Mark) (i:Nat):List Mark:=rmM i (lineOf rows i) (rowT.nth rows i) (aheadOf rows i) M (Row.cells (rowT.nth rows i)).length
def kEnd (rows:List Row) (i:Nat):Nat:=aheadOf rows i + cntTo (Row.cells (rowT.nth rows i)) (Row.cells (rowT.nth rows i)).length
theorem rmLoop1C (rows:List Row) (i:Nat) (M:List Mark) (hs:smallR rows) (hi:i < rows.length) (hM:M.length < 50000000):∀ d col m,d + col = (Row.cells (rowT.nth rows i)).length→d < m →
  LpC X0 0 (ntOf X0 FRM) (lpKeep X0 FRM 1) (lpBody X0 FRM 1) 2 m (stK rows i (rowT.nth rows i) (lineOf rows i) (aheadOf rows i) (rmM i (lineOf rows i) (rowT.nth rows i) (aheadOf rows i) M col) (aheadOf rows i + cntTo (Row.cells (rowT.nth rows i)) col) col)
   (.exit 2,stKx rows i (rowT.nth rows i) (lineOf rows i) (aheadOf rows i) (rowMarks rows M i) (kEnd rows i)):=by
 intro d
 induction d with
 | zero =>
  intro col m h hm
  obtain rfl:col = (Row.cells (rowT.nth rows i)).length:=by omega
  exact LpC.last (rmExit1 rows i _ _ _ _ _) (by simp)
 | succ d ih =>
  intro col m h hm
  obtain ⟨m,rfl⟩:∃ x,m = x + 1:=⟨m - 1,by omega⟩
  have h2:=ih (col + 1) m (by omega) (by omega)
  simp only [rmM,cntTo] at h2
  have hcl:=hs.2.1 i
  by_cases hk:Cell.kind (cellT.nth (Row.cells (rowT.nth rows i)) col) = 5
  ·simp only [hk,beq_self_eq_true,if_true] at h2
   exact LpC.next (rmSkip rows i _ _ _ _ _ col (by omega) hcl hk) h2
  ·have hk':(Cell.kind (cellT.nth (Row.cells (rowT.nth rows i)) col) == 5) = false:=by simpa using hk
   simp only [hk',Bool.false_eq_true,if_false] at h2
   have hlt:=ahead_lt rows i hi col (by omega) hk
   have hL:=lineOf_len hs i hi
   have hML:=rmM_len i (lineOf rows i) (rowT.nth rows i) (aheadOf rows i) M col
   cases hst:stopAt (lineOf rows i) (aheadOf rows i + cntTo (Row.cells (rowT.nth rows i)) col) with
   | true=>simp only [hst,if_true] at h2;exact LpC.next (rmStop rows i _ _ _ _ _ col (by omega) hcl hk hlt hL (by omega) hst) h2
   | false=>simp only [hst,Bool.false_eq_true,if_false] at h2;exact LpC.next (rmNo rows i _ _ _ _ _ col (by omega) hcl hk hlt hL hst) h2
theorem rmLoop1:∀ (rows:List Row) (i:Nat) (M:List Mark) (hs:smallR rows) (hi:i < rows.length) (hM:M.length < 50000000),
 Lp X0 0 (ntOf X0 FRM) (lpKeep X0 FRM 1) (lpBody X0 FRM 1) 2 FUEL (stK rows i (rowT.nth rows i) (lineOf rows i) (aheadOf rows i) M (aheadOf rows i) 0)
  (.exit 2,stKx rows i (rowT.nth rows i) (lineOf rows i) (aheadOf rows i) (rowMarks rows M i) (kEnd rows i)):=fun rows i M hs hi hM=>LpC.start (m:=1152921504606846975) (rmLoop1C rows i M hs hi hM (Row.cells (rowT.nth rows i)).length 0 _ (by omega) (by have:=hs.2.1 i;omega)) (by kernel_rfl)
abbrev stW (rows:List Row) (M:List Mark) (i:Nat):St:=⟨[(0,.d (rowT.slD rows)),(3,markT.tailV 51 M),(10,.d (rowT.slD rows)),(11,.d (.int .i64 rows.length)),(12,.d (.int .i64 i))],[],[]⟩
abbrev stWx (rows:List Row) (M:List Mark):St:=⟨[(0,.d (rowT.slD rows)),(3,markT.tailV 51 M),(10,.d (rowT.slD rows)),(11,.d (.int .i64 rows.length)),(12,.d (.int .i64 rows.length)),(13,.d (.bool (decide ((rows.length:Int) < rows.length))))],[],[]⟩
def endMark (rows:List Row) (i:Nat):Mark:=((i:Int),((Row.cells (rowT.nth rows i)).length:Int),0,Row.end_ (rowT.nth rows i),())
abbrev FSm:Nat := 19
abbrev stSm (l:List Point) (m:List Mark) (i:Nat):St:=⟨[(0,.d (pointT.slD l)),(1,.d (markT.slD m)),(7,.d (.int .i64 l.length)),(8,.d (.int .i64 i))],[],[]⟩
abbrev stSmx (l:List Point) (m:List Mark):St:=⟨[(0,.d (pointT.slD l)),(1,.d (markT.slD m)),(7,.d (.int .i64 l.length)),(8,.d (.int .i64 l.length)),(9,.d (.bool (decide ((l.length:Int) < l.length))))],[],[]⟩
abbrev pOb (p:Point):Ob:=.cells [.d (.int .i64 p.1),.d (.int .i64 p.2.1)]
abbrev FPV:Nat := 5
abbrev stIn (rows:List Row) (p:Point) (m:List Mark) (n e:Int) (b:Bool) (i:Nat):St :=
 ⟨[(0,.d (rowT.slD rows)),(3,.obj 0 0),(5,.d (markT.slD m)),(6,.d (.int .i64 n)),(7,.d (.int .i64 e)),(8,.d (.bool b)),(22,.d (markT.slD m)),(23,.d (.int .i64 m.length)),(24,.d (.int .i64 i))],[pOb p],[]⟩
abbrev stInx (rows:List Row) (p:Point) (m:List Mark) (n e:Int) (b:Bool):St :=
 ⟨[(0,.d (rowT.slD rows)),(3,.obj 0 0),(5,.d (markT.slD m)),(6,.d (.int .i64 n)),(7,.d (.int .i64 e)),(8,.d (.bool b)),(22,.d (markT.slD m)),(23,.d (.int .i64 m.length)),(24,.d (.int .i64 m.length)),(25,.d (.bool (decide ((m.length:Int) < m.length))))],[pOb p],[]⟩
theorem iaddrRMark:∀ (l:List Mark) (i:Int) (h0:0≤i) (hi:i < l.length),iaddrV X0 46 (.d (markT.slD l)) (.d (.int .i64 i)) = some (.d (.ref (l.flatMap markT.enc) (i.toNat * 4))):=fun l i h0 hi=>iaddrSl (te := 51) (z:=4) (by kernel_rfl) (by kernel_rfl) h0 hi (flat_len _ 4 (Ty.enc_length markT) l)
theorem loadRMark:∀ (l:List Mark) (h:List Ob) (k:Nat) (hk:k < l.length),loadV X0 h 51 (.d (.ref (l.flatMap markT.enc) (k * 4))) = some (.d (.agg (markT.enc (markT.nth l k)))):=fun l h k hk=>Pv.loadAgg (e:=markT) (by kernel_rfl) (by kernel_rfl) hk
theorem loadRMarkP:∀ (l:List Mark) (h:List Ob) (k:Nat) (hk:k < l.length),loadV X0 h 31 (.d (.ref (l.flatMap markT.enc) (k * 4 + 0))) = some (.d (.agg [.int .i64 (markT.nth l k).1,.int .i64 (markT.nth l k).2.1])):=fun l h k hk=>Pv.loadPart (e:=markT) (o:=0) (z1:=2) (by kernel_rfl) (by kernel_rfl) hk (by decide)
theorem rmRoundE (rows:List Row) (M:List Mark) (i:Nat) (hs:smallR rows) (hr:rows.length≤10000000) (hi:i + 1 = rows.length) (hM:M.length < 50000000) (hM2:(rowMarks rows M i).length < 500000000):RdC X0 0 (ntOf X0 FRM) (lpKeep X0 FRM 0) (lpBody X0 FRM 0) 0 (stW rows M i) (stW rows (rowMarks rows M i ++ [endMark rows i]) (i + 1)):=by
 have h0:(decide ((↑i:Int) < (↑rows.length:Int))) = true:=by (((try simp only [Bool.not_eq_true',Bool.not_eq_false',Bool.and_eq_true,Bool.and_eq_false_iff,decide_eq_true_eq,decide_eq_false_iff_not,beq_iff_eq,beq_eq_false_iff_ne,bne_iff_ne,bne_eq_false_iff_eq,ne_eq,not_and,Int.toNat_natCast] at *);(try simp only [Row.cells,Row.wrapped,Row.end_,Cell.kind,Cell.at] at *);(try simp (disch:=omega) only [wrapId,toNatAdd,toNatSucc,isAt,reduceCtorEq,or_false,and_true,Bool.and_true,Bool.and_eq_true,Bool.and_eq_false_iff,beq_iff_eq,beq_eq_false_iff_ne,ne_eq,Int.toNat_natCast] at *)) <;> first | omega | assumption)
 have h1:((↑i:Int) == (IntKind.wrap IntKind.i64 ((↑rows.length:Int) - (1:Int)))) = true:=by (((try simp only [Bool.not_eq_true',Bool.not_eq_false',Bool.and_eq_true,Bool.and_eq_false_iff,decide_eq_true_eq,decide_eq_false_iff_not,beq_iff_eq,beq_eq_false_iff_ne,bne_iff_ne,bne_eq_false_iff_eq,ne_eq,not_and,Int.toNat_natCast] at *);(try simp only [Row.cells,Row.wrapped,Row.end_,Cell.kind,Cell.at] at *);(try simp (disch:=omega) only [wrapId,toNatAdd,toNatSucc,isAt,reduceCtorEq,or_false,and_true,Bool.and_true,Bool.and_eq_true,Bool.and_eq_false_iff,beq_iff_eq,beq_eq_false_iff_ne,ne_eq,Int.toNat_natCast] at *)) <;> first | omega | assumption)
 exact (pC (st':={ s:=[(0,(zs rowT rows)),(3,(zt 51 markT ((rowMarks rows M i) ++ [((↑i:Int),(↑(List.length (Prod.fst (Ty.nth rowT rows i))):Int),(0:Int),(Prod.fst (Prod.snd (Prod.snd (Ty.nth rowT rows i)))),())]))),(10,(zs rowT rows)),(11,(zv (↑rows.length:Int))),(12,(zv (zw ((↑i:Int) + (1:Int)))))],h:=[],og:=[] }) 12 [(1,bt),(2,.v (V.d (D.ref (List.flatMap (Ty.enc rowT) rows) ((Int.toNat (↑i:Int)) * 7)))),(3,.v (V.d (D.agg (Ty.enc rowT (Ty.nth rowT rows (Int.toNat (↑i:Int))))))),(4,.v (V.d (D.agg [(Ty.slD cellT (lineOf rows i)),(zi (↑(aheadOf rows i):Int))]))),(8,.l (Ex.exit 2) (stKx rows i (Ty.nth rowT rows i) (lineOf rows i) (aheadOf rows i) (rowMarks rows M i) (kEnd rows i))),(12,bt),(13,bt),(14,bt),(15,bt),(16,bt),(17,bt),(18,bt),(19,bt),(24,.v (Ty.tailV markT (51:TypeId) ((rowMarks rows M i) ++ [((↑i:Int),(↑(List.length (Prod.fst (Ty.nth rowT rows i))):Int),(0:Int),(Prod.fst (Prod.snd (Prod.snd (Ty.nth rowT rows i)))),())])))] (cP (@appendRMark (rowMarks rows M i) ((↑i:Int)) ((↑(List.length (Prod.fst (Ty.nth rowT rows i))):Int)) ((0:Int)) (Prod.fst (Prod.snd (Prod.snd (Ty.nth rowT rows i)))) (by omega)) (cP h1 (cP h1 (cP h1 (cP h1 (cP h1 (cP h1 (cP h1 (cP h1 (cE (@rmLoop1 (rows) (i) (M) hs (by omega) hM) (cC (@rline (rows) (i) hs hr (by omega)) (cP (@loadRow (rows) ([]) (Int.toNat (↑i:Int)) (by omega)) (cP (@iaddrRow (rows) ((↑i:Int)) (by omega) (by omega)) (cP h0 nilE)))))))))))))) (by kernel_rfl)).to (by ((try simp (disch:=omega) only [wrapId,toNatAdd,toNatSucc,goesOn,Row.wrapped] at *);(try simp only [Int.toNat_natCast,beq_iff_eq,beq_eq_false_iff_ne,bne_iff_ne,bne_eq_false_iff_eq,ne_eq,Int.natCast_eq_zero,Int.natCast_inj,Row.cells] at *);first | (simp (disch:=omega) [Ty.enc,stopAt,endMark,lineMarks,lineM,lineA,lineW,Row.end_,inA,inW,inM,mk,Cell.kind,Cell.at,Row.cells,wrapId,mP,isAt,toNatPred,toNatAdd,toNatSucc,goesOn,ltF,ltT,Row.wrapped,Ty.slD, *];done) | (subst_vars;simp (disch:=omega) [Ty.enc,stopAt,endMark,lineMarks,lineM,lineA,lineW,Row.end_,inA,inW,inM,mk,Cell.kind,Cell.at,Row.cells,wrapId,mP,isAt,toNatPred,toNatAdd,toNatSucc,goesOn,ltF,ltT,Row.wrapped,Ty.slD, *];done)))
theorem rmRoundA (rows:List Row) (M:List Mark) (i:Nat) (hs:smallR rows) (hr:rows.length≤10000000) (hi:i + 1 < rows.length) (hw:Row.wrapped (rowT.nth rows (i + 1)) = false) (hM:M.length < 50000000) (hM2:(rowMarks rows M i).length < 500000000):RdC X0 0 (ntOf X0 FRM) (lpKeep X0 FRM 0) (lpBody X0 FRM 0) 0 (stW rows M i) (stW rows (rowMarks rows M i ++ [endMark rows i]) (i + 1)):=by
 have h0:(decide ((↑i:Int) < (↑rows.length:Int))) = true:=by (((try simp only [Bool.not_eq_true',Bool.not_eq_false',Bool.and_eq_true,Bool.and_eq_false_iff,decide_eq_true_eq,decide_eq_false_iff_not,beq_iff_eq,beq_eq_false_iff_ne,bne_iff_ne,bne_eq_false_iff_eq,ne_eq,not_and,Int.toNat_natCast] at *);(try simp only [Row.cells,Row.wrapped,Row.end_,Cell.kind,Cell.at] at *);(try simp (disch:=omega) only [wrapId,toNatAdd,toNatSucc,isAt,reduceCtorEq,or_false,and_true,Bool.and_true,Bool.and_eq_true,Bool.and_eq_false_iff,beq_iff_eq,beq_eq_false_iff_ne,ne_eq,Int.toNat_natCast] at *)) <;> first | omega | assumption)
 have h1:((↑i:Int) == (IntKind.wrap IntKind.i64 ((↑rows.length:Int) - (1:Int)))) = false:=by (((try simp only [Bool.not_eq_true',Bool.not_eq_false',Bool.and_eq_true,Bool.and_eq_false_iff,decide_eq_true_eq,decide_eq_false_iff_not,beq_iff_eq,beq_eq_false_iff_ne,bne_iff_ne,bne_eq_false_iff_eq,ne_eq,not_and,Int.toNat_natCast] at *);(try simp only [Row.cells,Row.wrapped,Row.end_,Cell.kind,Cell.at] at *);(try simp (disch:=omega) only [wrapId,toNatAdd,toNatSucc,isAt,reduceCtorEq,or_false,and_true,Bool.and_true,Bool.and_eq_true,Bool.and_eq_false_iff,beq_iff_eq,beq_eq_false_iff_ne,ne_eq,Int.toNat_natCast] at *)) <;> first | omega | assumption)
 have h2:(!(Prod.fst (Prod.snd (Prod.snd (Prod.snd (Prod.snd (Ty.nth rowT rows (Int.toNat (IntKind.wrap IntKind.i64 ((↑i:Int) + (1:Int))))))))))) = true:=by (((try simp only [Bool.not_eq_true',Bool.not_eq_false',Bool.and_eq_true,Bool.and_eq_false_iff,decide_eq_true_eq,decide_eq_false_iff_not,beq_iff_eq,beq_eq_false_iff_ne,bne_iff_ne,bne_eq_false_iff_eq,ne_eq,not_and,Int.toNat_natCast] at *);(try simp only [Row.cells,Row.wrapped,Row.end_,Cell.kind,Cell.at] at *);(try simp (disch:=omega) only [wrapId,toNatAdd,toNatSucc,isAt,reduceCtorEq,or_false,and_true,Bool.and_true,Bool.and_eq_true,Bool.and_eq_false_iff,beq_iff_eq,beq_eq_false_iff_ne,ne_eq,Int.toNat_natCast] at *)) <;> first | omega | assumption)
 exact (pC (st':={ s:=[(0,(zs rowT rows)),(3,(zt 51 markT ((rowMarks rows M i) ++ [((↑i:Int),(↑(List.length (Prod.fst (Ty.nth rowT rows i))):Int),(0:Int),(Prod.fst (Prod.snd (Prod.snd (Ty.nth rowT rows i)))),())]))),(10,(zs rowT rows)),(11,(zv (↑rows.length:Int))),(12,(zv (zw ((↑i:Int) + (1:Int)))))],h:=[],og:=[] }) 12 [(1,bt),(2,.v (V.d (D.ref (List.flatMap (Ty.enc rowT) rows) ((Int.toNat (↑i:Int)) * 7)))),(3,.v (V.d (D.agg (Ty.enc rowT (Ty.nth rowT rows (Int.toNat (↑i:Int))))))),(4,.v (V.d (D.agg [(Ty.slD cellT (lineOf rows i)),(zi (↑(aheadOf rows i):Int))]))),(8,.l (Ex.exit 2) (stKx rows i (Ty.nth rowT rows i) (lineOf rows i) (aheadOf rows i) (rowMarks rows M i) (kEnd rows i))),(12,bf),(13,bf),(14,bf),(16,bf),(17,.v (V.d (D.ref (List.flatMap (Ty.enc rowT) rows) ((Int.toNat (zw ((↑i:Int) + (1:Int)))) * 7)))),(18,bf),(19,bf),(20,.v (V.d (List.getD (Ty.enc rowT (Ty.nth rowT rows (Int.toNat (zw ((↑i:Int) + (1:Int)))))) 4 D.und))),(21,bf),(22,bf),(23,bt),(27,.v (Ty.tailV markT (51:TypeId) ((rowMarks rows M i) ++ [((↑i:Int),(↑(List.length (Prod.fst (Ty.nth rowT rows i))):Int),(0:Int),(Prod.fst (Prod.snd (Prod.snd (Ty.nth rowT rows i)))),())])))] (cP (@appendRMark (rowMarks rows M i) ((↑i:Int)) ((↑(List.length (Prod.fst (Ty.nth rowT rows i))):Int)) ((0:Int)) (Prod.fst (Prod.snd (Prod.snd (Ty.nth rowT rows i)))) (by omega)) (cP h2 (cP h1 (cP h1 (cP (@loadRowB (rows) ([(zc [(zs cellT (Prod.fst (Ty.nth rowT rows i))),(zv (Prod.fst (Prod.snd (Ty.nth rowT rows i)))),(zv (Prod.fst (Prod.snd (Prod.snd (Ty.nth rowT rows i))))),(zv (Prod.fst (Prod.snd (Prod.snd (Prod.snd (Ty.nth rowT rows i)))))),(zb (Prod.fst (Prod.snd (Prod.snd (Prod.snd (Prod.snd (Ty.nth rowT rows i))))))),(zb (Prod.fst (Prod.snd (Prod.snd (Prod.snd (Prod.snd (Prod.snd (Ty.nth rowT rows i)))))))),(zv (Prod.fst (Prod.snd (Prod.snd (Prod.snd (Prod.snd (Prod.snd (Prod.snd (Ty.nth rowT rows i)))))))))]),(zc [(zs cellT (lineOf rows i)),(zv (↑(aheadOf rows i):Int))])]) (Int.toNat (zw ((↑i:Int) + (1:Int)))) 4 (by simp (disch:=omega) only [wrapId] at *;omega) (by simp)) (cP h1 (cP h1 (cP (@iaddrRow (rows) (zw ((↑i:Int) + (1:Int))) (by simp (disch:=omega) only [wrapId] at *;omega) (by simp (disch:=omega) only [wrapId] at *;omega)) (cP h1 (cP h1 (cP h1 (cP h1 (cE (@rmLoop1 (rows) (i) (M) hs (by omega) hM) (cC (@rline (rows) (i) hs hr (by omega)) (cP (@loadRow (rows) ([]) (Int.toNat (↑i:Int)) (by omega)) (cP (@iaddrRow (rows) ((↑i:Int)) (by omega) (by omega)) (cP h0 nilE))))))))))))))))) (by kernel_rfl)).to (by simp (disch:=omega) [Ty.enc,wrapId,toNatAdd,toNatSucc,Ty.slD,inA,inW,inM,mk,mP,cm,endMark,Row.end_,Row.cells,Row.wrapped,Cell.kind,Cell.at, *])
theorem rmRoundB (rows:List Row) (M:List Mark) (i:Nat) (hs:smallR rows) (hr:rows.length≤10000000) (hi:i + 1 < rows.length) (hw:Row.wrapped (rowT.nth rows (i + 1)) = true) (hM:M.length < 50000000) (hM2:(rowMarks rows M i).length < 500000000):RdC X0 0 (ntOf X0 FRM) (lpKeep X0 FRM 0) (lpBody X0 FRM 0) 0 (stW rows M i) (stW rows (rowMarks rows M i) (i + 1)):=by
 have h0:(decide ((↑i:Int) < (↑rows.length:Int))) = true:=by (((try simp only [Bool.not_eq_true',Bool.not_eq_false',Bool.and_eq_true,Bool.and_eq_false_iff,decide_eq_true_eq,decide_eq_false_iff_not,beq_iff_eq,beq_eq_false_iff_ne,bne_iff_ne,bne_eq_false_iff_eq,ne_eq,not_and,Int.toNat_natCast] at *);(try simp only [Row.cells,Row.wrapped,Row.end_,Cell.kind,Cell.at] at *);(try simp (disch:=omega) only [wrapId,toNatAdd,toNatSucc,isAt,reduceCtorEq,or_false,and_true,Bool.and_true,Bool.and_eq_true,Bool.and_eq_false_iff,beq_iff_eq,beq_eq_false_iff_ne,ne_eq,Int.toNat_natCast] at *)) <;> first | omega | assumption)
 have h1:((↑i:Int) == (IntKind.wrap IntKind.i64 ((↑rows.length:Int) - (1:Int)))) = false:=by (((try simp only [Bool.not_eq_true',Bool.not_eq_false',Bool.and_eq_true,Bool.and_eq_false_iff,decide_eq_true_eq,decide_eq_false_iff_not,beq_iff_eq,beq_eq_false_iff_ne,bne_iff_ne,bne_eq_false_iff_eq,ne_eq,not_and,Int.toNat_natCast] at *);(try simp only [Row.cells,Row.wrapped,Row.end_,Cell.kind,Cell.at] at *);(try simp (disch:=omega) only [wrapId,toNatAdd,toNatSucc,isAt,reduceCtorEq,or_false,and_true,Bool.and_true,Bool.and_eq_true,Bool.and_eq_false_iff,beq_iff_eq,beq_eq_false_iff_ne,ne_eq,Int.toNat_natCast] at *)) <;> first | omega | assumption)
 have h2:(!(Prod.fst (Prod.snd (Prod.snd (Prod.snd (Prod.snd (Ty.nth rowT rows (Int.toNat (IntKind.wrap IntKind.i64 ((↑i:Int) + (1:Int))))))))))) = false:=by (((try simp only [Bool.not_eq_true',Bool.not_eq_false',Bool.and_eq_true,Bool.and_eq_false_iff,decide_eq_true_eq,decide_eq_false_iff_not,beq_iff_eq,beq_eq_false_iff_ne,bne_iff_ne,bne_eq_false_iff_eq,ne_eq,not_and,Int.toNat_natCast] at *);(try simp only [Row.cells,Row.wrapped,Row.end_,Cell.kind,Cell.at] at *);(try simp (disch:=omega) only [wrapId,toNatAdd,toNatSucc,isAt,reduceCtorEq,or_false,and_true,Bool.and_true,Bool.and_eq_true,Bool.and_eq_false_iff,beq_iff_eq,beq_eq_false_iff_ne,ne_eq,Int.toNat_natCast] at *)) <;> first | omega | assumption)
 exact (pC (st':={ s:=[(0,(zs rowT rows)),(3,(zt 51 markT (rowMarks rows M i))),(10,(zs rowT rows)),(11,(zv (↑rows.length:Int))),(12,(zv (zw ((↑i:Int) + (1:Int)))))],h:=[],og:=[] }) 12 [(1,bt),(2,.v (V.d (D.ref (List.flatMap (Ty.enc rowT) rows) ((Int.toNat (↑i:Int)) * 7)))),(3,.v (V.d (D.agg (Ty.enc rowT (Ty.nth rowT rows (Int.toNat (↑i:Int))))))),(4,.v (V.d (D.agg [(Ty.slD cellT (lineOf rows i)),(zi (↑(aheadOf rows i):Int))]))),(8,.l (Ex.exit 2) (stKx rows i (Ty.nth rowT rows i) (lineOf rows i) (aheadOf rows i) (rowMarks rows M i) (kEnd rows i))),(12,bf),(13,bf),(14,bf),(16,bf),(17,.v (V.d (D.ref (List.flatMap (Ty.enc rowT) rows) ((Int.toNat (zw ((↑i:Int) + (1:Int)))) * 7)))),(18,bf),(19,bf),(20,.v (V.d (List.getD (Ty.enc rowT (Ty.nth rowT rows (Int.toNat (zw ((↑i:Int) + (1:Int)))))) 4 D.und))),(21,bf),(22,bf),(23,bf)] (cP h2 (cP h1 (cP h1 (cP (@loadRowB (rows) ([(zc [(zs cellT (Prod.fst (Ty.nth rowT rows i))),(zv (Prod.fst (Prod.snd (Ty.nth rowT rows i)))),(zv (Prod.fst (Prod.snd (Prod.snd (Ty.nth rowT rows i))))),(zv (Prod.fst (Prod.snd (Prod.snd (Prod.snd (Ty.nth rowT rows i)))))),(zb (Prod.fst (Prod.snd (Prod.snd (Prod.snd (Prod.snd (Ty.nth rowT rows i))))))),(zb (Prod.fst (Prod.snd (Prod.snd (Prod.snd (Prod.snd (Prod.snd (Ty.nth rowT rows i)))))))),(zv (Prod.fst (Prod.snd (Prod.snd (Prod.snd (Prod.snd (Prod.snd (Prod.snd (Ty.nth rowT rows i)))))))))]),(zc [(zs cellT (lineOf rows i)),(zv (↑(aheadOf rows i):Int))])]) (Int.toNat (zw ((↑i:Int) + (1:Int)))) 4 (by simp (disch:=omega) only [wrapId] at *;omega) (by simp)) (cP h1 (cP h1 (cP (@iaddrRow (rows) (zw ((↑i:Int) + (1:Int))) (by simp (disch:=omega) only [wrapId] at *;omega) (by simp (disch:=omega) only [wrapId] at *;omega)) (cP h1 (cP h1 (cP h1 (cP h1 (cE (@rmLoop1 (rows) (i) (M) hs (by omega) hM) (cC (@rline (rows) (i) hs hr (by omega)) (cP (@loadRow (rows) ([]) (Int.toNat (↑i:Int)) (by omega)) (cP (@iaddrRow (rows) ((↑i:Int)) (by omega) (by omega)) (cP h0 nilE)))))))))))))))) (by kernel_rfl)).to (by simp (disch:=omega) [wrapId, *])
theorem rmExit0 (rows:List Row) (M:List Mark):Rd X0 0 (ntOf X0 FRM) (lpBody X0 FRM 0) (stW rows M rows.length) (.exit 0,stWx rows M):=by
 have h0:(decide ((↑rows.length:Int) < (↑rows.length:Int))) = false:=by (((try simp only [Bool.not_eq_true',Bool.not_eq_false',Bool.and_eq_true,Bool.and_eq_false_iff,decide_eq_true_eq,decide_eq_false_iff_not,beq_iff_eq,beq_eq_false_iff_ne,bne_iff_ne,bne_eq_false_iff_eq,ne_eq,not_and,Int.toNat_natCast] at *);(try simp only [Row.cells,Row.wrapped,Row.end_,Cell.kind,Cell.at] at *);(try simp (disch:=omega) only [wrapId,toNatAdd,toNatSucc,isAt,reduceCtorEq,or_false,and_true,Bool.and_true,Bool.and_eq_true,Bool.and_eq_false_iff,beq_iff_eq,beq_eq_false_iff_ne,ne_eq,Int.toNat_natCast] at *)) <;> first | omega | assumption)
 exact pR 12 [(1,bf)] (cP h0 nilE) (by kernel_rfl)
theorem sameRound (l:List Point) (m:List Mark) (i:Nat) (hl:l.length < 100000000) (hi:i < l.length) (hm:l.length = m.length) (e1:(pointT.nth l i).1 = (markT.nth m i).1) (e2:(pointT.nth l i).2.1 = (markT.nth m i).2.1):RdC X0 0 (ntOf X0 FSm) (lpKeep X0 FSm 0) (lpBody X0 FSm 0) 0 (stSm l m i) (stSm l m (i + 1)):=by
 have h0:(decide ((↑i:Int) < (↑l.length:Int))) = true:=by (((try simp only [eq_self,and_true,true_and,Bool.and_true,Bool.true_and,Bool.not_eq_true',Bool.not_eq_false',Bool.and_eq_true,Bool.and_eq_false_iff,decide_eq_true_eq,decide_eq_false_iff_not,beq_iff_eq,beq_eq_false_iff_ne,bne_iff_ne,bne_eq_false_iff_eq,ne_eq,not_and,Int.toNat_natCast] at *);(try simp only [Row.cells,Row.wrapped,Row.end_,Cell.kind,Cell.at] at *);(try simp (disch:=omega) only [wrapId,toNatAdd,toNatSucc,isAt,reduceCtorEq,or_false,and_true,Bool.and_true,Bool.and_eq_true,Bool.and_eq_false_iff,beq_iff_eq,beq_eq_false_iff_ne,ne_eq,Int.toNat_natCast] at *)) <;> first | omega | assumption | (refine ⟨?_,?_⟩ <;> assumption))
 have h1:(decide ((↑i:Int) ≥ (↑m.length:Int))) = false:=by (((try simp only [eq_self,and_true,true_and,Bool.and_true,Bool.true_and,Bool.not_eq_true',Bool.not_eq_false',Bool.and_eq_true,Bool.and_eq_false_iff,decide_eq_true_eq,decide_eq_false_iff_not,beq_iff_eq,beq_eq_false_iff_ne,bne_iff_ne,bne_eq_false_iff_eq,ne_eq,not_and,Int.toNat_natCast] at *);(try simp only [Row.cells,Row.wrapped,Row.end_,Cell.kind,Cell.at] at *);(try simp (disch:=omega) only [wrapId,toNatAdd,toNatSucc,isAt,reduceCtorEq,or_false,and_true,Bool.and_true,Bool.and_eq_true,Bool.and_eq_false_iff,beq_iff_eq,beq_eq_false_iff_ne,ne_eq,Int.toNat_natCast] at *)) <;> first | omega | assumption | (refine ⟨?_,?_⟩ <;> assumption))
 have h2:(!(((Prod.fst (Ty.nth pointT l (Int.toNat (↑i:Int)))) == (Prod.fst (Ty.nth markT m (Int.toNat (↑i:Int))))) && (((Prod.fst (Prod.snd (Ty.nth pointT l (Int.toNat (↑i:Int))))) == (Prod.fst (Prod.snd (Ty.nth markT m (Int.toNat (↑i:Int)))))) && true))) = false:=by (((try simp only [eq_self,and_true,true_and,Bool.and_true,Bool.true_and,Bool.not_eq_true',Bool.not_eq_false',Bool.and_eq_true,Bool.and_eq_false_iff,decide_eq_true_eq,decide_eq_false_iff_not,beq_iff_eq,beq_eq_false_iff_ne,bne_iff_ne,bne_eq_false_iff_eq,ne_eq,not_and,Int.toNat_natCast] at *);(try simp only [Row.cells,Row.wrapped,Row.end_,Cell.kind,Cell.at] at *);(try simp (disch:=omega) only [wrapId,toNatAdd,toNatSucc,isAt,reduceCtorEq,or_false,and_true,Bool.and_true,Bool.and_eq_true,Bool.and_eq_false_iff,beq_iff_eq,beq_eq_false_iff_ne,ne_eq,Int.toNat_natCast] at *)) <;> first | omega | assumption | (refine ⟨?_,?_⟩ <;> assumption))
 exact (pC (st':={ s:=[(0,(zs pointT l)),(1,(zs markT m)),(7,(zv (↑l.length:Int))),(8,(zv (zw ((↑i:Int) + (1:Int)))))],h:=[],og:=[] }) 12 [(1,bt),(4,bf),(5,bf),(6,bf),(7,.v (V.d (D.ref (List.flatMap (Ty.enc pointT) l) ((Int.toNat (↑i:Int)) * 2)))),(8,bf),(9,.v (V.d (D.agg (Ty.enc pointT (Ty.nth pointT l (Int.toNat (↑i:Int))))))),(10,bf),(11,bf),(12,bf),(13,.v (V.d (D.ref (List.flatMap (Ty.enc markT) m) ((Int.toNat (↑i:Int)) * 4)))),(14,bf),(15,bf),(16,.v (V.d (D.agg [(zi (Prod.fst (Ty.nth markT m (Int.toNat (↑i:Int))))),(zi (Prod.fst (Prod.snd (Ty.nth markT m (Int.toNat (↑i:Int))))))]))),(17,bf),(19,bf),(20,bf)] (cP h2 (cP h1 (cP h1 (cP (@loadRMarkP (m) ([]) (Int.toNat (↑i:Int)) (by (first | assumption | omega))) (cP h1 (cP h1 (cP (@iaddrRMark (m) ((↑i:Int)) (by (first | assumption | omega)) (by (first | assumption | omega))) (cP h1 (cP h1 (cP h1 (cP (@loadPoint (l) ([]) (Int.toNat (↑i:Int)) (by (first | assumption | omega))) (cP h1 (cP (@iaddrPoint (l) ((↑i:Int)) (by (first | assumption | omega)) (by (first | assumption | omega))) (cP h1 (cP h1 (cP h1 (cP h0 nilE))))))))))))))))) (by kernel_rfl)).to (by simp (disch:=omega) [wrapId, *])
theorem sameExit (l:List Point) (m:List Mark):Rd X0 0 (ntOf X0 FSm) (lpBody X0 FSm 0) (stSm l m l.length) (.exit 0,stSmx l m):=by
 have h0:(decide ((↑l.length:Int) < (↑l.length:Int))) = false:=by (((try simp only [Bool.not_eq_true',Bool.not_eq_false',Bool.and_eq_true,Bool.and_eq_false_iff,decide_eq_true_eq,decide_eq_false_iff_not,beq_iff_eq,beq_eq_false_iff_ne,bne_iff_ne,bne_eq_false_iff_eq,ne_eq,not_and,Int.toNat_natCast] at *);(try simp only [Row.cells,Row.wrapped,Row.end_,Cell.kind,Cell.at] at *);(try simp (disch:=omega) only [wrapId,toNatAdd,toNatSucc,isAt,reduceCtorEq,or_false,and_true,Bool.and_true,Bool.and_eq_true,Bool.and_eq_false_iff,beq_iff_eq,beq_eq_false_iff_ne,ne_eq,Int.toNat_natCast] at *)) <;> first | omega | assumption)
 exact pR 12 [(1,bf)] (cP h0 nilE) (by kernel_rfl)
theorem inRound (rows:List Row) (p:Point) (m:List Mark) (n e:Int) (b:Bool) (i:Nat) (hm:m.length < 100000000) (hi:i < m.length):RdC X0 0 (ntOf X0 FPV) (lpKeep X0 FPV 0) (lpBody X0 FPV 0) 1 (stIn rows p m n e b i) (stIn rows p m n e (b || isAt (markT.nth m i) p) (i + 1)):=by
 have h0:(decide ((↑i:Int) < (↑m.length:Int))) = true:=by (((try simp only [Bool.not_eq_true',Bool.not_eq_false',Bool.and_eq_true,Bool.and_eq_false_iff,decide_eq_true_eq,decide_eq_false_iff_not,beq_iff_eq,beq_eq_false_iff_ne,bne_iff_ne,bne_eq_false_iff_eq,ne_eq,not_and,Int.toNat_natCast] at *);(try simp only [Row.cells,Row.wrapped,Row.end_,Cell.kind,Cell.at] at *);(try simp (disch:=omega) only [wrapId,toNatAdd,toNatSucc,isAt,reduceCtorEq,or_false,and_true,Bool.and_true,Bool.and_eq_true,Bool.and_eq_false_iff,beq_iff_eq,beq_eq_false_iff_ne,ne_eq,Int.toNat_natCast] at *)) <;> first | omega | assumption)
 rcases Bool.eq_false_or_eq_true (b) with h1 | h1
 ·exact (pC (st':={ s:=[(0,(zs rowT rows)),(3,(zo 0 0)),(5,(zs markT m)),(6,(zv n)),(7,(zv e)),(8,(zb true)),(22,(zs markT m)),(23,(zv (↑m.length:Int))),(24,(zv (zw ((↑i:Int) + (1:Int)))))],h:=[(zc [(zv (Prod.fst p)),(zv (Prod.fst (Prod.snd p)))])],og:=[] }) 12 [(1,bt),(2,.v (V.d (D.ref (List.flatMap (Ty.enc markT) m) ((Int.toNat (↑i:Int)) * 4)))),(3,.v (V.d (D.agg (Ty.enc markT (Ty.nth markT m (Int.toNat (↑i:Int))))))),(4,bt),(5,bt),(6,bt),(7,bt),(8,bt)] (cP h1 (cP h1 (cP h1 (cP h1 (cP h1 (cP (@loadRMark (m) ([(zc [(zv (Prod.fst p)),(zv (Prod.fst (Prod.snd p)))])]) (Int.toNat (↑i:Int)) (by omega)) (cP (@iaddrRMark (m) ((↑i:Int)) (by omega) (by omega)) (cP h0 nilE)))))))) (by kernel_rfl)).to (by simp (disch:=omega) [wrapId, *])
 ·exact (pC (st':={ s:=[(0,(zs rowT rows)),(3,(zo 0 0)),(5,(zs markT m)),(6,(zv n)),(7,(zv e)),(8,(zb (((Prod.fst (Ty.nth markT m (Int.toNat (↑i:Int)))) == (Prod.fst p)) && (((Prod.fst (Prod.snd (Ty.nth markT m (Int.toNat (↑i:Int))))) == (Prod.fst (Prod.snd p))) && true)))),(22,(zs markT m)),(23,(zv (↑m.length:Int))),(24,(zv (zw ((↑i:Int) + (1:Int)))))],h:=[(zc [(zv (Prod.fst p)),(zv (Prod.fst (Prod.snd p)))])],og:=[] }) 12 [(1,bt),(2,.v (V.d (D.ref (List.flatMap (Ty.enc markT) m) ((Int.toNat (↑i:Int)) * 4)))),(3,.v (V.d (D.agg (Ty.enc markT (Ty.nth markT m (Int.toNat (↑i:Int))))))),(4,bf),(5,bf),(7,bf),(9,bf),(11,bf)] (cP h1 (cP h1 (cP h1 (cP h1 (cP h1 (cP (@loadRMark (m) ([(zc [(zv (Prod.fst p)),(zv (Prod.fst (Prod.snd p)))])]) (Int.toNat (↑i:Int)) (by omega)) (cP (@iaddrRMark (m) ((↑i:Int)) (by omega) (by omega)) (cP h0 nilE)))))))) (by kernel_rfl)).to (by ((try simp (disch:=omega) only [wrapId,toNatAdd,toNatSucc,goesOn,Row.wrapped] at *);(try simp only [Int.toNat_natCast,beq_iff_eq,beq_eq_false_iff_ne,bne_iff_ne,bne_eq_false_iff_eq,ne_eq,Int.natCast_eq_zero,Int.natCast_inj,Row.cells] at *);first | (simp (disch:=omega) [Ty.enc,stopAt,endMark,lineMarks,lineM,lineA,lineW,Row.end_,inA,inW,inM,mk,Cell.kind,Cell.at,Row.cells,wrapId,mP,isAt,toNatPred,toNatAdd,toNatSucc,goesOn,ltF,ltT,Row.wrapped,Ty.slD, *];done) | (subst_vars;simp (disch:=omega) [Ty.enc,stopAt,endMark,lineMarks,lineM,lineA,lineW,Row.end_,inA,inW,inM,mk,Cell.kind,Cell.at,Row.cells,wrapId,mP,isAt,toNatPred,toNatAdd,toNatSucc,goesOn,ltF,ltT,Row.wrapped,Ty.slD, *];done)))
def refStep (rows:List Row) (M:List Mark) (i:Nat):List Mark:=if i + 1 = rows.length∨Row.wrapped (rowT.nth rows (i + 1)) = false then rowMarks rows M i ++ [endMark rows i] else rowMarks rows M i
def refFold (rows:List Row):Nat→List Mark
 | 0=>[]
 | i + 1=>refStep rows (refFold rows i) i
def refMarks (rows:List Row):List Mark:=refFold rows rows.length
theorem nth_pre {e:Ty} {X A:List e.ty} {c:e.ty} (h:X ++ [c] <+: A):e.nth A X.length = c:=by
 obtain ⟨t,rfl⟩:=h
 simp [Ty.nth,List.getD_eq_getElem?_getD]
theorem inAto_pre1 (A cells:List Cell) (c:Nat):inAto A cells c <+: inAto A cells (c + 1):=by
 simp only [inAto,inA]
 split
 ·exact List.prefix_rfl
 ·exact List.prefix_append _ _
theorem inAto_pre (A cells:List Cell) (c d:Nat) (h:c≤d):inAto A cells c <+: inAto A cells d:=by
 obtain ⟨d,rfl⟩:=Nat.exists_eq_add_of_le h
 clear h
 induction d with
 | zero=>exact List.prefix_rfl
 | succ d ih=>exact ih.trans (inAto_pre1 A cells (c + d))
theorem inWto_pre1 (row:Int) (A:List Point) (cells:List Cell) (c:Nat):inWto row A cells c <+: inWto row A cells (c + 1):=by
 simp only [inWto,inW]
 split
 ·exact List.prefix_rfl
 ·exact List.prefix_append _ _
theorem inWto_pre (row:Int) (A:List Point) (cells:List Cell) (c d:Nat) (h:c≤d):inWto row A cells c <+: inWto row A cells d:=by
 obtain ⟨d,rfl⟩:=Nat.exists_eq_add_of_le h
 clear h
 induction d with
 | zero=>exact List.prefix_rfl
 | succ d ih=>exact ih.trans (inWto_pre1 row A cells (c + d))
theorem allTo_pre (P:List Row) (m n:Nat) (h:m≤n):allTo P m <+: allTo P n:=by
 obtain ⟨d,rfl⟩:=Nat.exists_eq_add_of_le h
 clear h
 induction d with
 | zero=>exact List.prefix_rfl
 | succ d ih=>exact ih.trans (inAto_pre (allTo P (m + d)) (Row.cells (rowT.nth P (m + d))) 0 _ (Nat.zero_le _))
theorem whTo_pre (P:List Row) (first:Int) (m n:Nat) (h:m≤n):whTo P first m <+: whTo P first n:=by
 obtain ⟨d,rfl⟩:=Nat.exists_eq_add_of_le h
 clear h
 induction d with
 | zero=>exact List.prefix_rfl
 | succ d ih=>exact ih.trans (inWto_pre (first + (m + d:Nat)) (whTo P first (m + d)) (Row.cells (rowT.nth P (m + d))) 0 _ (Nat.zero_le _))
theorem inWto_cnt (row:Int) (W:List Point) (cells:List Cell):∀ c,(inWto row W cells c).length = W.length + cntTo cells c
 | 0=>rfl
 | c + 1=>by
  have:=inWto_cnt row W cells c
  simp only [inWto,inW,cntTo]
  split
  ·exact this
  ·rw [List.length_append,this];rfl
theorem whTo_allTo (P:List Row) (first:Int):∀ t,(whTo P first t).length = (allTo P t).length
 | 0=>rfl
 | t + 1=>by
  simp only [whTo,allTo]
  unfold rowW rowA
  rw [inWto_cnt,inAto_cnt,whTo_allTo P first t]
theorem stops_nth (A:List Cell) (k:Nat) (h:k < A.length):boolT.nth (stopsTo A A.length) k = stopAt A k:=by
 simp [Ty.nth,stopsTo,List.getD_eq_getElem?_getD,h]
theorem row_law (P:List Row) (i0 t:Nat) (ht:t < P.length) (M:List Mark):∀ col,col≤(Row.cells (rowT.nth P t)).length →
  M ++ mTo (allTo P P.length) (whTo P i0 P.length) (stopsTo (allTo P P.length) (allTo P P.length).length) ((allTo P t).length + cntTo (Row.cells (rowT.nth P t)) col) =
   rmM (i0 + t) (allTo P P.length) (rowT.nth P t) (allTo P t).length (M ++ mTo (allTo P P.length) (whTo P i0 P.length) (stopsTo (allTo P P.length) (allTo P P.length).length) (allTo P t).length) col
 | 0,_=>by simp [cntTo,rmM]
 | col + 1,hc=>by
  have ih:=row_law P i0 t ht M col (by omega)
  simp only [cntTo,rmM]
  by_cases hk:(Cell.kind (cellT.nth (Row.cells (rowT.nth P t)) col) == 5) = true
  ·rw [if_pos hk,if_pos hk];exact ih
  ·rw [if_neg hk,if_neg hk]
   have e1:inAto (allTo P t) (Row.cells (rowT.nth P t)) (col + 1) = inAto (allTo P t) (Row.cells (rowT.nth P t)) col ++ [cellT.nth (Row.cells (rowT.nth P t)) col]:=by
    simp only [inAto,inA];rw [if_neg hk]
   have e2:inWto ((i0:Int) + t) (whTo P i0 t) (Row.cells (rowT.nth P t)) (col + 1) = inWto ((i0:Int) + t) (whTo P i0 t) (Row.cells (rowT.nth P t)) col ++ [((i0:Int) + t,(col:Int),())]:=by
    simp only [inWto,inW];rw [if_neg hk]
   have p1:inAto (allTo P t) (Row.cells (rowT.nth P t)) col ++ [cellT.nth (Row.cells (rowT.nth P t)) col] <+: allTo P P.length:=by
    rw [← e1]
    exact (inAto_pre (allTo P t) _ (col + 1) _ hc).trans (allTo_pre P (t + 1) P.length ht)
   have p2:inWto ((i0:Int) + t) (whTo P i0 t) (Row.cells (rowT.nth P t)) col ++ [((i0:Int) + t,(col:Int),())] <+: whTo P i0 P.length:=by
    rw [← e2]
    exact (inWto_pre _ (whTo P i0 t) _ (col + 1) _ hc).trans (whTo_pre P i0 (t + 1) P.length ht)
   have n1:=nth_pre (e:=cellT) p1
   have n2:=nth_pre (e:=pointT) p2
   have l1:=p1.length_le
   rw [List.length_append] at l1
   rw [inAto_cnt] at n1 l1
   rw [inWto_cnt,whTo_allTo] at n2
   have l1':(allTo P t).length + cntTo (Row.cells (rowT.nth P t)) col < (allTo P P.length).length:=by have:=l1;simp at this;omega
   have s1:=stops_nth (allTo P P.length) _ l1'
   have hm:mk (allTo P P.length) (whTo P i0 P.length) ((allTo P t).length + cntTo (Row.cells (rowT.nth P t)) col) = cm (rowT.nth P t) (i0 + t) col:=by
    unfold mk cm
    rw [n1,n2]
    simp [Cell.kind,Cell.at]
   rw [← Nat.add_assoc]
   simp only [mTo,inM]
   rw [s1,hm,← ih]
   split
   ·rw [List.append_assoc]
   ·rfl
theorem part_nth (rows:List Row) (i t:Nat) (ht:t < runN rows i):rowT.nth (part rows i) t = rowT.nth rows (i + t):=by
 simp only [Ty.nth,part,List.getD_eq_getElem?_getD,List.getElem?_drop,List.getElem?_take]
 rw [if_pos (by omega)]
theorem allTo_part (rows:List Row) (i:Nat):∀ t,t≤runN rows i→allTo (part rows i) t = allF rows i t
 | 0,_=>rfl
 | t + 1,h=>by simp only [allTo,allF];rw [allTo_part rows i t (by omega),part_nth rows i t (by omega)]
def LS (rows:List Row) (i:Nat):Prop:=i = 0∨Row.wrapped (rowT.nth rows i) = false
theorem runN_get (rows:List Row) (i t:Nat) (h1:1≤t) (h2:t < runN rows i):i + t < rows.length∧Row.wrapped (rowT.nth rows (i + t)) = true:=by
 have:=runFrom_get rows i rows.length 1 t h1 h2
 simpa [goesOn] using this
theorem runFrom_stop (rows:List Row) (i:Nat):∀ f n,rows.length≤i + n + f→goesOn rows i (runFrom rows i f n) = false
 | 0,n,h=>by show goesOn rows i n = false;unfold goesOn;rw [decide_eq_false (by omega),Bool.false_and]
 | f + 1,n,h=>by
  simp only [runFrom]
  split
  ·exact runFrom_stop rows i f (n + 1) (by omega)
  ·rename_i hg;simpa using hg
theorem runN_stop (rows:List Row) (i:Nat):i + runN rows i < rows.length→Row.wrapped (rowT.nth rows (i + runN rows i)) = false:=by
 intro h
 have:=runFrom_stop rows i rows.length 1 (by omega)
 unfold runN at h ⊢
 simpa [goesOn,h] using this
theorem backTo_start (rows:List Row) (i:Nat) (hL:LS rows i):∀ t,t < runN rows i→backTo rows (i + t) = i
 | 0,_=>by
  rcases hL with rfl | hw
  ·rfl
  ·cases i with
   | zero=>rfl
   | succ i=>show backTo rows (i + 1) = i + 1;simp only [backTo];rw [if_neg (by simp [hw])]
 | t + 1,h=>by
  have:=runN_get rows i (t + 1) (by omega) h
  show (if Row.wrapped (rowT.nth rows (i + t + 1)) = true then backTo rows (i + t) else i + t + 1) = i
  rw [if_pos (by simpa [Nat.add_assoc] using this.2),backTo_start rows i hL t (by omega)]
theorem lines_law (rows:List Row) (i:Nat) (hi:i < rows.length) (hL:LS rows i):∀ t,t < runN rows i →
  refFold rows (i + t) = refFold rows i ++ mTo (allTo (part rows i) (part rows i).length) (whTo (part rows i) i (part rows i).length) (stopsTo (allTo (part rows i) (part rows i).length) (allTo (part rows i) (part rows i).length).length) (allTo (part rows i) t).length ∧
  rowMarks rows (refFold rows (i + t)) (i + t) = refFold rows i ++ mTo (allTo (part rows i) (part rows i).length) (whTo (part rows i) i (part rows i).length) (stopsTo (allTo (part rows i) (part rows i).length) (allTo (part rows i) (part rows i).length).length) (allTo (part rows i) (t + 1)).length:=by
 have hpl:=part_len rows i hi
 have key:∀ t,t < runN rows i→refFold rows (i + t) = refFold rows i ++ mTo (allTo (part rows i) (part rows i).length) (whTo (part rows i) i (part rows i).length) (stopsTo (allTo (part rows i) (part rows i).length) (allTo (part rows i) (part rows i).length).length) (allTo (part rows i) t).length →
   rowMarks rows (refFold rows (i + t)) (i + t) = refFold rows i ++ mTo (allTo (part rows i) (part rows i).length) (whTo (part rows i) i (part rows i).length) (stopsTo (allTo (part rows i) (part rows i).length) (allTo (part rows i) (part rows i).length).length) (allTo (part rows i) (t + 1)).length:=by
  intro t ht hM
  have hb:=backTo_start rows i hL t ht
  have hlo:lineOf rows (i + t) = allTo (part rows i) (part rows i).length:=by
   unfold lineOf;rw [hb,hpl,allTo_part rows i _ (Nat.le_refl _)]
  have hah:aheadOf rows (i + t) = (allTo (part rows i) t).length:=by
   unfold aheadOf ahF;rw [hb,if_pos (by omega),allTo_part rows i t (by omega)];congr 2;omega
  have h1:=row_law (part rows i) i t (by omega) (refFold rows i) (Row.cells (rowT.nth (part rows i) t)).length (Nat.le_refl _)
  have h2:(allTo (part rows i) (t + 1)).length = (allTo (part rows i) t).length + cntTo (Row.cells (rowT.nth (part rows i) t)) (Row.cells (rowT.nth (part rows i) t)).length:=by
   simp only [allTo];unfold rowA;rw [inAto_cnt]
  unfold rowMarks
  rw [h2,h1,hlo,hah,hM,part_nth rows i t ht]
 intro t
 induction t with
 | zero =>
  intro h
  have h0:refFold rows (i + 0) = refFold rows i ++ mTo (allTo (part rows i) (part rows i).length) (whTo (part rows i) i (part rows i).length) (stopsTo (allTo (part rows i) (part rows i).length) (allTo (part rows i) (part rows i).length).length) (allTo (part rows i) 0).length:=by simp [allTo,mTo]
  exact ⟨h0,key 0 h h0⟩
 | succ t ih =>
  intro h
  have h1:=(ih (by omega)).2
  have hg:=runN_get rows i (t + 1) (by omega) h
  have h2:refFold rows (i + (t + 1)) = refFold rows i ++ mTo (allTo (part rows i) (part rows i).length) (whTo (part rows i) i (part rows i).length) (stopsTo (allTo (part rows i) (part rows i).length) (allTo (part rows i) (part rows i).length).length) (allTo (part rows i) (t + 1)).length:=by
   rw [← h1]
   show refStep rows (refFold rows (i + t)) (i + t) = _
   unfold refStep
   rw [if_neg]
   rintro (h3 | h3)
   ·omega
   ·rw [show i + t + 1 = i + (t + 1) by omega,hg.2] at h3;cases h3
  exact ⟨h2,key (t + 1) h h2⟩
theorem line_law (rows:List Row) (i:Nat) (hi:i < rows.length) (hL:LS rows i):refFold rows (i + runN rows i) = refFold rows i ++ lineMarks (part rows i) i:=by
 have hpl:=part_len rows i hi
 have h5:=runFrom_le rows i rows.length 1 (by omega)
 have h8:runN rows i = runFrom rows i rows.length 1:=rfl
 obtain ⟨n,hn⟩:∃ n,runN rows i = n + 1:=⟨runN rows i - 1,by omega⟩
 have h1:=(lines_law rows i hi hL n (by omega)).2
 have hs:=runN_stop rows i
 rw [hn] at hs ⊢
 show refStep rows (refFold rows (i + n)) (i + n) = _
 unfold refStep
 rw [if_pos,h1]
 ·unfold lineMarks lineM lineA lineW
  rw [stopsTo_length,hpl,hn]
  rw [List.append_assoc]
  congr 2
  show [endMark rows (i + n)] = _
  unfold endMark
  have e:rowT.nth (part rows i) (n + 1 - 1) = rowT.nth rows (i + n):=part_nth rows i n (by omega)
  rw [e,show ((i:Int) + ((n + 1:Nat):Int) - 1) = ((i + n:Nat):Int) by omega]
 ·by_cases h:i + n + 1 = rows.length
  ·exact .inl h
  ·exact .inr (hs (by omega))
theorem marks_law (rows:List Row):∀ f i,rows.length≤i + f→i≤rows.length→LS rows i→marksFrom rows f i (refFold rows i) = refFold rows rows.length:=by
 intro f
 induction f with
 | zero =>
  intro i h1 h2 _
  obtain rfl:i = rows.length:=by omega
  rfl
 | succ f ih =>
  intro i h1 h2 hL
  simp only [marksFrom]
  by_cases hi:i < rows.length
  ·rw [if_pos hi,← line_law rows i hi hL]
   have h5:=runFrom_le rows i rows.length 1 (by omega)
   have h8:runN rows i = runFrom rows i rows.length 1:=rfl
   refine ih _ (by omega) (by omega) ?_
   by_cases hl:i + runN rows i < rows.length
   ·exact .inr (runN_stop rows i hl)
   ·refine .inr ?_
    have:rowT.nth rows (i + runN rows i) = rowT.dflt:=by
     simp only [Ty.nth,List.getD_eq_getElem?_getD]
     rw [List.getElem?_eq_none (by omega)];rfl
    rw [this];rfl
  ·rw [if_neg hi]
   obtain rfl:i = rows.length:=by omega
   rfl
theorem marks_same (rows:List Row):allMarks rows = refMarks rows:=marks_law rows rows.length 0 (by omega) (Nat.zero_le _) (.inl rfl)
theorem rowMarks_len (rows:List Row) (M:List Mark) (i:Nat) (hs:smallR rows):(rowMarks rows M i).length≤M.length + cnt1 (rowT.nth rows i):=by
 have h1:=rmM_cnt i (lineOf rows i) (rowT.nth rows i) (aheadOf rows i) M (Row.cells (rowT.nth rows i)).length
 unfold rowMarks cnt1
 omega
theorem refFold_len (rows:List Row) (hs:smallR rows):∀ i,(refFold rows i).length≤sumTo rows i + i
 | 0=>Nat.le_refl _
 | i + 1=>by
  have h1:=refFold_len rows hs i
  have h3:sumTo rows (i + 1) = sumTo rows i + cnt1 (rowT.nth rows i):=rfl
  have h2:=rowMarks_len rows (refFold rows i) i hs
  show (refStep rows (refFold rows i) i).length≤_
  unfold refStep
  split
  ·rw [List.length_append];simp;omega
  ·omega
theorem rmLoop0C (rows:List Row) (hs:smallR rows):∀ f i m,f + i = rows.length→f < m →
  LpC X0 0 (ntOf X0 FRM) (lpKeep X0 FRM 0) (lpBody X0 FRM 0) 0 m (stW rows (refFold rows i) i) (.exit 0,stWx rows (allMarks rows)):=by
 have hr:=hs.1
 intro f
 induction f with
 | zero =>
  intro i m h1 h2
  obtain rfl:i = rows.length:=by omega
  rw [marks_same]
  exact LpC.last (rmExit0 rows _) (by simp)
 | succ f ih =>
  intro i m h1 h2
  obtain ⟨m,rfl⟩:∃ x,m = x + 1:=⟨m - 1,by omega⟩
  have h3:=ih (i + 1) m (by omega) (by omega)
  have h4:=refFold_len rows hs i
  have h5:=rowMarks_len rows (refFold rows i) i hs
  have h6:=hs.2.2 i
  have h7:=hs.2.2 (i + 1)
  have h8:sumTo rows (i + 1) = sumTo rows i + cnt1 (rowT.nth rows i):=rfl
  have hn:refFold rows (i + 1) = refStep rows (refFold rows i) i:=rfl
  rw [hn] at h3
  unfold refStep at h3
  by_cases hi:i + 1 = rows.length
  ·rw [if_pos (.inl hi)] at h3
   exact LpC.next (rmRoundE rows _ i hs hr hi (by omega) (by omega)) h3
  ·cases hw:Row.wrapped (rowT.nth rows (i + 1)) with
   | false =>
    rw [if_pos (.inr hw)] at h3
    exact LpC.next (rmRoundA rows _ i hs hr (by omega) hw (by omega) (by omega)) h3
   | true =>
    rw [if_neg (by simp [hi,hw])] at h3
    exact LpC.next (rmRoundB rows _ i hs hr (by omega) hw (by omega) (by omega)) h3
theorem rmLoop0:∀ (rows:List Row) (hs:smallR rows),Lp X0 0 (ntOf X0 FRM) (lpKeep X0 FRM 0) (lpBody X0 FRM 0) 0 FUEL (stW rows [] 0) (.exit 0,stWx rows (allMarks rows)):=fun rows hs=>LpC.start (m:=1152921504606846975) (rmLoop0C rows hs rows.length 0 _ (by omega) (by have:=hs.1;omega)) (by kernel_rfl)
theorem allMarks_len {rows:List Row} (hs:smallR rows):(allMarks rows).length < 40000000:=by
 have:=refFold_len rows hs rows.length
 have:=hs.1
 have:=hs.2.2 rows.length
 rw [marks_same]
 unfold refMarks
 omega
theorem ptsTo_len (m:List Mark) (n:Nat):(ptsTo m n).length = n:=by simp [ptsTo]
theorem ptsTo_nth (m:List Mark) (n i:Nat) (h:i < n):pointT.nth (ptsTo m n) i = mP (markT.nth m i):=by
 simp [Ty.nth,ptsTo,List.getD_eq_getElem?_getD,h]
theorem sameLoopC (l:List Point) (m:List Mark) (hl:l.length < 100000000) (hm:l.length = m.length) (h:∀ i,i < l.length→(pointT.nth l i).1 = (markT.nth m i).1∧(pointT.nth l i).2.1 = (markT.nth m i).2.1):∀ j i n,j + i = l.length→j < n →
  LpC X0 0 (ntOf X0 FSm) (lpKeep X0 FSm 0) (lpBody X0 FSm 0) 0 n (stSm l m i) (.exit 0,stSmx l m):=by
 intro j
 induction j with
 | zero =>
  intro i n h1 h2
  obtain rfl:i = l.length:=by omega
  exact LpC.last (sameExit l m) (by simp)
 | succ j ih =>
  intro i n h1 h2
  obtain ⟨n,rfl⟩:∃ x,n = x + 1:=⟨n - 1,by omega⟩
  exact LpC.next (sameRound l m i hl (by omega) hm (h i (by omega)).1 (h i (by omega)).2) (ih (i + 1) n (by omega) (by omega))
theorem sameLoop:∀ (m:List Mark) (hl:m.length < 100000000),Lp X0 0 (ntOf X0 FSm) (lpKeep X0 FSm 0) (lpBody X0 FSm 0) 0 FUEL (stSm (ptsTo m m.length) m 0) (.exit 0,stSmx (ptsTo m m.length) m):=fun m hl=>LpC.start (m:=1152921504606846975) (sameLoopC (ptsTo m m.length) m (by rw [ptsTo_len];exact hl) (ptsTo_len _ _) (fun i hi=>by rw [ptsTo_len] at hi;rw [ptsTo_nth m _ i hi];exact ⟨rfl,rfl⟩) (ptsTo m m.length).length 0 _ (by omega) (by rw [ptsTo_len];omega)) (by kernel_rfl)
theorem rmarks (rows:List Row) (hs:smallR rows):Ans X0 FRM [.d (rowT.slD rows)] (.d (markT.slD (allMarks rows))):=by
 exact pV 12 [(1,.l (Ex.exit (0:Nat)) (stWx rows (allMarks rows)))] (cE (@rmLoop0 (rows) hs) nilE) (by kernel_rfl) rfl rfl
theorem same (m:List Mark) (hl:m.length < 100000000) (h2:(ptsTo m m.length).length = m.length):Ans X0 FSm [.d (pointT.slD (ptsTo m m.length)),.d (markT.slD m)] (.d (.bool true)):=by
 exact (pV (v:=V.d (D.bool ((↑(List.length (ptsTo m m.length)):Int) == (↑m.length:Int)))) 12 [(1,.l (Ex.exit 0) (stSmx (ptsTo m m.length) m))] (cE (@sameLoop (m) hl) nilE) (by kernel_rfl) rfl rfl).to (by simp (disch:=omega) [wrapId, *])
end Go.Proofs.Ytaobccodpdmieaa.Points
namespace Go.Proofs.Ytaobccodpdmieaa.Lay
open Go Pv G Utf
abbrev markT:Ty:=Points.markT
abbrev Mark:=markT.ty
abbrev M4 (r c k a:Int):Mark:=(r,c,k,a,())
abbrev mO (r c k a:Int):Ob:=.cells [.d (.int .i64 r),.d (.int .i64 c),.d (.int .i64 k),.d (.int .i64 a)]
abbrev ptO (r c:Int):Ob:=.cells [.d (.int .i64 r),.d (.int .i64 c)]
theorem iaddrMarkN:∀ (l:List Mark) (i:Nat) (hi:i < l.length),iaddrV XR 78 (.d (markT.slD l)) (.d (.int .i64 (i:Int))) = some (.d (.ref (l.flatMap markT.enc) (i * 4))):=fun l i hi=>iaddrSl (te := 77) (z:=4) (by kernel_rfl) (by kernel_rfl) (by omega) (by omega) (flat_len _ 4 (Ty.enc_length markT) l)
theorem loadMarkE:∀ (l:List Mark) (h:List Ob) (k:Nat) (hk:k < l.length) (r c x a:Int) (e:markT.nth l k = M4 r c x a),loadV XR h 77 (.d (.ref (l.flatMap markT.enc) (k * 4))) = some (.d (.agg [.int .i64 r,.int .i64 c,.int .i64 x,.int .i64 a])):=fun l h k hk r c x a e=>by
 have:=Pv.loadAgg (X:=XR) (e:=markT) (t := 77) (l:=l) (h:=h) (by kernel_rfl) (by kernel_rfl) hk
 rw [e] at this;exact this
theorem iaddrRMarkN:∀ (l:List Mark) (i:Nat) (hi:i < l.length),iaddrV XR 46 (.d (markT.slD l)) (.d (.int .i64 (i:Int))) = some (.d (.ref (l.flatMap markT.enc) (i * 4))):=fun l i hi=>iaddrSl (te := 51) (z:=4) (by kernel_rfl) (by kernel_rfl) (by omega) (by omega) (flat_len _ 4 (Ty.enc_length markT) l)
theorem loadRMarkE:∀ (l:List Mark) (h:List Ob) (k:Nat) (hk:k < l.length) (r c x a:Int) (e:markT.nth l k = M4 r c x a),loadV XR h 51 (.d (.ref (l.flatMap markT.enc) (k * 4))) = some (.d (.agg [.int .i64 r,.int .i64 c,.int .i64 x,.int .i64 a])):=fun l h k hk r c x a e=>by
 have:=Pv.loadAgg (X:=XR) (e:=markT) (t := 51) (l:=l) (h:=h) (by kernel_rfl) (by kernel_rfl) hk
 rw [e] at this;exact this
abbrev FPSh:Nat := 12
abbrev stPs (at_ bias:Int) (r c x a r2 c2 x2 a2:Int) (fd:Bool) (l:List Mark) (k:Int):St :=
 ⟨[(1,.d (.int .i64 at_)),(2,.d (.int .i64 bias)),(6,.obj 0 0),(8,.obj 1 0),(9,.obj 2 0),(10,.d (.bool fd)),(39,.d (markT.slD l)),(40,.d (.int .i64 (l.length:Int))),(41,.d (.int .i64 k))],[ptO 0 0,mO r c x a,mO r2 c2 x2 a2],[]⟩
abbrev stPsx (at_ bias:Int) (r c x a r2 c2 x2 a2:Int) (fd:Bool) (l:List Mark) (k:Int):St :=
 ⟨[(1,.d (.int .i64 at_)),(2,.d (.int .i64 bias)),(6,.obj 0 0),(8,.obj 1 0),(9,.obj 2 0),(10,.d (.bool fd)),(39,.d (markT.slD l)),(40,.d (.int .i64 (l.length:Int))),(41,.d (.int .i64 k)),(42,.d (.bool false))],[ptO 0 0,mO r c x a,mO r2 c2 x2 a2],[]⟩
abbrev FPRs:Nat := 13
abbrev stPr (at_ bias:Int) (r c x a:Int) (l:List Mark) (k:Int):St :=
 ⟨[(1,.d (.int .i64 at_)),(2,.d (.int .i64 bias)),(6,.obj 0 0),(7,.d (markT.slD l)),(8,.obj 1 0),(17,.d (markT.slD l)),(18,.d (.int .i64 (l.length:Int))),(19,.d (.int .i64 k))],[ptO 0 0,mO r c x a],[]⟩
abbrev stPrx (at_ bias:Int) (r c x a:Int) (l:List Mark) (k:Int):St :=
 ⟨[(1,.d (.int .i64 at_)),(2,.d (.int .i64 bias)),(6,.obj 0 0),(7,.d (markT.slD l)),(8,.obj 1 0),(17,.d (markT.slD l)),(18,.d (.int .i64 (l.length:Int))),(19,.d (.int .i64 k)),(20,.d (.bool false))],[ptO 0 0,mO r c x a],[]⟩
abbrev stPv (at_:Int) (r c x a:Int) (l:List Mark) (k:Int):St :=
 ⟨[(1,.d (.int .i64 at_)),(6,.obj 0 0),(8,.obj 1 0),(42,.d (markT.slD l)),(43,.d (.int .i64 (l.length:Int))),(44,.d (.int .i64 k))],[ptO 0 0,mO r c x a],[]⟩
abbrev stPvx (at_:Int) (r c x a:Int) (l:List Mark) (k:Int):St :=
 ⟨[(1,.d (.int .i64 at_)),(6,.obj 0 0),(8,.obj 1 0),(42,.d (markT.slD l)),(43,.d (.int .i64 (l.length:Int))),(44,.d (.int .i64 k)),(45,.d (.bool false))],[ptO 0 0,mO r c x a],[]⟩
abbrev stPvr (r3 c3 r c x a a3:Int):St:=⟨[(6,.obj 0 0)],[ptO r3 c3,mO r c x a,mO r3 c3 2 a3],[]⟩
theorem psA (at_ bias:Int) (r c x a r2 c2 x2 a2:Int) (fd:Bool) (l:List Mark) (k:Nat) (hl:l.length≤100000000) (hk:k < l.length) (r3 c3 x3 a3:Int) (e:markT.nth l k = M4 r3 c3 x3 a3) (q:a3 > at_):RdC XR 0 (ntOf XR FPSh) (lpKeep XR FPSh 0) (lpBody XR FPSh 0) 3 (stPs at_ bias r c x a r2 c2 x2 a2 fd l k) (stPs at_ bias r c x a r2 c2 x2 a2 fd l ((k:Int) + 1)):=by
 have hx0:(decide ((↑k:Int) < (↑l.length:Int))) = true:=decide_eq_true (by omega)
 have hx1:(decide (a3 > at_)) = true:=decide_eq_true (by omega)
 exact (pC (st':={ s:=[(1,(zv at_)),(2,(zv bias)),(6,(zo 0 0)),(8,(zo 1 0)),(9,(zo 2 0)),(10,(zb fd)),(39,(zs markT l)),(40,(zv (↑l.length:Int))),(41,(zv (zw ((↑k:Int) + (1:Int)))))],h:=[(zc [(zv 0),(zv 0)]),(zc [(zv r),(zv c),(zv x),(zv a)]),(zc [(zv r2),(zv c2),(zv x2),(zv a2)])],og:=[] }) 12 [(1,bt),(2,.v (V.d (D.ref (List.flatMap (Ty.enc markT) l) (k * 4)))),(3,.v (V.d (D.agg [(zi r3),(zi c3),(zi x3),(zi a3)]))),(6,bt)] (cP hx1 (cP (@loadMarkE (l) ([(zc [(zv 0),(zv 0)]),(zc [(zv r),(zv c),(zv x),(zv a)]),(zc [(zv r2),(zv c2),(zv x2),(zv a2)])]) (k) hk (r3) (c3) (x3) (a3) e) (cP (@iaddrMarkN (l) (k) hk) (cP hx0 nilE)))) (by kernel_rfl)).to (by simp (disch:=omega) [wrapId, *])
theorem psB (at_ bias:Int) (r c x a r2 c2 x2 a2:Int) (l:List Mark) (k:Nat) (hl:l.length≤100000000) (hk:k < l.length) (r3 c3 a3:Int) (e:markT.nth l k = M4 r3 c3 2 a3) (q:¬ a3 > at_) (q2:a3 = at_):RdC XR 0 (ntOf XR FPSh) (lpKeep XR FPSh 0) (lpBody XR FPSh 0) 3 (stPs at_ bias r c x a r2 c2 x2 a2 false l k) (stPs at_ bias r c x a r3 c3 2 a3 true l ((k:Int) + 1)):=by
 have hx0:(decide ((↑k:Int) < (↑l.length:Int))) = true:=decide_eq_true (by omega)
 have hx1:(decide (a3 > at_)) = false:=decide_eq_false (by omega)
 have hx2:(a3 == at_) = true:=decide_eq_true (by omega)
 exact (pC (st':={ s:=[(1,(zv at_)),(2,(zv bias)),(6,(zo 0 0)),(8,(zo 1 0)),(9,(zo 2 0)),(10,(zb true)),(39,(zs markT l)),(40,(zv (↑l.length:Int))),(41,(zv (zw ((↑k:Int) + (1:Int)))))],h:=[(zc [(zv 0),(zv 0)]),(zc [(zv r),(zv c),(zv x),(zv a)]),(zc [(zv r3),(zv c3),(zv 2),(zv a3)])],og:=[] }) 12 [(1,bt),(2,.v (V.d (D.ref (List.flatMap (Ty.enc markT) l) (k * 4)))),(3,.v (V.d (D.agg [(zi r3),(zi c3),(zi 2),(zi a3)]))),(6,bf),(12,bt),(13,bt),(14,bt)] (cP hx2 (cP hx2 (cP hx2 (cP hx1 (cP (@loadMarkE (l) ([(zc [(zv 0),(zv 0)]),(zc [(zv r),(zv c),(zv x),(zv a)]),(zc [(zv r2),(zv c2),(zv x2),(zv a2)])]) (k) hk (r3) (c3) ((2:Int)) (a3) e) (cP (@iaddrMarkN (l) (k) hk) (cP hx0 nilE))))))) (by kernel_rfl)).to (by simp (disch:=omega) [wrapId, *])
theorem psC (at_ bias:Int) (r c x a r2 c2 x2 a2:Int) (l:List Mark) (k:Nat) (hl:l.length≤100000000) (hk:k < l.length) (r3 c3 a3:Int) (e:markT.nth l k = M4 r3 c3 2 a3) (q:¬ a3 > at_):RdC XR 0 (ntOf XR FPSh) (lpKeep XR FPSh 0) (lpBody XR FPSh 0) 3 (stPs at_ bias r c x a r2 c2 x2 a2 true l k) (stPs at_ bias r c x a r2 c2 x2 a2 true l ((k:Int) + 1)):=by
 have hx0:(decide ((↑k:Int) < (↑l.length:Int))) = true:=decide_eq_true (by omega)
 have hx1:(decide (a3 > at_)) = false:=decide_eq_false (by omega)
 rcases Bool.eq_false_or_eq_true (a3 == at_) with hx2 | hx2
 ·exact (pC (st':={ s:=[(1,(zv at_)),(2,(zv bias)),(6,(zo 0 0)),(8,(zo 1 0)),(9,(zo 2 0)),(10,(zb true)),(39,(zs markT l)),(40,(zv (↑l.length:Int))),(41,(zv (zw ((↑k:Int) + (1:Int)))))],h:=[(zc [(zv 0),(zv 0)]),(zc [(zv r),(zv c),(zv x),(zv a)]),(zc [(zv r2),(zv c2),(zv x2),(zv a2)])],og:=[] }) 12 [(1,bt),(2,.v (V.d (D.ref (List.flatMap (Ty.enc markT) l) (k * 4)))),(3,.v (V.d (D.agg [(zi r3),(zi c3),(zi 2),(zi a3)]))),(6,bf),(12,bt),(13,bt),(14,bt)] (cP hx2 (cP hx2 (cP hx2 (cP hx1 (cP (@loadMarkE (l) ([(zc [(zv 0),(zv 0)]),(zc [(zv r),(zv c),(zv x),(zv a)]),(zc [(zv r2),(zv c2),(zv x2),(zv a2)])]) (k) hk (r3) (c3) ((2:Int)) (a3) e) (cP (@iaddrMarkN (l) (k) hk) (cP hx0 nilE))))))) (by kernel_rfl)).to (by simp (disch:=omega) [wrapId, *])
 ·exact (pC (st':={ s:=[(1,(zv at_)),(2,(zv bias)),(6,(zo 0 0)),(8,(zo 1 0)),(9,(zo 2 0)),(10,(zb true)),(39,(zs markT l)),(40,(zv (↑l.length:Int))),(41,(zv (zw ((↑k:Int) + (1:Int)))))],h:=[(zc [(zv 0),(zv 0)]),(zc [(zv r),(zv c),(zv x),(zv a)]),(zc [(zv r2),(zv c2),(zv x2),(zv a2)])],og:=[] }) 12 [(1,bt),(2,.v (V.d (D.ref (List.flatMap (Ty.enc markT) l) (k * 4)))),(3,.v (V.d (D.agg [(zi r3),(zi c3),(zi 2),(zi a3)]))),(6,bf),(12,bf),(13,bf),(14,bf)] (cP hx2 (cP hx2 (cP hx2 (cP hx1 (cP (@loadMarkE (l) ([(zc [(zv 0),(zv 0)]),(zc [(zv r),(zv c),(zv x),(zv a)]),(zc [(zv r2),(zv c2),(zv x2),(zv a2)])]) (k) hk (r3) (c3) ((2:Int)) (a3) e) (cP (@iaddrMarkN (l) (k) hk) (cP hx0 nilE))))))) (by kernel_rfl)).to (by simp (disch:=omega) [wrapId, *])
theorem psD (at_ bias:Int) (r c x a r2 c2 x2 a2:Int) (fd:Bool) (l:List Mark) (k:Nat) (hl:l.length≤100000000) (hk:k < l.length) (r3 c3 a3:Int) (e:markT.nth l k = M4 r3 c3 2 a3) (q:¬ a3 > at_) (q2:¬ a3 = at_):RdC XR 0 (ntOf XR FPSh) (lpKeep XR FPSh 0) (lpBody XR FPSh 0) 3 (stPs at_ bias r c x a r2 c2 x2 a2 fd l k) (stPs at_ bias r c x a r2 c2 x2 a2 fd l ((k:Int) + 1)):=by
 have hx0:(decide ((↑k:Int) < (↑l.length:Int))) = true:=decide_eq_true (by omega)
 have hx1:(decide (a3 > at_)) = false:=decide_eq_false (by omega)
 have hx2:(a3 == at_) = false:=decide_eq_false (by omega)
 exact (pC (st':={ s:=[(1,(zv at_)),(2,(zv bias)),(6,(zo 0 0)),(8,(zo 1 0)),(9,(zo 2 0)),(10,(zb fd)),(39,(zs markT l)),(40,(zv (↑l.length:Int))),(41,(zv (zw ((↑k:Int) + (1:Int)))))],h:=[(zc [(zv 0),(zv 0)]),(zc [(zv r),(zv c),(zv x),(zv a)]),(zc [(zv r2),(zv c2),(zv x2),(zv a2)])],og:=[] }) 12 [(1,bt),(2,.v (V.d (D.ref (List.flatMap (Ty.enc markT) l) (k * 4)))),(3,.v (V.d (D.agg [(zi r3),(zi c3),(zi 2),(zi a3)]))),(6,bf),(12,bf),(13,bf),(14,bf)] (cP hx2 (cP hx2 (cP hx2 (cP hx1 (cP (@loadMarkE (l) ([(zc [(zv 0),(zv 0)]),(zc [(zv r),(zv c),(zv x),(zv a)]),(zc [(zv r2),(zv c2),(zv x2),(zv a2)])]) (k) hk (r3) (c3) ((2:Int)) (a3) e) (cP (@iaddrMarkN (l) (k) hk) (cP hx0 nilE))))))) (by kernel_rfl)).to (by simp (disch:=omega) [wrapId, *])
theorem psE (at_ bias:Int) (r c x a r2 c2 x2 a2:Int) (fd:Bool) (l:List Mark) (k:Nat) (hl:l.length≤100000000) (hk:k < l.length) (r3 c3 x3 a3:Int) (e:markT.nth l k = M4 r3 c3 x3 a3) (q:¬ a3 > at_) (q2:¬ x3 = 2):RdC XR 0 (ntOf XR FPSh) (lpKeep XR FPSh 0) (lpBody XR FPSh 0) 3 (stPs at_ bias r c x a r2 c2 x2 a2 fd l k) (stPs at_ bias r3 c3 x3 a3 r2 c2 x2 a2 fd l ((k:Int) + 1)):=by
 have hx0:(decide ((↑k:Int) < (↑l.length:Int))) = true:=decide_eq_true (by omega)
 have hx1:(decide (a3 > at_)) = false:=decide_eq_false (by omega)
 have hx2:(x3 == (2:Int)) = false:=decide_eq_false (by omega)
 exact (pC (st':={ s:=[(1,(zv at_)),(2,(zv bias)),(6,(zo 0 0)),(8,(zo 1 0)),(9,(zo 2 0)),(10,(zb fd)),(39,(zs markT l)),(40,(zv (↑l.length:Int))),(41,(zv (zw ((↑k:Int) + (1:Int)))))],h:=[(zc [(zv 0),(zv 0)]),(zc [(zv r3),(zv c3),(zv x3),(zv a3)]),(zc [(zv r2),(zv c2),(zv x2),(zv a2)])],og:=[] }) 12 [(1,bt),(2,.v (V.d (D.ref (List.flatMap (Ty.enc markT) l) (k * 4)))),(3,.v (V.d (D.agg [(zi r3),(zi c3),(zi x3),(zi a3)]))),(6,bf),(9,bf)] (cP hx2 (cP hx1 (cP (@loadMarkE (l) ([(zc [(zv 0),(zv 0)]),(zc [(zv r),(zv c),(zv x),(zv a)]),(zc [(zv r2),(zv c2),(zv x2),(zv a2)])]) (k) hk (r3) (c3) (x3) (a3) e) (cP (@iaddrMarkN (l) (k) hk) (cP hx0 nilE))))) (by kernel_rfl)).to (by simp (disch:=omega) [wrapId, *])
theorem psX (at_ bias:Int) (r c x a r2 c2 x2 a2:Int) (fd:Bool) (l:List Mark):Rd XR 0 (ntOf XR FPSh) (lpBody XR FPSh 0) (stPs at_ bias r c x a r2 c2 x2 a2 fd l l.length) (.exit 1,stPsx at_ bias r c x a r2 c2 x2 a2 fd l l.length):=by
 have hx0:(decide ((↑l.length:Int) < (↑l.length:Int))) = false:=decide_eq_false (by omega)
 exact (pR (r:=((Ex.exit 1),{ s:=[(1,(zv at_)),(2,(zv bias)),(6,(zo 0 0)),(8,(zo 1 0)),(9,(zo 2 0)),(10,(zb fd)),(39,(zs markT l)),(40,(zv (↑l.length:Int))),(41,(zv (↑l.length:Int))),(42,(zb (decide ((↑l.length:Int) < (↑l.length:Int)))))],h:=[(zc [(zv 0),(zv 0)]),(zc [(zv r),(zv c),(zv x),(zv a)]),(zc [(zv r2),(zv c2),(zv x2),(zv a2)])],og:=[] })) 12 [(1,bf)] (cP hx0 nilE) (by kernel_rfl)).to (by simp (disch:=omega) [wrapId, *])
theorem prA (at_ bias:Int) (r c x a:Int) (l:List Mark) (k:Nat) (hl:l.length≤100000000) (hk:k < l.length) (r3 c3 x3 a3:Int) (e:markT.nth l k = M4 r3 c3 x3 a3) (q:¬ x3 = 2) (q2:a3≤at_):RdC XR 0 (ntOf XR FPRs) (lpKeep XR FPRs 0) (lpBody XR FPRs 0) 2 (stPr at_ bias r c x a l k) (stPr at_ bias r3 c3 x3 a3 l ((k:Int) + 1)):=by
 have hx0:(decide ((↑k:Int) < (↑l.length:Int))) = true:=decide_eq_true (by omega)
 have hx1:(x3 != (2:Int)) = true:=by simp [*]
 have hx2:(decide (a3≤at_)) = true:=decide_eq_true (by omega)
 exact (pC (st':={ s:=[(1,(zv at_)),(2,(zv bias)),(6,(zo 0 0)),(7,(zs markT l)),(8,(zo 1 0)),(17,(zs markT l)),(18,(zv (↑l.length:Int))),(19,(zv (zw ((↑k:Int) + (1:Int)))))],h:=[(zc [(zv 0),(zv 0)]),(zc [(zv r3),(zv c3),(zv x3),(zv a3)])],og:=[] }) 12 [(1,bt),(2,.v (V.d (D.ref (List.flatMap (Ty.enc markT) l) (k * 4)))),(3,.v (V.d (D.agg [(zi r3),(zi c3),(zi x3),(zi a3)]))),(6,bt),(7,bt),(9,bt),(10,bt),(12,bt),(13,bt)] (cP hx2 (cP hx1 (cP hx1 (cP hx1 (cP hx1 (cP hx1 (cP (@loadRMarkE (l) ([(zc [(zv 0),(zv 0)]),(zc [(zv r),(zv c),(zv x),(zv a)])]) (k) hk (r3) (c3) (x3) (a3) e) (cP (@iaddrRMarkN (l) (k) hk) (cP hx0 nilE))))))))) (by kernel_rfl)).to (by simp (disch:=omega) [wrapId, *])
theorem prB (at_ bias:Int) (r c x a:Int) (l:List Mark) (k:Nat) (hl:l.length≤100000000) (hk:k < l.length) (r3 c3 a3:Int) (e:markT.nth l k = M4 r3 c3 2 a3):RdC XR 0 (ntOf XR FPRs) (lpKeep XR FPRs 0) (lpBody XR FPRs 0) 2 (stPr at_ bias r c x a l k) (stPr at_ bias r c x a l ((k:Int) + 1)):=by
 have hx0:(decide ((↑k:Int) < (↑l.length:Int))) = true:=decide_eq_true (by omega)
 exact (pC (st':={ s:=[(1,(zv at_)),(2,(zv bias)),(6,(zo 0 0)),(7,(zs markT l)),(8,(zo 1 0)),(17,(zs markT l)),(18,(zv (↑l.length:Int))),(19,(zv (zw ((↑k:Int) + (1:Int)))))],h:=[(zc [(zv 0),(zv 0)]),(zc [(zv r),(zv c),(zv x),(zv a)])],og:=[] }) 12 [(1,bt),(2,.v (V.d (D.ref (List.flatMap (Ty.enc markT) l) (k * 4)))),(3,.v (V.d (D.agg [(zi r3),(zi c3),(zi 2),(zi a3)])))] (cP (@loadRMarkE (l) ([(zc [(zv 0),(zv 0)]),(zc [(zv r),(zv c),(zv x),(zv a)])]) (k) hk (r3) (c3) ((2:Int)) (a3) e) (cP (@iaddrRMarkN (l) (k) hk) (cP hx0 nilE))) (by kernel_rfl)).to (by simp (disch:=omega) [wrapId, *])
theorem prC (at_ bias:Int) (r c x a:Int) (l:List Mark) (k:Nat) (hl:l.length≤100000000) (hk:k < l.length) (r3 c3 x3 a3:Int) (e:markT.nth l k = M4 r3 c3 x3 a3) (q:¬ x3 = 2) (q2:¬ a3≤at_):RdC XR 0 (ntOf XR FPRs) (lpKeep XR FPRs 0) (lpBody XR FPRs 0) 2 (stPr at_ bias r c x a l k) (stPr at_ bias r c x a l ((k:Int) + 1)):=by
 have hx0:(decide ((↑k:Int) < (↑l.length:Int))) = true:=decide_eq_true (by omega)
 have hx1:(x3 != (2:Int)) = true:=by simp [*]
 have hx2:(decide (a3≤at_)) = false:=decide_eq_false (by omega)
 exact (pC (st':={ s:=[(1,(zv at_)),(2,(zv bias)),(6,(zo 0 0)),(7,(zs markT l)),(8,(zo 1 0)),(17,(zs markT l)),(18,(zv (↑l.length:Int))),(19,(zv (zw ((↑k:Int) + (1:Int)))))],h:=[(zc [(zv 0),(zv 0)]),(zc [(zv r),(zv c),(zv x),(zv a)])],og:=[] }) 12 [(1,bt),(2,.v (V.d (D.ref (List.flatMap (Ty.enc markT) l) (k * 4)))),(3,.v (V.d (D.agg [(zi r3),(zi c3),(zi x3),(zi a3)]))),(6,bt),(7,bt),(9,bt),(10,bt),(12,bt),(13,bf)] (cP hx2 (cP hx1 (cP hx1 (cP hx1 (cP hx1 (cP hx1 (cP (@loadRMarkE (l) ([(zc [(zv 0),(zv 0)]),(zc [(zv r),(zv c),(zv x),(zv a)])]) (k) hk (r3) (c3) (x3) (a3) e) (cP (@iaddrRMarkN (l) (k) hk) (cP hx0 nilE))))))))) (by kernel_rfl)).to (by simp (disch:=omega) [wrapId, *])
theorem prX (at_ bias:Int) (r c x a:Int) (l:List Mark):Rd XR 0 (ntOf XR FPRs) (lpBody XR FPRs 0) (stPr at_ bias r c x a l l.length) (.exit 0,stPrx at_ bias r c x a l l.length):=by
 have hx0:(decide ((↑l.length:Int) < (↑l.length:Int))) = false:=decide_eq_false (by omega)
 exact (pR (r:=((Ex.exit 0),{ s:=[(1,(zv at_)),(2,(zv bias)),(6,(zo 0 0)),(7,(zs markT l)),(8,(zo 1 0)),(17,(zs markT l)),(18,(zv (↑l.length:Int))),(19,(zv (↑l.length:Int))),(20,(zb (decide ((↑l.length:Int) < (↑l.length:Int)))))],h:=[(zc [(zv 0),(zv 0)]),(zc [(zv r),(zv c),(zv x),(zv a)])],og:=[] })) 12 [(1,bf)] (cP hx0 nilE) (by kernel_rfl)).to (by simp (disch:=omega) [wrapId, *])
theorem pvA (at_:Int) (r c x a:Int) (l:List Mark) (k:Nat) (hl:l.length≤100000000) (hk:k < l.length) (r3 c3 x3 a3:Int) (e:markT.nth l k = M4 r3 c3 x3 a3) (q:¬ x3 = 2):RdC XR 0 (ntOf XR FPRs) (lpKeep XR FPRs 1) (lpBody XR FPRs 1) 2 (stPv at_ r c x a l k) (stPv at_ r c x a l ((k:Int) + 1)):=by
 have hx0:(decide ((↑k:Int) < (↑l.length:Int))) = true:=decide_eq_true (by omega)
 have hx1:(x3 == (2:Int)) = false:=decide_eq_false (by omega)
 exact (pC (st':={ s:=[(1,(zv at_)),(6,(zo 0 0)),(8,(zo 1 0)),(42,(zs markT l)),(43,(zv (↑l.length:Int))),(44,(zv (zw ((↑k:Int) + (1:Int)))))],h:=[(zc [(zv 0),(zv 0)]),(zc [(zv r),(zv c),(zv x),(zv a)])],og:=[] }) 12 [(1,bt),(2,.v (V.d (D.ref (List.flatMap (Ty.enc markT) l) (k * 4)))),(3,.v (V.d (D.agg [(zi r3),(zi c3),(zi x3),(zi a3)]))),(6,bf),(7,bf),(8,bf),(9,bf),(10,bf)] (cP hx1 (cP hx1 (cP hx1 (cP hx1 (cP hx1 (cP (@loadRMarkE (l) ([(zc [(zv 0),(zv 0)]),(zc [(zv r),(zv c),(zv x),(zv a)])]) (k) hk (r3) (c3) (x3) (a3) e) (cP (@iaddrRMarkN (l) (k) hk) (cP hx0 nilE)))))))) (by kernel_rfl)).to (by simp (disch:=omega) [wrapId, *])
theorem pvB (at_:Int) (r c x a:Int) (l:List Mark) (k:Nat) (hl:l.length≤100000000) (hk:k < l.length) (r3 c3 a3:Int) (e:markT.nth l k = M4 r3 c3 2 a3) (q:¬ a3 = at_):RdC XR 0 (ntOf XR FPRs) (lpKeep XR FPRs 1) (lpBody XR FPRs 1) 2 (stPv at_ r c x a l k) (stPv at_ r c x a l ((k:Int) + 1)):=by
 have hx0:(decide ((↑k:Int) < (↑l.length:Int))) = true:=decide_eq_true (by omega)
 have hx1:(a3 == at_) = false:=decide_eq_false (by omega)
 exact (pC (st':={ s:=[(1,(zv at_)),(6,(zo 0 0)),(8,(zo 1 0)),(42,(zs markT l)),(43,(zv (↑l.length:Int))),(44,(zv (zw ((↑k:Int) + (1:Int)))))],h:=[(zc [(zv 0),(zv 0)]),(zc [(zv r),(zv c),(zv x),(zv a)])],og:=[] }) 12 [(1,bt),(2,.v (V.d (D.ref (List.flatMap (Ty.enc markT) l) (k * 4)))),(3,.v (V.d (D.agg [(zi r3),(zi c3),(zi 2),(zi a3)]))),(13,bf)] (cP hx1 (cP (@loadRMarkE (l) ([(zc [(zv 0),(zv 0)]),(zc [(zv r),(zv c),(zv x),(zv a)])]) (k) hk (r3) (c3) ((2:Int)) (a3) e) (cP (@iaddrRMarkN (l) (k) hk) (cP hx0 nilE)))) (by kernel_rfl)).to (by simp (disch:=omega) [wrapId, *])
theorem pvR (at_:Int) (r c x a:Int) (l:List Mark) (k:Nat) (hl:l.length≤100000000) (hk:k < l.length) (r3 c3:Int) (e:markT.nth l k = M4 r3 c3 2 at_):Rd XR 0 (ntOf XR FPRs) (lpBody XR FPRs 1) (stPv at_ r c x a l k) (.ret,stPvr r3 c3 r c x a at_):=by
 have hx0:(decide ((↑k:Int) < (↑l.length:Int))) = true:=decide_eq_true (by omega)
 have hx1:(at_ == at_) = true:=decide_eq_true (by omega)
 exact pR 12 [(1,bt),(2,.v (V.d (D.ref (List.flatMap (Ty.enc markT) l) (k * 4)))),(3,.v (V.d (D.agg [(zi r3),(zi c3),(zi 2),(zi at_)]))),(13,bt)] (cP hx1 (cP (@loadRMarkE (l) ([(zc [(zv 0),(zv 0)]),(zc [(zv r),(zv c),(zv x),(zv a)])]) (k) hk (r3) (c3) ((2:Int)) (at_) e) (cP (@iaddrRMarkN (l) (k) hk) (cP hx0 nilE)))) (by kernel_rfl)
theorem pvX (at_:Int) (r c x a:Int) (l:List Mark):Rd XR 0 (ntOf XR FPRs) (lpBody XR FPRs 1) (stPv at_ r c x a l l.length) (.exit 2,stPvx at_ r c x a l l.length):=by
 have hx0:(decide ((↑l.length:Int) < (↑l.length:Int))) = false:=decide_eq_false (by omega)
 exact (pR (r:=((Ex.exit 2),{ s:=[(1,(zv at_)),(6,(zo 0 0)),(8,(zo 1 0)),(42,(zs markT l)),(43,(zv (↑l.length:Int))),(44,(zv (↑l.length:Int))),(45,(zb (decide ((↑l.length:Int) < (↑l.length:Int)))))],h:=[(zc [(zv 0),(zv 0)]),(zc [(zv r),(zv c),(zv x),(zv a)])],og:=[] })) 12 [(1,bf)] (cP hx0 nilE) (by kernel_rfl)).to (by simp (disch:=omega) [wrapId, *])
def rOfM (m:Mark):Int:=m.1
def cOfM (m:Mark):Int:=m.2.1
def kOfM (m:Mark):Int:=m.2.2.1
def aOfM (m:Mark):Int:=m.2.2.2.1
theorem m4_eta (m:Mark):m = M4 (rOfM m) (cOfM m) (kOfM m) (aOfM m):=rfl
def shS (at_:Int) (l:List Mark):Nat→Mark × Mark × Bool
 | 0=>(M4 0 0 0 0,M4 0 0 0 0,false)
 | k + 1 =>
  if aOfM (markT.nth l k) > at_ then shS at_ l k
  else if kOfM (markT.nth l k) = 2 then
   if (shS at_ l k).2.2 = true then shS at_ l k
   else if aOfM (markT.nth l k) = at_ then ((shS at_ l k).1,markT.nth l k,true) else shS at_ l k
  else (markT.nth l k,(shS at_ l k).2)
abbrev stPsS (at_ bias:Int) (s:Mark × Mark × Bool) (l:List Mark) (k:Int):St:=stPs at_ bias (rOfM s.1) (cOfM s.1) (kOfM s.1) (aOfM s.1) (rOfM s.2.1) (cOfM s.2.1) (kOfM s.2.1) (aOfM s.2.1) s.2.2 l k
theorem psRound (at_ bias:Int) (l:List Mark) (hl:l.length≤100000000) (k:Nat) (hk:k < l.length):RdC XR 0 (ntOf XR FPSh) (lpKeep XR FPSh 0) (lpBody XR FPSh 0) 3 (stPsS at_ bias (shS at_ l k) l k) (stPsS at_ bias (shS at_ l (k + 1)) l ((k + 1:Nat):Int)):=by
 rw [show ((k + 1:Nat):Int) = (k:Int) + 1 from rfl]
 obtain ⟨r3,c3,x3,a3,e⟩:∃ r3 c3 x3 a3,markT.nth l k = M4 r3 c3 x3 a3:=⟨_,_,_,_,m4_eta _⟩
 generalize hs:shS at_ l k = s
 obtain ⟨o,v,fd⟩:=s
 simp only [shS,hs,e]
 rw [show aOfM (M4 r3 c3 x3 a3) = a3 from rfl,show kOfM (M4 r3 c3 x3 a3) = x3 from rfl]
 by_cases q:a3 > at_
 ·rw [if_pos q]
  exact psA at_ bias _ _ _ _ _ _ _ _ fd l k hl hk r3 c3 x3 a3 e q
 rw [if_neg q]
 by_cases q2:x3 = 2
 ·subst q2
  rw [if_pos rfl]
  cases fd with
  | true=>rw [if_pos rfl];exact psC at_ bias _ _ _ _ _ _ _ _ l k hl hk r3 c3 a3 e q
  | false =>
   rw [if_neg (by simp)]
   by_cases q3:a3 = at_
   ·rw [if_pos q3];exact psB at_ bias _ _ _ _ _ _ _ _ l k hl hk r3 c3 a3 e q q3
   ·rw [if_neg q3];exact psD at_ bias _ _ _ _ _ _ _ _ false l k hl hk r3 c3 a3 e q q3
 ·rw [if_neg q2]
  exact psE at_ bias _ _ _ _ _ _ _ _ fd l k hl hk r3 c3 x3 a3 e q q2
def PsL (at_ bias:Int) (l:List Mark) (r c x a r2 c2 x2 a2:Int) (fd:Bool):Prop:=Lp XR 0 (ntOf XR FPSh) (lpKeep XR FPSh 0) (lpBody XR FPSh 0) 3 FUEL (stPs at_ bias 0 0 0 0 0 0 0 0 false l 0) (.exit 1,stPsx at_ bias r c x a r2 c2 x2 a2 fd l l.length)
theorem psL (at_ bias:Int) (l:List Mark) (hl:l.length≤100000000):PsL at_ bias l (rOfM (shS at_ l l.length).1) (cOfM (shS at_ l l.length).1) (kOfM (shS at_ l l.length).1) (aOfM (shS at_ l l.length).1) (rOfM (shS at_ l l.length).2.1) (cOfM (shS at_ l l.length).2.1) (kOfM (shS at_ l l.length).2.1) (aOfM (shS at_ l l.length).2.1) (shS at_ l l.length).2.2 :=
 Lp.run (fun k=>stPsS at_ bias (shS at_ l k) l k) l.length (by omega) (by kernel_rfl) (fun k hk=>psRound at_ bias l hl k hk) (psX at_ bias _ _ _ _ _ _ _ _ _ l) (by simp)
theorem psLp:∀ (at_ bias:Int) (l:List Mark) (r c x a r2 c2 x2 a2:Int) (fd:Bool) (h:PsL at_ bias l r c x a r2 c2 x2 a2 fd),Lp XR 0 (ntOf XR FPSh) (lpKeep XR FPSh 0) (lpBody XR FPSh 0) 3 FUEL (stPs at_ bias 0 0 0 0 0 0 0 0 false l 0) (.exit 1,stPsx at_ bias r c x a r2 c2 x2 a2 fd l l.length):=fun _ _ _ _ _ _ _ _ _ _ _ _ h=>h
def rsS (at_:Int) (l:List Mark):Nat→Mark
 | 0=>M4 (-1) 0 0 0
 | k + 1=>if kOfM (markT.nth l k) = 2 then rsS at_ l k else if aOfM (markT.nth l k)≤at_ then markT.nth l k else rsS at_ l k
abbrev stPrS (at_ bias:Int) (s:Mark) (l:List Mark) (k:Int):St:=stPr at_ bias (rOfM s) (cOfM s) (kOfM s) (aOfM s) l k
theorem prRound (at_ bias:Int) (l:List Mark) (hl:l.length≤100000000) (k:Nat) (hk:k < l.length):RdC XR 0 (ntOf XR FPRs) (lpKeep XR FPRs 0) (lpBody XR FPRs 0) 2 (stPrS at_ bias (rsS at_ l k) l k) (stPrS at_ bias (rsS at_ l (k + 1)) l ((k + 1:Nat):Int)):=by
 rw [show ((k + 1:Nat):Int) = (k:Int) + 1 from rfl]
 obtain ⟨r3,c3,x3,a3,e⟩:∃ r3 c3 x3 a3,markT.nth l k = M4 r3 c3 x3 a3:=⟨_,_,_,_,m4_eta _⟩
 generalize hs:rsS at_ l k = s
 simp only [rsS,hs,e]
 rw [show aOfM (M4 r3 c3 x3 a3) = a3 from rfl,show kOfM (M4 r3 c3 x3 a3) = x3 from rfl]
 by_cases q:x3 = 2
 ·subst q
  rw [if_pos rfl]
  exact prB at_ bias _ _ _ _ l k hl hk r3 c3 a3 e
 rw [if_neg q]
 by_cases q2:a3≤at_
 ·rw [if_pos q2];exact prA at_ bias _ _ _ _ l k hl hk r3 c3 x3 a3 e q q2
 ·rw [if_neg q2];exact prC at_ bias _ _ _ _ l k hl hk r3 c3 x3 a3 e q q2
def PrL (at_ bias:Int) (l:List Mark) (r c x a:Int):Prop:=Lp XR 0 (ntOf XR FPRs) (lpKeep XR FPRs 0) (lpBody XR FPRs 0) 2 FUEL (stPr at_ bias (-1) 0 0 0 l 0) (.exit 0,stPrx at_ bias r c x a l l.length)
theorem prL (at_ bias:Int) (l:List Mark) (hl:l.length≤100000000):PrL at_ bias l (rOfM (rsS at_ l l.length)) (cOfM (rsS at_ l l.length)) (kOfM (rsS at_ l l.length)) (aOfM (rsS at_ l l.length)) :=
 Lp.run (fun k=>stPrS at_ bias (rsS at_ l k) l k) l.length (by omega) (by kernel_rfl) (fun k hk=>prRound at_ bias l hl k hk) (prX at_ bias _ _ _ _ l) (by simp)
theorem prLp:∀ (at_ bias:Int) (l:List Mark) (r c x a:Int) (h:PrL at_ bias l r c x a),Lp XR 0 (ntOf XR FPRs) (lpKeep XR FPRs 0) (lpBody XR FPRs 0) 2 FUEL (stPr at_ bias (-1) 0 0 0 l 0) (.exit 0,stPrx at_ bias r c x a l l.length):=fun _ _ _ _ _ _ _ h=>h
def vAt (at_:Int) (m:Mark):Bool:=decide (kOfM m = 2) && decide (aOfM m = at_)
theorem pvRound (at_:Int) (r c x a:Int) (l:List Mark) (hl:l.length≤100000000) (k:Nat) (hk:k < l.length) (h:vAt at_ (markT.nth l k) = false):RdC XR 0 (ntOf XR FPRs) (lpKeep XR FPRs 1) (lpBody XR FPRs 1) 2 (stPv at_ r c x a l k) (stPv at_ r c x a l ((k + 1:Nat):Int)):=by
 rw [show ((k + 1:Nat):Int) = (k:Int) + 1 from rfl]
 obtain ⟨r3,c3,x3,a3,e⟩:∃ r3 c3 x3 a3,markT.nth l k = M4 r3 c3 x3 a3:=⟨_,_,_,_,m4_eta _⟩
 rw [e] at h
 unfold vAt at h
 rw [show aOfM (M4 r3 c3 x3 a3) = a3 from rfl,show kOfM (M4 r3 c3 x3 a3) = x3 from rfl] at h
 by_cases q:x3 = 2
 ·subst q
  have h2:¬ a3 = at_:=by intro h2;simp [h2] at h
  exact pvB at_ r c x a l k hl hk r3 c3 a3 e h2
 ·exact pvA at_ r c x a l k hl hk r3 c3 x3 a3 e q
def PvX (at_:Int) (r c x a:Int) (l:List Mark):Prop:=Lp XR 0 (ntOf XR FPRs) (lpKeep XR FPRs 1) (lpBody XR FPRs 1) 2 FUEL (stPv at_ r c x a l 0) (.exit 2,stPvx at_ r c x a l l.length)
def PvR (at_:Int) (r c x a:Int) (l:List Mark) (r3 c3:Int):Prop:=Lp XR 0 (ntOf XR FPRs) (lpKeep XR FPRs 1) (lpBody XR FPRs 1) 2 FUEL (stPv at_ r c x a l 0) (.ret,stPvr r3 c3 r c x a at_)
theorem pvXL (at_:Int) (r c x a:Int) (l:List Mark) (hl:l.length≤100000000) (h:l.any (vAt at_) = false):PvX at_ r c x a l :=
 Lp.run (fun k=>stPv at_ r c x a l k) l.length (by omega) (by kernel_rfl) (fun k hk=>pvRound at_ r c x a l hl k hk (anyNo (e:=markT) (vAt at_) h hk)) (pvX at_ r c x a l) (by simp)
theorem pvRL (at_:Int) (r c x a:Int) (l:List Mark) (hl:l.length≤100000000) (k:Nat) (hk:k < l.length) (h1:vAt at_ (markT.nth l k) = true) (h2:∀ j,j < k→vAt at_ (markT.nth l j) = false):PvR at_ r c x a l (rOfM (markT.nth l k)) (cOfM (markT.nth l k)):=by
 obtain ⟨r3,c3,x3,a3,e⟩:∃ r3 c3 x3 a3,markT.nth l k = M4 r3 c3 x3 a3:=⟨_,_,_,_,m4_eta _⟩
 rw [e] at h1 ⊢
 unfold vAt at h1
 rw [show aOfM (M4 r3 c3 x3 a3) = a3 from rfl,show kOfM (M4 r3 c3 x3 a3) = x3 from rfl,Bool.and_eq_true,decide_eq_true_eq,decide_eq_true_eq] at h1
 obtain ⟨rfl,rfl⟩:=h1
 exact Lp.run (fun k=>stPv a3 r c x a l k) k (by omega) (by kernel_rfl) (fun j hj=>pvRound a3 r c x a l hl j (by omega) (h2 j hj)) (pvR a3 r c x a l k hl hk r3 c3 e) (by simp)
theorem pvXp:∀ (at_:Int) (r c x a:Int) (l:List Mark) (h:PvX at_ r c x a l),Lp XR 0 (ntOf XR FPRs) (lpKeep XR FPRs 1) (lpBody XR FPRs 1) 2 FUEL (stPv at_ r c x a l 0) (.exit 2,stPvx at_ r c x a l l.length):=fun _ _ _ _ _ _ h=>h
theorem pvRp:∀ (at_:Int) (r c x a:Int) (l:List Mark) (r3 c3:Int) (h:PvR at_ r c x a l r3 c3),Lp XR 0 (ntOf XR FPRs) (lpKeep XR FPRs 1) (lpBody XR FPRs 1) 2 FUEL (stPv at_ r c x a l 0) (.ret,stPvr r3 c3 r c x a at_):=fun _ _ _ _ _ _ _ _ h=>h
theorem marksE:∀ (q:List Row) (hs:Points.smallR q) (l:List Mark) (e:Points.allMarks q = l),Ans XR 29 [.d (rowT.slD q)] (.d (markT.slD l)):=fun q hs l e=>by subst e;exact Points.marks q hs
theorem rmarksE:∀ (q:List Row) (hs:Points.smallR q) (l:List Mark) (e:Points.allMarks q = l),Ans XR 17 [.d (rowT.slD q)] (.d (markT.slD l)):=fun q hs l e=>by subst e;exact Points.rmarks q hs
theorem iaddrRowL:∀ (l:List Row) (k:Nat) (hk:k + 1 = l.length) (hl:l.length≤10000000),iaddrV XR 26 (.d (rowT.slD l)) (.d (.int .i64 (IntKind.wrap .i64 ((l.length:Int) - 1)))) = some (.d (.ref (l.flatMap rowT.enc) (k * 7))):=fun l k hk hl=>by
 rw [wrapId ((l.length:Int) - 1) (by omega) (by omega)]
 have e:(.d (.ref (l.flatMap rowT.enc) (k * 7)):V) = .d (.ref (l.flatMap rowT.enc) (((l.length:Int) - 1).toNat * 7)):=by rw [show ((l.length:Int) - 1).toNat = k by omega]
 rw [e]
 exact iaddrSl (te := 37) (z:=7) (by kernel_rfl) (by kernel_rfl) (by omega) (by omega) (flat_len _ 7 (Ty.enc_length rowT) l)
def endOfR (q:List Row):Int:=endR (rowT.nth q (q.length - 1))
theorem loadRowEnd:∀ (l:List Row) (h:List Ob) (k:Nat) (hk:k + 1 = l.length) (en:Int) (e:endOfR l = en),loadV XR h 3 (.d (.ref (l.flatMap rowT.enc) (k * 7 + 2))) = some (.d (.int .i64 en)):=fun l h k hk en e=>by
 have:=Pv.loadCell (X:=XR) (e:=rowT) (t := 3) (l:=l) (h:=h) (k:=k) (o:=2) (z1:=1) (by kernel_rfl) (by kernel_rfl) (by omega) (by decide)
 subst e
 unfold endOfR
 rw [show l.length - 1 = k by omega]
 exact this
abbrev rI (n:Int):V:=.d (.int .i64 n)
abbrev shwR (r c e:Int):V:=.d (.tup [.agg [.int .i64 r,.int .i64 c],.int .i64 e])
abbrev ptR2 (r c:Int):V:=.d (.agg [.int .i64 r,.int .i64 c])
theorem psE1 (q:List Row) (at_ b:Int) (hq:0 < q.length) (hq2:q.length≤10000000) (q0:¬ b = 0) (q1:¬ b = 1):Ans XR FPSh [.d (rowT.slD q),rI at_,rI b] (shwR 0 0 1):=by
 have hx0:((↑q.length:Int) == (0:Int)) = false:=decide_eq_false (by omega)
 have hx1:(b == (0:Int)) = false:=decide_eq_false (by omega)
 have hx2:(!(b == (1:Int))) = true:=by simp [*]
 exact pV 12 [(2,bf),(5,bf),(6,bf),(8,bf),(9,bt),(10,bt),(11,bt)] (cP hx2 (cP hx2 (cP hx2 (cP hx1 (cP hx1 (cP hx1 (cP hx0 nilE))))))) (by kernel_rfl) rfl rfl
theorem psE20 (q:List Row) (at_:Int) (hq:0 < q.length) (hq2:q.length≤10000000) (q0:at_ < 0):Ans XR FPSh [.d (rowT.slD q),rI at_,rI 0] (shwR 0 0 1):=by
 have hx0:((↑q.length:Int) == (0:Int)) = false:=decide_eq_false (by omega)
 have hx1:(decide (at_ < (0:Int))) = true:=decide_eq_true (by omega)
 exact pV 12 [(2,bf),(12,bt),(13,bt),(14,bt),(15,bt),(16,bt),(17,bt),(18,bt),(19,bt),(20,bt),(21,bt)] (cP hx1 (cP hx1 (cP hx1 (cP hx1 (cP hx1 (cP hx1 (cP hx1 (cP hx1 (cP hx1 (cP hx1 (cP hx0 nilE))))))))))) (by kernel_rfl) rfl rfl
theorem psE21 (q:List Row) (at_:Int) (hq:0 < q.length) (hq2:q.length≤10000000) (q0:at_ < 0):Ans XR FPSh [.d (rowT.slD q),rI at_,rI 1] (shwR 0 0 1):=by
 have hx0:((↑q.length:Int) == (0:Int)) = false:=decide_eq_false (by omega)
 have hx1:(decide (at_ < (0:Int))) = true:=decide_eq_true (by omega)
 exact pV 12 [(2,bf),(13,bt),(14,bt),(15,bt),(16,bt),(17,bt),(18,bt),(19,bt),(20,bt),(21,bt),(22,bt)] (cP hx1 (cP hx1 (cP hx1 (cP hx1 (cP hx1 (cP hx1 (cP hx1 (cP hx1 (cP hx1 (cP hx1 (cP hx0 nilE))))))))))) (by kernel_rfl) rfl rfl
theorem psE30 (q:List Row) (at_ en:Int) (k:Nat) (hq:k + 1 = q.length) (hq2:q.length≤10000000) (q0:¬ at_ < 0) (ee:endOfR q = en) (q1:at_ > en):Ans XR FPSh [.d (rowT.slD q),rI at_,rI 0] (shwR 0 0 1):=by
 have hx0:((↑q.length:Int) == (0:Int)) = false:=decide_eq_false (by omega)
 have hx1:(decide (at_ < (0:Int))) = false:=decide_eq_false (by omega)
 have hx2:(decide (at_ > en)) = true:=decide_eq_true (by omega)
 exact pV 12 [(2,bf),(12,bf),(13,bf),(14,bf),(15,bf),(17,bf),(19,bf),(20,.v (V.d (D.ref (List.flatMap (Ty.enc rowT) q) (k * 7)))),(21,bf),(22,bf),(23,.v (zv en)),(24,bf),(26,bf),(27,bt)] (cP hx2 (cP hx1 (cP hx1 (cP (@loadRowEnd (q) ([(zc [(zv 0),(zv 0)])]) (k) hq (en) ee) (cP hx1 (cP hx1 (cP (@iaddrRowL (q) (k) hq hq2) (cP hx1 (cP hx1 (cP hx1 (cP hx1 (cP hx1 (cP hx1 (cP hx0 nilE)))))))))))))) (by kernel_rfl) rfl rfl
theorem psE31 (q:List Row) (at_ en:Int) (k:Nat) (hq:k + 1 = q.length) (hq2:q.length≤10000000) (q0:¬ at_ < 0) (ee:endOfR q = en) (q1:at_ > en):Ans XR FPSh [.d (rowT.slD q),rI at_,rI 1] (shwR 0 0 1):=by
 have hx0:((↑q.length:Int) == (0:Int)) = false:=decide_eq_false (by omega)
 have hx1:(decide (at_ < (0:Int))) = false:=decide_eq_false (by omega)
 have hx2:(decide (at_ > en)) = true:=decide_eq_true (by omega)
 exact pV 12 [(2,bf),(13,bf),(14,bf),(15,bf),(16,bf),(18,bf),(20,bf),(21,.v (V.d (D.ref (List.flatMap (Ty.enc rowT) q) (k * 7)))),(22,bf),(23,bf),(24,.v (zv en)),(25,bf),(27,bf),(28,bt)] (cP hx2 (cP hx1 (cP hx1 (cP (@loadRowEnd (q) ([(zc [(zv 0),(zv 0)])]) (k) hq (en) ee) (cP hx1 (cP hx1 (cP (@iaddrRowL (q) (k) hq hq2) (cP hx1 (cP hx1 (cP hx1 (cP hx1 (cP hx1 (cP hx1 (cP hx0 nilE)))))))))))))) (by kernel_rfl) rfl rfl
theorem psV1 (q:List Row) (at_ en:Int) (k:Nat) (hq:k + 1 = q.length) (hq2:q.length≤10000000) (q0:¬ at_ < 0) (ee:endOfR q = en) (q1:¬ at_ > en) (hs:Points.smallR q) (l:List Mark) (e:Points.allMarks q = l) (r c x a r2 c2 x2 a2:Int) (fd:Bool) (h:PsL at_ 1 l r c x a r2 c2 x2 a2 fd):Ans XR FPSh [.d (rowT.slD q),rI at_,rI 1] (shwR r c 0):=by
 have hx0:((↑q.length:Int) == (0:Int)) = false:=decide_eq_false (by omega)
 have hx1:(decide (at_ < (0:Int))) = false:=decide_eq_false (by omega)
 have hx2:(decide (at_ > en)) = false:=decide_eq_false (by omega)
 exact pV 12 [(2,bf),(13,bf),(14,bf),(15,bf),(16,bf),(18,bf),(20,bf),(21,.v (V.d (D.ref (List.flatMap (Ty.enc rowT) q) (k * 7)))),(22,bf),(23,bf),(24,.v (zv en)),(25,bf),(27,bf),(28,bf),(29,.v (V.d (Ty.slD markT l))),(31,.l (Ex.exit 1) (stPsx at_ (1:Int) r c x a r2 c2 x2 a2 fd l (↑l.length:Int)))] (cE (@psLp (at_) ((1:Int)) (l) (r) (c) (x) (a) (r2) (c2) (x2) (a2) (fd) h) (cC (@marksE (q) hs (l) e) (cP hx2 (cP hx1 (cP hx1 (cP (@loadRowEnd (q) ([(zc [(zv 0),(zv 0)])]) (k) hq (en) ee) (cP hx1 (cP hx1 (cP (@iaddrRowL (q) (k) hq hq2) (cP hx1 (cP hx1 (cP hx1 (cP hx1 (cP hx1 (cP hx1 (cP hx0 nilE)))))))))))))))) (by kernel_rfl) rfl rfl
theorem psV0a (q:List Row) (at_ en:Int) (k:Nat) (hq:k + 1 = q.length) (hq2:q.length≤10000000) (q0:¬ at_ < 0) (ee:endOfR q = en) (q1:¬ at_ > en) (hs:Points.smallR q) (l:List Mark) (e:Points.allMarks q = l) (r c x a r2 c2 x2 a2:Int) (h:PsL at_ 0 l r c x a r2 c2 x2 a2 true) (ha:a = at_):Ans XR FPSh [.d (rowT.slD q),rI at_,rI 0] (shwR r2 c2 0):=by
 have hx0:((↑q.length:Int) == (0:Int)) = false:=decide_eq_false (by omega)
 have hx1:(decide (at_ < (0:Int))) = false:=decide_eq_false (by omega)
 have hx2:(decide (at_ > en)) = false:=decide_eq_false (by omega)
 have hx3:(a == at_) = true:=decide_eq_true (by omega)
 exact pV 12 [(2,bf),(12,bf),(13,bf),(14,bf),(15,bf),(17,bf),(19,bf),(20,.v (V.d (D.ref (List.flatMap (Ty.enc rowT) q) (k * 7)))),(21,bf),(22,bf),(23,.v (zv en)),(24,bf),(26,bf),(27,bf),(28,.v (V.d (Ty.slD markT l))),(30,.l (Ex.exit 1) (stPsx at_ (0:Int) r c x a r2 c2 x2 a2 true l (↑l.length:Int))),(41,bt)] (cP hx3 (cE (@psLp (at_) ((0:Int)) (l) (r) (c) (x) (a) (r2) (c2) (x2) (a2) (true) h) (cC (@marksE (q) hs (l) e) (cP hx2 (cP hx1 (cP hx1 (cP (@loadRowEnd (q) ([(zc [(zv 0),(zv 0)])]) (k) hq (en) ee) (cP hx1 (cP hx1 (cP (@iaddrRowL (q) (k) hq hq2) (cP hx1 (cP hx1 (cP hx1 (cP hx1 (cP hx1 (cP hx1 (cP hx0 nilE))))))))))))))))) (by kernel_rfl) rfl rfl
theorem psV0b (q:List Row) (at_ en:Int) (k:Nat) (hq:k + 1 = q.length) (hq2:q.length≤10000000) (q0:¬ at_ < 0) (ee:endOfR q = en) (q1:¬ at_ > en) (hs:Points.smallR q) (l:List Mark) (e:Points.allMarks q = l) (r c x a r2 c2 x2 a2:Int) (h:PsL at_ 0 l r c x a r2 c2 x2 a2 true) (ha:¬ a = at_):Ans XR FPSh [.d (rowT.slD q),rI at_,rI 0] (shwR r c 0):=by
 have hx0:((↑q.length:Int) == (0:Int)) = false:=decide_eq_false (by omega)
 have hx1:(decide (at_ < (0:Int))) = false:=decide_eq_false (by omega)
 have hx2:(decide (at_ > en)) = false:=decide_eq_false (by omega)
 have hx3:(a == at_) = false:=decide_eq_false (by omega)
 exact pV 12 [(2,bf),(12,bf),(13,bf),(14,bf),(15,bf),(17,bf),(19,bf),(20,.v (V.d (D.ref (List.flatMap (Ty.enc rowT) q) (k * 7)))),(21,bf),(22,bf),(23,.v (zv en)),(24,bf),(26,bf),(27,bf),(28,.v (V.d (Ty.slD markT l))),(30,.l (Ex.exit 1) (stPsx at_ (0:Int) r c x a r2 c2 x2 a2 true l (↑l.length:Int))),(41,bf)] (cP hx3 (cE (@psLp (at_) ((0:Int)) (l) (r) (c) (x) (a) (r2) (c2) (x2) (a2) (true) h) (cC (@marksE (q) hs (l) e) (cP hx2 (cP hx1 (cP hx1 (cP (@loadRowEnd (q) ([(zc [(zv 0),(zv 0)])]) (k) hq (en) ee) (cP hx1 (cP hx1 (cP (@iaddrRowL (q) (k) hq hq2) (cP hx1 (cP hx1 (cP hx1 (cP hx1 (cP hx1 (cP hx1 (cP hx0 nilE))))))))))))))))) (by kernel_rfl) rfl rfl
theorem psV0c (q:List Row) (at_ en:Int) (k:Nat) (hq:k + 1 = q.length) (hq2:q.length≤10000000) (q0:¬ at_ < 0) (ee:endOfR q = en) (q1:¬ at_ > en) (hs:Points.smallR q) (l:List Mark) (e:Points.allMarks q = l) (r c x a r2 c2 x2 a2:Int) (h:PsL at_ 0 l r c x a r2 c2 x2 a2 false):Ans XR FPSh [.d (rowT.slD q),rI at_,rI 0] (shwR r c 0):=by
 have hx0:((↑q.length:Int) == (0:Int)) = false:=decide_eq_false (by omega)
 have hx1:(decide (at_ < (0:Int))) = false:=decide_eq_false (by omega)
 have hx2:(decide (at_ > en)) = false:=decide_eq_false (by omega)
 exact pV 12 [(2,bf),(12,bf),(13,bf),(14,bf),(15,bf),(17,bf),(19,bf),(20,.v (V.d (D.ref (List.flatMap (Ty.enc rowT) q) (k * 7)))),(21,bf),(22,bf),(23,.v (zv en)),(24,bf),(26,bf),(27,bf),(28,.v (V.d (Ty.slD markT l))),(30,.l (Ex.exit 1) (stPsx at_ (0:Int) r c x a r2 c2 x2 a2 false l (↑l.length:Int)))] (cE (@psLp (at_) ((0:Int)) (l) (r) (c) (x) (a) (r2) (c2) (x2) (a2) (false) h) (cC (@marksE (q) hs (l) e) (cP hx2 (cP hx1 (cP hx1 (cP (@loadRowEnd (q) ([(zc [(zv 0),(zv 0)])]) (k) hq (en) ee) (cP hx1 (cP hx1 (cP (@iaddrRowL (q) (k) hq hq2) (cP hx1 (cP hx1 (cP hx1 (cP hx1 (cP hx1 (cP hx1 (cP hx0 nilE)))))))))))))))) (by kernel_rfl) rfl rfl
theorem prV1 (q:List Row) (at_:Int) (hs:Points.smallR q) (l:List Mark) (e:Points.allMarks q = l) (r c x a:Int) (h:PrL at_ 1 l r c x a):Ans XR FPRs [.d (rowT.slD q),rI at_,rI 1] (ptR2 r c):=by
 exact pV 12 [(0,.v (V.d (Ty.slD markT l))),(2,.l (Ex.exit 0) (stPrx at_ (1:Int) r c x a l (↑l.length:Int)))] (cE (@prLp (at_) ((1:Int)) (l) (r) (c) (x) (a) h) (cC (@rmarksE (q) hs (l) e) nilE)) (by kernel_rfl) rfl rfl
theorem prV0 (q:List Row) (at_:Int) (hs:Points.smallR q) (l:List Mark) (e:Points.allMarks q = l) (r c x a:Int) (h:PrL at_ 0 l r c x a) (ha:¬ a = at_):Ans XR FPRs [.d (rowT.slD q),rI at_,rI 0] (ptR2 r c):=by
 have hx0:(a == at_) = false:=decide_eq_false (by omega)
 exact pV 12 [(0,.v (V.d (Ty.slD markT l))),(2,.l (Ex.exit 0) (stPrx at_ (0:Int) r c x a l (↑l.length:Int))),(11,bf)] (cP hx0 (cE (@prLp (at_) ((0:Int)) (l) (r) (c) (x) (a) h) (cC (@rmarksE (q) hs (l) e) nilE))) (by kernel_rfl) rfl rfl
theorem prV0x (q:List Row) (at_:Int) (hs:Points.smallR q) (l:List Mark) (e:Points.allMarks q = l) (r c x a:Int) (h:PrL at_ 0 l r c x a) (ha:a = at_) (h2:PvX at_ r c x a l):Ans XR FPRs [.d (rowT.slD q),rI at_,rI 0] (ptR2 r c):=by
 have hx0:(a == at_) = true:=decide_eq_true (by omega)
 exact pV 12 [(0,.v (V.d (Ty.slD markT l))),(2,.l (Ex.exit 0) (stPrx at_ (0:Int) r c x a l (↑l.length:Int))),(11,bt),(13,.l (Ex.exit 2) (stPvx at_ r c x a l (↑l.length:Int)))] (cE (@pvXp (at_) (r) (c) (x) (a) (l) h2) (cP hx0 (cE (@prLp (at_) ((0:Int)) (l) (r) (c) (x) (a) h) (cC (@rmarksE (q) hs (l) e) nilE)))) (by kernel_rfl) rfl rfl
theorem prV0r (q:List Row) (at_:Int) (hs:Points.smallR q) (l:List Mark) (e:Points.allMarks q = l) (r c x a:Int) (h:PrL at_ 0 l r c x a) (ha:a = at_) (r3 c3:Int) (h2:PvR at_ r c x a l r3 c3):Ans XR FPRs [.d (rowT.slD q),rI at_,rI 0] (ptR2 r3 c3):=by
 have hx0:(a == at_) = true:=decide_eq_true (by omega)
 exact pV 12 [(0,.v (V.d (Ty.slD markT l))),(2,.l (Ex.exit 0) (stPrx at_ (0:Int) r c x a l (↑l.length:Int))),(11,bt),(13,.l (Ex.ret) (stPvr r3 c3 r c x a at_))] (cE (@pvRp (at_) (r) (c) (x) (a) (l) (r3) (c3) h2) (cP hx0 (cE (@prLp (at_) ((0:Int)) (l) (r) (c) (x) (a) h) (cC (@rmarksE (q) hs (l) e) nilE)))) (by kernel_rfl) rfl rfl
end Go.Proofs.Ytaobccodpdmieaa.Lay
namespace Go.Proofs.Ytaobccodpdmieaa.Points
open Go Pv G
abbrev tt:V:=.d (.bool true)
def one_T:Prop:=Ans X0 11 [] tt
theorem one:one_T:=by
 exact pV 12 [] nilE (by kernel_rfl) rfl rfl
end Go.Proofs.Ytaobccodpdmieaa.Points
namespace Go.Proofs.Ytaobccodpdmieaa.Lay
open Go Pv G Utf
def ptM (m:Mark):Int × Int:=(rOfM m,cOfM m)
def showP (at_ b:Int) (l:List Mark):Int × Int:=if b = 0∧(shS at_ l l.length).2.2 = true∧aOfM (shS at_ l l.length).1 = at_ then ptM (shS at_ l l.length).2.1 else ptM (shS at_ l l.length).1
def rshowP (at_ b:Int) (l:List Mark):Int × Int:=if b = 0∧aOfM (rsS at_ l l.length) = at_ then (match l.find? (vAt at_) with | some m=>ptM m | none=>ptM (rsS at_ l l.length)) else ptM (rsS at_ l l.length)
theorem show0:∀ (q:List Row) (at_ en:Int) (k:Nat) (hq:k + 1 = q.length) (hq2:q.length≤10000000) (q0:¬ at_ < 0) (ee:endOfR q = en) (q1:¬ at_ > en) (hs:Points.smallR q) (l:List Mark) (el:Points.allMarks q = l) (hl:l.length≤100000000) (r c:Int) (e:showP at_ 0 l = (r,c)),Ans XR FPSh [.d (rowT.slD q),rI at_,rI 0] (shwR r c 0):=fun q at_ en k hq hq2 q0 ee q1 hs l el hl r c e=>by
 have hL:=psL at_ 0 l hl
 unfold showP at e
 generalize shS at_ l l.length = s at e hL
 obtain ⟨o,v,fd⟩:=s
 cases fd with
 | true =>
  by_cases ha:aOfM o = at_
  ·rw [if_pos ⟨rfl,rfl,ha⟩] at e
   injection e with e1 e2
   subst e1;subst e2
   exact psV0a q at_ en k hq hq2 q0 ee q1 hs l el _ _ _ _ _ _ _ _ hL ha
  ·rw [if_neg (fun h=>ha h.2.2)] at e
   injection e with e1 e2
   subst e1;subst e2
   exact psV0b q at_ en k hq hq2 q0 ee q1 hs l el _ _ _ _ _ _ _ _ hL ha
 | false =>
  rw [if_neg (fun h=>by cases h.2.1)] at e
  injection e with e1 e2
  subst e1;subst e2
  exact psV0c q at_ en k hq hq2 q0 ee q1 hs l el _ _ _ _ _ _ _ _ hL
theorem show1:∀ (q:List Row) (at_ en:Int) (k:Nat) (hq:k + 1 = q.length) (hq2:q.length≤10000000) (q0:¬ at_ < 0) (ee:endOfR q = en) (q1:¬ at_ > en) (hs:Points.smallR q) (l:List Mark) (el:Points.allMarks q = l) (hl:l.length≤100000000) (r c:Int) (e:showP at_ 1 l = (r,c)),Ans XR FPSh [.d (rowT.slD q),rI at_,rI 1] (shwR r c 0):=fun q at_ en k hq hq2 q0 ee q1 hs l el hl r c e=>by
 have hL:=psL at_ 1 l hl
 unfold showP at e
 rw [if_neg (fun h=>absurd h.1 (by decide))] at e
 injection e with e1 e2
 subst e1;subst e2
 exact psV1 q at_ en k hq hq2 q0 ee q1 hs l el _ _ _ _ _ _ _ _ _ hL
theorem rshow0:∀ (q:List Row) (at_:Int) (hs:Points.smallR q) (l:List Mark) (el:Points.allMarks q = l) (hl:l.length≤100000000) (r c:Int) (e:rshowP at_ 0 l = (r,c)),Ans XR FPRs [.d (rowT.slD q),rI at_,rI 0] (ptR2 r c):=fun q at_ hs l el hl r c e=>by
 have hL:=prL at_ 0 l hl
 unfold rshowP at e
 generalize rsS at_ l l.length = o at e hL
 by_cases ha:aOfM o = at_
 ·rw [if_pos ⟨rfl,ha⟩] at e
  cases hv:l.any (vAt at_) with
  | false =>
   have hn:l.find? (vAt at_) = none:=by
    rw [List.find?_eq_none]
    intro x hx h
    rw [List.any_eq_false] at hv
    exact hv x hx h
   rw [hn] at e
   injection e with e1 e2
   subst e1;subst e2
   exact prV0x q at_ hs l el _ _ _ _ hL ha (pvXL at_ _ _ _ _ l hl hv)
  | true =>
   obtain ⟨k,hk,h1,h2⟩:=anyYes (e:=markT) (vAt at_) hv
   have hn:l.find? (vAt at_) = some (markT.nth l k):=by
    rw [List.find?_eq_some_iff_getElem]
    refine ⟨h1,k,hk,(nth_get (e:=markT) hk).symm,fun j hj=>?_⟩
    have:=h2 j hj
    rw [nth_get (e:=markT) (by omega)] at this
    rw [this];rfl
   rw [hn] at e
   injection e with e1 e2
   subst e1;subst e2
   exact prV0r q at_ hs l el _ _ _ _ hL ha _ _ (pvRL at_ _ _ _ _ l hl k hk h1 h2)
 ·rw [if_neg (fun h=>ha h.2)] at e
  injection e with e1 e2
  subst e1;subst e2
  exact prV0 q at_ hs l el _ _ _ _ hL ha
theorem rshow1:∀ (q:List Row) (at_:Int) (hs:Points.smallR q) (l:List Mark) (el:Points.allMarks q = l) (hl:l.length≤100000000) (r c:Int) (e:rshowP at_ 1 l = (r,c)),Ans XR FPRs [.d (rowT.slD q),rI at_,rI 1] (ptR2 r c):=fun q at_ hs l el hl r c e=>by
 have hL:=prL at_ 1 l hl
 unfold rshowP at e
 rw [if_neg (fun h=>absurd h.1 (by decide))] at e
 injection e with e1 e2
 subst e1;subst e2
 exact prV1 q at_ hs l el _ _ _ _ hL
theorem ptEq:∀ (a b:Int),binV XR .eql 31 (.d (.agg [.int .i64 a,.int .i64 b])) (.d (.agg [.int .i64 a,.int .i64 b])) = some (.d (.bool true)):=fun a b=>by
 have e:binV XR .eql 31 (.d (.agg [.int .i64 a,.int .i64 b])) (.d (.agg [.int .i64 a,.int .i64 b])) = some (.d (.bool ((a == a) && ((b == b) && true)))):=by kernel_rfl
 rw [e];simp
def oneR_T:Prop:=Ans XR 11 [] (.d (.bool true))
theorem oneR:oneR_T:=Points.one
abbrev FSw:Nat := 3
abbrev lawT:V:=.d (.bool true)
theorem swN (s:Str) (il:List Inl) (fl:List Span) (tab wd at_ b:Int) (e:smallB s il fl tab wd 120 = false):Ans XR FSw [.d (.agg (docL s il fl tab wd)),rI at_,rI b] lawT:=by
 exact pV 12 [(1,.v (V.d (D.tup [(D.sl [] 0),(D.bool false)]))),(3,.v (zb true))] (cC (@oneR ) (cC (@madeN (s) (il) (fl) (tab) (wd) e) nilE)) (by kernel_rfl) rfl rfl
theorem swE1 (s:Str) (il:List Inl) (fl:List Span) (tab wd at_ b:Int) (e:smallB s il fl tab wd 120 = true) (q:List Row) (eq:docRows s il fl tab wd = q) (hq:0 < q.length) (hq2:q.length≤10000000) (q0:¬ b = 0) (q1:¬ b = 1):Ans XR FSw [.d (.agg (docL s il fl tab wd)),rI at_,rI b] lawT:=by
 have hx0:(b != (0:Int)) = true:=by simp [*]
 have hx1:(b != (1:Int)) = true:=by simp [*]
 exact pV 12 [(1,.v (V.d (D.tup [(Ty.slD rowT q),(D.bool true)]))),(3,.v (shwR (0:Int) (0:Int) (1:Int))),(5,bt),(6,bt),(8,bt),(9,bt),(10,bt),(11,bt),(28,.v (zb true)),(31,.v (zb true))] (cC (@oneR ) (cP (@ptEq ((0:Int)) ((0:Int))) (cP hx1 (cP hx1 (cP hx1 (cP hx0 (cP hx0 (cP hx0 (cC (@psE1 (q) (at_) (b) hq hq2 q0 q1) (cC (@madeY (s) (il) (fl) (tab) (wd) e (q) eq) nilE)))))))))) (by kernel_rfl) rfl rfl
theorem swE20 (s:Str) (il:List Inl) (fl:List Span) (tab wd at_:Int) (e:smallB s il fl tab wd 120 = true) (q:List Row) (eq:docRows s il fl tab wd = q) (hq:0 < q.length) (hq2:q.length≤10000000) (q0:at_ < 0):Ans XR FSw [.d (.agg (docL s il fl tab wd)),rI at_,rI 0] lawT:=by
 have hx0:(decide (at_ < (0:Int))) = true:=decide_eq_true (by omega)
 exact pV 12 [(1,.v (V.d (D.tup [(Ty.slD rowT q),(D.bool true)]))),(3,.v (shwR (0:Int) (0:Int) (1:Int))),(12,bt),(13,bt),(14,bt),(15,bt),(16,bt),(17,bt),(18,bt),(19,bt),(20,bt),(21,bt),(28,.v (zb true)),(31,.v (zb true))] (cC (@oneR ) (cP (@ptEq ((0:Int)) ((0:Int))) (cP hx0 (cP hx0 (cP hx0 (cP hx0 (cP hx0 (cP hx0 (cP hx0 (cP hx0 (cP hx0 (cP hx0 (cC (@psE20 (q) (at_) hq hq2 q0) (cC (@madeY (s) (il) (fl) (tab) (wd) e (q) eq) nilE)))))))))))))) (by kernel_rfl) rfl rfl
theorem swE21 (s:Str) (il:List Inl) (fl:List Span) (tab wd at_:Int) (e:smallB s il fl tab wd 120 = true) (q:List Row) (eq:docRows s il fl tab wd = q) (hq:0 < q.length) (hq2:q.length≤10000000) (q0:at_ < 0):Ans XR FSw [.d (.agg (docL s il fl tab wd)),rI at_,rI 1] lawT:=by
 have hx0:(decide (at_ < (0:Int))) = true:=decide_eq_true (by omega)
 exact pV 12 [(1,.v (V.d (D.tup [(Ty.slD rowT q),(D.bool true)]))),(3,.v (shwR (0:Int) (0:Int) (1:Int))),(13,bt),(14,bt),(15,bt),(16,bt),(17,bt),(18,bt),(19,bt),(20,bt),(21,bt),(22,bt),(29,.v (zb true)),(32,.v (zb true))] (cC (@oneR ) (cP (@ptEq ((0:Int)) ((0:Int))) (cP hx0 (cP hx0 (cP hx0 (cP hx0 (cP hx0 (cP hx0 (cP hx0 (cP hx0 (cP hx0 (cP hx0 (cC (@psE21 (q) (at_) hq hq2 q0) (cC (@madeY (s) (il) (fl) (tab) (wd) e (q) eq) nilE)))))))))))))) (by kernel_rfl) rfl rfl
theorem swE30 (s:Str) (il:List Inl) (fl:List Span) (tab wd at_ en:Int) (e:smallB s il fl tab wd 120 = true) (q:List Row) (eq:docRows s il fl tab wd = q) (k:Nat) (hq:k + 1 = q.length) (hq2:q.length≤10000000) (q0:¬ at_ < 0) (ee:endOfR q = en) (q1:at_ > en):Ans XR FSw [.d (.agg (docL s il fl tab wd)),rI at_,rI 0] lawT:=by
 have hx0:(decide (at_ < (0:Int))) = false:=decide_eq_false (by omega)
 have hx1:(decide (at_ > en)) = true:=decide_eq_true (by omega)
 exact pV 12 [(1,.v (V.d (D.tup [(Ty.slD rowT q),(D.bool true)]))),(3,.v (shwR (0:Int) (0:Int) (1:Int))),(12,bf),(13,bf),(14,bf),(15,bf),(17,bf),(19,bf),(20,.v (V.d (D.ref (List.flatMap (Ty.enc rowT) q) (k * 7)))),(21,bf),(22,bf),(23,.v (zv en)),(24,bf),(26,bf),(27,bt),(33,.v (zb true)),(36,.v (zb true))] (cC (@oneR ) (cP (@ptEq ((0:Int)) ((0:Int))) (cP hx1 (cP hx0 (cP hx0 (cP (@loadRowEnd (q) ([(zc [(V.d (D.str s)),(zs inlT il),(zs spanT fl),(zv tab),(zv wd)]),(zc [(zv 0),(zv 0)])]) (k) hq (en) ee) (cP hx0 (cP hx0 (cP (@iaddrRowL (q) (k) hq hq2) (cP hx0 (cP hx0 (cP hx0 (cP hx0 (cP hx0 (cP hx0 (cC (@psE30 (q) (at_) (en) (k) hq hq2 q0 ee q1) (cC (@madeY (s) (il) (fl) (tab) (wd) e (q) eq) nilE))))))))))))))))) (by kernel_rfl) rfl rfl
theorem swE31 (s:Str) (il:List Inl) (fl:List Span) (tab wd at_ en:Int) (e:smallB s il fl tab wd 120 = true) (q:List Row) (eq:docRows s il fl tab wd = q) (k:Nat) (hq:k + 1 = q.length) (hq2:q.length≤10000000) (q0:¬ at_ < 0) (ee:endOfR q = en) (q1:at_ > en):Ans XR FSw [.d (.agg (docL s il fl tab wd)),rI at_,rI 1] lawT:=by
 have hx0:(decide (at_ < (0:Int))) = false:=decide_eq_false (by omega)
 have hx1:(decide (at_ > en)) = true:=decide_eq_true (by omega)
 exact pV 12 [(1,.v (V.d (D.tup [(Ty.slD rowT q),(D.bool true)]))),(3,.v (shwR (0:Int) (0:Int) (1:Int))),(13,bf),(14,bf),(15,bf),(16,bf),(18,bf),(20,bf),(21,.v (V.d (D.ref (List.flatMap (Ty.enc rowT) q) (k * 7)))),(22,bf),(23,bf),(24,.v (zv en)),(25,bf),(27,bf),(28,bt),(34,.v (zb true)),(37,.v (zb true))] (cC (@oneR ) (cP (@ptEq ((0:Int)) ((0:Int))) (cP hx1 (cP hx0 (cP hx0 (cP (@loadRowEnd (q) ([(zc [(V.d (D.str s)),(zs inlT il),(zs spanT fl),(zv tab),(zv wd)]),(zc [(zv 0),(zv 0)])]) (k) hq (en) ee) (cP hx0 (cP hx0 (cP (@iaddrRowL (q) (k) hq hq2) (cP hx0 (cP hx0 (cP hx0 (cP hx0 (cP hx0 (cP hx0 (cC (@psE31 (q) (at_) (en) (k) hq hq2 q0 ee q1) (cC (@madeY (s) (il) (fl) (tab) (wd) e (q) eq) nilE))))))))))))))))) (by kernel_rfl) rfl rfl
theorem sw0 (s:Str) (il:List Inl) (fl:List Span) (tab wd at_ en:Int) (e:smallB s il fl tab wd 120 = true) (q:List Row) (eq:docRows s il fl tab wd = q) (k:Nat) (hq:k + 1 = q.length) (hq2:q.length≤10000000) (q0:¬ at_ < 0) (ee:endOfR q = en) (q1:¬ at_ > en) (hs:Points.smallR q) (l:List Mark) (el:Points.allMarks q = l) (hl:l.length≤100000000) (r c:Int) (e1:showP at_ 0 l = (r,c)) (e2:rshowP at_ 0 l = (r,c)):Ans XR FSw [.d (.agg (docL s il fl tab wd)),rI at_,rI 0] lawT:=by
 have hx0:(decide (at_ < (0:Int))) = false:=decide_eq_false (by omega)
 have hx1:(decide (at_ > en)) = false:=decide_eq_false (by omega)
 exact pV 12 [(1,.v (V.d (D.tup [(Ty.slD rowT q),(D.bool true)]))),(3,.v (shwR r c (0:Int))),(12,bf),(13,bf),(14,bf),(15,bf),(17,bf),(19,bf),(20,.v (V.d (D.ref (List.flatMap (Ty.enc rowT) q) (k * 7)))),(21,bf),(22,bf),(23,.v (zv en)),(24,bf),(26,bf),(27,bf),(35,.v (ptR2 r c)),(37,.v (zb true)),(40,.v (zb true))] (cC (@oneR ) (cP (@ptEq (r) (c)) (cC (@rshow0 (q) (at_) hs (l) el hl (r) (c) e2) (cP hx1 (cP hx0 (cP hx0 (cP (@loadRowEnd (q) ([(zc [(V.d (D.str s)),(zs inlT il),(zs spanT fl),(zv tab),(zv wd)]),(zc [(zv r),(zv c)])]) (k) hq (en) ee) (cP hx0 (cP hx0 (cP (@iaddrRowL (q) (k) hq hq2) (cP hx0 (cP hx0 (cP hx0 (cP hx0 (cP hx0 (cP hx0 (cC (@show0 (q) (at_) (en) (k) hq hq2 q0 ee q1 hs (l) el hl (r) (c) e1) (cC (@madeY (s) (il) (fl) (tab) (wd) e (q) eq) nilE)))))))))))))))))) (by kernel_rfl) rfl rfl
theorem sw1 (s:Str) (il:List Inl) (fl:List Span) (tab wd at_ en:Int) (e:smallB s il fl tab wd 120 = true) (q:List Row) (eq:docRows s il fl tab wd = q) (k:Nat) (hq:k + 1 = q.length) (hq2:q.length≤10000000) (q0:¬ at_ < 0) (ee:endOfR q = en) (q1:¬ at_ > en) (hs:Points.smallR q) (l:List Mark) (el:Points.allMarks q = l) (hl:l.length≤100000000) (r c:Int) (e1:showP at_ 1 l = (r,c)) (e2:rshowP at_ 1 l = (r,c)):Ans XR FSw [.d (.agg (docL s il fl tab wd)),rI at_,rI 1] lawT:=by
 have hx0:(decide (at_ < (0:Int))) = false:=decide_eq_false (by omega)
 have hx1:(decide (at_ > en)) = false:=decide_eq_false (by omega)
 exact pV 12 [(1,.v (V.d (D.tup [(Ty.slD rowT q),(D.bool true)]))),(3,.v (shwR r c (0:Int))),(13,bf),(14,bf),(15,bf),(16,bf),(18,bf),(20,bf),(21,.v (V.d (D.ref (List.flatMap (Ty.enc rowT) q) (k * 7)))),(22,bf),(23,bf),(24,.v (zv en)),(25,bf),(27,bf),(28,bf),(36,.v (ptR2 r c)),(38,.v (zb true)),(41,.v (zb true))] (cC (@oneR ) (cP (@ptEq (r) (c)) (cC (@rshow1 (q) (at_) hs (l) el hl (r) (c) e2) (cP hx1 (cP hx0 (cP hx0 (cP (@loadRowEnd (q) ([(zc [(V.d (D.str s)),(zs inlT il),(zs spanT fl),(zv tab),(zv wd)]),(zc [(zv r),(zv c)])]) (k) hq (en) ee) (cP hx0 (cP hx0 (cP (@iaddrRowL (q) (k) hq hq2) (cP hx0 (cP hx0 (cP hx0 (cP hx0 (cP hx0 (cP hx0 (cC (@show1 (q) (at_) (en) (k) hq hq2 q0 ee q1 hs (l) el hl (r) (c) e1) (cC (@madeY (s) (il) (fl) (tab) (wd) e (q) eq) nilE)))))))))))))))))) (by kernel_rfl) rfl rfl
def nvLe (at_:Int) (m:Mark):Bool:=decide (¬ kOfM m = 2) && decide (aOfM m≤at_)
def orgM (at_:Int) (l:List Mark):Option Mark:=(l.filter (nvLe at_)).getLast?
theorem rsS_org (at_:Int) (l:List Mark):∀ k,k≤l.length→rsS at_ l k = (orgM at_ (l.take k)).getD (M4 (-1) 0 0 0)
 | 0,_=>rfl
 | k + 1,h=>by
  have ih:=rsS_org at_ l k (by omega)
  unfold orgM at ih ⊢
  rw [take_succ_nth (e:=markT) (show k < l.length by omega),List.filter_append]
  simp only [rsS]
  by_cases q:kOfM (markT.nth l k) = 2
  ·rw [if_pos q,ih]
   have:nvLe at_ (markT.nth l k) = false:=by unfold nvLe;simp [q]
   simp [List.filter_cons,this]
  ·rw [if_neg q]
   by_cases q2:aOfM (markT.nth l k)≤at_
   ·rw [if_pos q2]
    have:nvLe at_ (markT.nth l k) = true:=by unfold nvLe;simp [q,q2]
    simp [List.filter_cons,this]
   ·rw [if_neg q2,ih]
    have:nvLe at_ (markT.nth l k) = false:=by unfold nvLe;simp [q2]
    simp [List.filter_cons,this]
theorem shS_org (at_:Int) (l:List Mark):∀ k,k≤l.length→(shS at_ l k).1 = (orgM at_ (l.take k)).getD (M4 0 0 0 0)
 | 0,_=>rfl
 | k + 1,h=>by
  have ih:=shS_org at_ l k (by omega)
  unfold orgM at ih ⊢
  rw [take_succ_nth (e:=markT) (show k < l.length by omega),List.filter_append]
  simp only [shS]
  by_cases q2:aOfM (markT.nth l k) > at_
  ·rw [if_pos q2,ih]
   have:nvLe at_ (markT.nth l k) = false:=by unfold nvLe;simp;omega
   simp [List.filter_cons,this]
  ·rw [if_neg q2]
   by_cases q:kOfM (markT.nth l k) = 2
   ·have:nvLe at_ (markT.nth l k) = false:=by unfold nvLe;simp [q]
    have e:∀ s:Mark × Mark × Bool,(if s.2.2 = true then s else if aOfM (markT.nth l k) = at_ then (s.1,markT.nth l k,true) else s).1 = s.1:=by
     intro s;split;rfl;split <;> rfl
    rw [if_pos q,e,ih]
    simp [List.filter_cons,this]
   ·rw [if_neg q]
    have:nvLe at_ (markT.nth l k) = true:=by unfold nvLe;simp [q];omega
    simp [List.filter_cons,this]
def shStep (at_:Int) (s:Mark × Mark × Bool) (m:Mark):Mark × Mark × Bool :=
 if aOfM m > at_ then s
 else if kOfM m = 2 then
  if s.2.2 = true then s
  else if aOfM m = at_ then (s.1,m,true) else s
 else (m,s.2)
theorem vir_step (at_:Int) (s:Mark × Mark × Bool) (m:Mark):(if s.2.2 = true then some s.2.1 else none).or ([m].find? (vAt at_)) = if (shStep at_ s m).2.2 = true then some (shStep at_ s m).2.1 else none:=by
 obtain ⟨o,v,fd⟩:=s
 unfold shStep
 by_cases q2:aOfM m > at_
 ·rw [if_pos q2]
  have:vAt at_ m = false:=by unfold vAt;simp;omega
  simp [List.find?_cons,this]
 ·rw [if_neg q2]
  by_cases q:kOfM m = 2
  ·rw [if_pos q]
   cases fd with
   | true=>simp
   | false =>
    by_cases q3:aOfM m = at_
    ·have:vAt at_ m = true:=by unfold vAt;simp [q,q3]
     simp [List.find?_cons,this,q3]
    ·have:vAt at_ m = false:=by unfold vAt;simp [q3]
     simp [List.find?_cons,this,q3]
  ·rw [if_neg q]
   have:vAt at_ m = false:=by unfold vAt;simp [q]
   simp [List.find?_cons,this]
theorem shS_vir (at_:Int) (l:List Mark):∀ k,k≤l.length→(l.take k).find? (vAt at_) = if (shS at_ l k).2.2 = true then some (shS at_ l k).2.1 else none
 | 0,_=>rfl
 | k + 1,h=>by
  have ih:=shS_vir at_ l k (by omega)
  rw [take_succ_nth (e:=markT) (show k < l.length by omega),List.find?_append,ih]
  exact vir_step at_ (shS at_ l k) (markT.nth l k)
def shownM (at_ b:Int) (l:List Mark) (o:Mark):Mark:=if b = 0∧aOfM o = at_ then (l.find? (vAt at_)).getD o else o
theorem showP_eq (at_ b:Int) (l:List Mark) (o:Mark) (h:orgM at_ l = some o):showP at_ b l = ptM (shownM at_ b l o):=by
 have h1:=shS_org at_ l l.length (Nat.le_refl _)
 have h2:=shS_vir at_ l l.length (Nat.le_refl _)
 rw [List.take_length,h] at h1
 rw [List.take_length] at h2
 simp only [Option.getD_some] at h1
 unfold showP shownM
 rw [h2,h1]
 generalize shS at_ l l.length = s
 obtain ⟨o2,v,fd⟩:=s
 by_cases q:b = 0∧aOfM o = at_
 ·rw [if_pos q]
  cases fd with
  | true=>rw [if_pos ⟨q.1,rfl,q.2⟩];rfl
  | false=>rw [if_neg (fun h=>by cases h.2.1)];rfl
 ·rw [if_neg q,if_neg (fun h=>q ⟨h.1,h.2.2⟩)]
theorem rshowP_eq (at_ b:Int) (l:List Mark) (o:Mark) (h:orgM at_ l = some o):rshowP at_ b l = ptM (shownM at_ b l o):=by
 have h1:=rsS_org at_ l l.length (Nat.le_refl _)
 rw [List.take_length,h] at h1
 simp only [Option.getD_some] at h1
 unfold rshowP shownM
 rw [h1]
 by_cases q:b = 0∧aOfM o = at_
 ·rw [if_pos q,if_pos q]
  cases l.find? (vAt at_) <;> rfl
 ·rw [if_neg q,if_neg q]
theorem org_some {at_:Int} {l:List Mark} {m:Mark} (hm:m ∈ l) (h:nvLe at_ m = true):∃ o,orgM at_ l = some o:=by
 unfold orgM
 cases e:(l.filter (nvLe at_)).getLast? with
 | some o=>exact ⟨o,rfl⟩
 | none =>
  rw [List.getLast?_eq_none_iff] at e
  have:m ∈ l.filter (nvLe at_):=List.mem_filter.2 ⟨hm,h⟩
  rw [e] at this;cases this
theorem org_mem {at_:Int} {l:List Mark} {o:Mark} (h:orgM at_ l = some o):o ∈ l∧¬ kOfM o = 2∧aOfM o≤at_:=by
 have:=List.mem_of_getLast? h
 rw [List.mem_filter] at this
 refine ⟨this.1,?_⟩
 have h2:=this.2
 unfold nvLe at h2
 simpa using h2
def ptLt (a b:Mark):Prop:=rOfM a < rOfM b∨rOfM a = rOfM b∧cOfM a < cOfM b
theorem rmM_inc (i:Nat) (L:List Cell) (r:Row) (k0:Nat) (M:List Mark) (hM:M.Pairwise ptLt) (hi:∀ m ∈ M,rOfM m < i):∀ c,(Points.rmM i L r k0 M c).Pairwise ptLt∧∀ m ∈ Points.rmM i L r k0 M c,rOfM m < i∨rOfM m = i∧cOfM m < c
 | 0=>⟨hM,fun m hm=>.inl (hi m hm)⟩
 | c + 1=>by
  obtain ⟨h1,h2⟩:=rmM_inc i L r k0 M hM hi c
  have h3:∀ m ∈ Points.rmM i L r k0 M c,rOfM m < i∨rOfM m = i∧cOfM m < ((c + 1:Nat):Int):=fun m hm=>by
   rcases h2 m hm with h | h
   ·exact .inl h
   ·exact .inr ⟨h.1,by omega⟩
  simp only [Points.rmM]
  split
  ·exact ⟨h1,h3⟩
  ·split
   ·have e1:rOfM (Points.cm r i c) = i:=rfl
    have e2:cOfM (Points.cm r i c) = c:=rfl
    refine ⟨List.pairwise_append.2 ⟨h1,List.pairwise_singleton _ _,fun a ha b hb=>?_⟩,fun m hm=>?_⟩
    ·rw [List.mem_singleton] at hb
     subst hb
     unfold ptLt
     rw [e1,e2]
     exact h2 a ha
    ·rcases List.mem_append.1 hm with hm | hm
     ·exact h3 m hm
     ·rw [List.mem_singleton] at hm
      subst hm
      rw [e1,e2]
      exact .inr ⟨rfl,by omega⟩
   ·exact ⟨h1,h3⟩
theorem refFold_inc (q:List Row):∀ i,(Points.refFold q i).Pairwise ptLt∧∀ m ∈ Points.refFold q i,rOfM m < (i:Int)
 | 0=>⟨List.Pairwise.nil,fun m hm=>by cases hm⟩
 | i + 1=>by
  obtain ⟨h1,h2⟩:=refFold_inc q i
  obtain ⟨h3,h4⟩:=rmM_inc i (Points.lineOf q i) (rowT.nth q i) (Points.aheadOf q i) (Points.refFold q i) h1 h2 (Points.Row.cells (rowT.nth q i)).length
  show (Points.refStep q (Points.refFold q i) i).Pairwise ptLt∧∀ m ∈ Points.refStep q (Points.refFold q i) i,rOfM m < ((i + 1:Nat):Int)
  unfold Points.refStep
  split
  ·have e1:rOfM (Points.endMark q i) = i:=rfl
   have e2:cOfM (Points.endMark q i) = (Points.Row.cells (rowT.nth q i)).length:=rfl
   refine ⟨List.pairwise_append.2 ⟨h3,List.pairwise_singleton _ _,fun a ha b hb=>?_⟩,fun m hm=>?_⟩
   ·rw [List.mem_singleton] at hb
    subst hb
    unfold ptLt
    rw [e1,e2]
    exact h4 a ha
   ·rcases List.mem_append.1 hm with hm | hm
    ·have:=h4 m hm;omega
    ·rw [List.mem_singleton] at hm
     subst hm
     rw [e1];omega
  ·exact ⟨h3,fun m hm=>by have:=h4 m hm;omega⟩
theorem marks_inc (q:List Row):(Points.allMarks q).Pairwise ptLt:=by
 rw [Points.marks_same]
 exact (refFold_inc q q.length).1
def kdC (c:Cell):Int:=c.2.1
def isK (c:Cell):Bool:=decide (kdC c = 1) || decide (kdC c = 2) || decide (kdC c = 3)
def nvC (c:Cell):Bool:=decide (kdC c = 1) || decide (kdC c = 3)
def niC (c:Cell):Bool:=!(kdC c == 5)
def nvM (m:Mark):Bool:=decide (¬ kOfM m = 2)
abbrev Key:Type:=Int × Int
def keyM (m:Mark):Key:=(kOfM m,aOfM m)
def keyC (c:Cell):Key:=(kdC c,atC c)
def wrR (x:Row):Bool:=x.2.2.2.2.1
def nonI (L:List Row):List Cell:=L.flatMap fun x=>x.1.filter niC
theorem inAto_eq (A cells:List Cell):∀ k,k≤cells.length→Points.inAto A cells k = A ++ (cells.take k).filter niC
 | 0,_=>by simp [Points.inAto]
 | k + 1,h=>by
  have ih:=inAto_eq A cells k (by omega)
  rw [take_succ_nth (e:=cellT) (show k < cells.length by omega),List.filter_append,← List.append_assoc,← ih]
  show (if (Points.Cell.kind (cellT.nth cells k) == 5) = true then Points.inAto A cells k else Points.inAto A cells k ++ [cellT.nth cells k]) = _
  have e:niC (cellT.nth cells k) = !(Points.Cell.kind (cellT.nth cells k) == 5):=rfl
  by_cases q:(Points.Cell.kind (cellT.nth cells k) == 5) = true
  ·rw [if_pos q]
   rw [q] at e
   simp [List.filter_cons,e]
  ·rw [if_neg q]
   have q2:(Points.Cell.kind (cellT.nth cells k) == 5) = false:=by simpa using q
   rw [q2] at e
   simp [List.filter_cons,e]
theorem allTo_nonI (rows:List Row):∀ i,i≤rows.length→Points.allTo rows i = nonI (rows.take i)
 | 0,_=>rfl
 | i + 1,h=>by
  have ih:=allTo_nonI rows i (by omega)
  rw [take_succ_nth (e:=rowT) (show i < rows.length by omega)]
  show Points.rowA (Points.allTo rows i) (rowT.nth rows i) = _
  unfold Points.rowA
  rw [inAto_eq _ _ _ (Nat.le_refl _),List.take_length,ih]
  unfold nonI
  rw [List.flatMap_append]
  simp [Points.Row.cells]
theorem lineA_nonI (L:List Row):Points.lineA L = nonI L:=by
 unfold Points.lineA
 rw [allTo_nonI L _ (Nat.le_refl _),List.take_length]
theorem mTo_keys (A:List Cell) (W:List Points.Point):∀ k,k≤A.length →
  List.Sublist ((Points.mTo A W (Points.stopsTo A A.length) k).map keyM) (((A.take k).filter isK).map keyC) ∧
  ((Points.mTo A W (Points.stopsTo A A.length) k).filter nvM).map keyM = ((A.take k).filter nvC).map keyC
 | 0,_=>⟨by simp [Points.mTo],by simp [Points.mTo]⟩
 | k + 1,h=>by
  obtain ⟨ih1,ih2⟩:=mTo_keys A W k (by omega)
  rw [take_succ_nth (e:=cellT) (show k < A.length by omega),List.filter_append,List.filter_append,List.map_append,List.map_append,← ih2]
  have hm:Points.mTo A W (Points.stopsTo A A.length) (k + 1) = if Points.stopAt A k then Points.mTo A W (Points.stopsTo A A.length) k ++ [Points.mk A W k] else Points.mTo A W (Points.stopsTo A A.length) k:=by
   rw [← Points.stops_nth A k (by omega)];rfl
  rw [hm]
  generalize Points.mTo A W (Points.stopsTo A A.length) k = M at ih1 ih2
  have hk:keyM (Points.mk A W k) = keyC (cellT.nth A k):=rfl
  have hk2:kOfM (Points.mk A W k) = kdC (cellT.nth A k):=rfl
  have hs:Points.stopAt A k = (kdC (cellT.nth A k) == 1 || kdC (cellT.nth A k) == 3 || (kdC (cellT.nth A k) == 2 && (k == 0 || Points.Cell.at (cellT.nth A (k - 1)) != Points.Cell.at (cellT.nth A k)))):=rfl
  by_cases q1:kdC (cellT.nth A k) = 1
  ·have s1:Points.stopAt A k = true:=by rw [hs,q1];rfl
   have s2:isK (cellT.nth A k) = true:=by unfold isK;rw [q1];rfl
   have s3:nvC (cellT.nth A k) = true:=by unfold nvC;rw [q1];rfl
   have s4:nvM (Points.mk A W k) = true:=by unfold nvM;rw [hk2,q1];rfl
   rw [if_pos s1,List.filter_append]
   simp only [List.map_append,List.filter_cons,List.filter_nil,s2,s3,s4,if_true,List.map_cons,List.map_nil,hk]
   exact ⟨ih1.append (List.Sublist.refl _),trivial⟩
  by_cases q3:kdC (cellT.nth A k) = 3
  ·have s1:Points.stopAt A k = true:=by rw [hs,q3];rfl
   have s2:isK (cellT.nth A k) = true:=by unfold isK;rw [q3];rfl
   have s3:nvC (cellT.nth A k) = true:=by unfold nvC;rw [q3];rfl
   have s4:nvM (Points.mk A W k) = true:=by unfold nvM;rw [hk2,q3];rfl
   rw [if_pos s1,List.filter_append]
   simp only [List.map_append,List.filter_cons,List.filter_nil,s2,s3,s4,if_true,List.map_cons,List.map_nil,hk]
   exact ⟨ih1.append (List.Sublist.refl _),trivial⟩
  by_cases q2:kdC (cellT.nth A k) = 2
  ·have s2:isK (cellT.nth A k) = true:=by unfold isK;rw [q2];rfl
   have s3:nvC (cellT.nth A k) = false:=by unfold nvC;rw [q2];rfl
   have s4:nvM (Points.mk A W k) = false:=by unfold nvM;rw [hk2,q2];rfl
   cases hst:Points.stopAt A k with
   | true =>
    rw [if_pos rfl,List.filter_append]
    simp only [List.map_append,List.filter_cons,List.filter_nil,s2,s3,s4,if_true,List.map_cons,List.map_nil,hk]
    exact ⟨ih1.append (List.Sublist.refl _),by simp⟩
   | false =>
    rw [if_neg (by simp)]
    simp only [List.filter_cons,List.filter_nil,s2,s3,if_true,List.map_cons,List.map_nil]
    exact ⟨ih1.trans (List.sublist_append_left _ _),by simp⟩
  ·have s1:Points.stopAt A k = false:=by
    rw [hs]
    simp [q1,q2,q3]
   have s2:isK (cellT.nth A k) = false:=by unfold isK;simp [q1,q2,q3]
   have s3:nvC (cellT.nth A k) = false:=by unfold nvC;simp [q1,q3]
   rw [s1,if_neg (by simp)]
   simp only [List.filter_cons,List.filter_nil,s2,s3]
   exact ⟨by simpa using ih1,by simp⟩
def keysK (L:List Row):List Key:=((nonI L).filter isK).map keyC ++ [(0,endOfR L)]
def keysN (L:List Row):List Key:=((nonI L).filter nvC).map keyC ++ [(0,endOfR L)]
theorem lineMarks_keys (L:List Row) (i:Int):List.Sublist ((Points.lineMarks L i).map keyM) (keysK L)∧((Points.lineMarks L i).filter nvM).map keyM = keysN L:=by
 obtain ⟨h1,h2⟩:=mTo_keys (Points.lineA L) (Points.lineW L i) _ (Nat.le_refl _)
 rw [List.take_length,lineA_nonI] at h1 h2
 unfold Points.lineMarks Points.lineM keysK keysN
 rw [Points.stopsTo_length,lineA_nonI,List.filter_append,List.map_append,List.map_append,h2]
 refine ⟨h1.append ?_,?_⟩
 ·exact List.Sublist.refl _
 ·rfl
def LineR (L:List Row):Prop:=∃ x ws,L = x :: ws∧wrR x = false∧∀ w ∈ ws,wrR w = true
def linesM:Nat→List (List Row)→List Mark
 | _,[]=>[]
 | i,L :: Ls=>Points.lineMarks L i ++ linesM (i + L.length) Ls
theorem nth_pre_append {e:Ty} (a b:List e.ty) (k:Nat):e.nth (a ++ b) (a.length + k) = e.nth b k:=by
 simp only [Ty.nth,List.getD_eq_getElem?_getD]
 rw [List.getElem?_append_right (by omega)]
 congr 2;omega
theorem nth_app_left {e:Ty} (a b:List e.ty) (k:Nat) (h:k < a.length):e.nth (a ++ b) k = e.nth a k:=by
 simp only [Ty.nth,List.getD_eq_getElem?_getD]
 rw [List.getElem?_append_left h]
theorem run_line (pre L rest:List Row) (hL:LineR L) (hr:∀ y rs,rest = y :: rs→wrR y = false):Points.runN (pre ++ (L ++ rest)) pre.length = L.length:=by
 obtain ⟨x,ws,rfl,hx,hw⟩:=hL
 have hlen:(pre ++ ((x :: ws) ++ rest)).length = pre.length + (ws.length + 1) + rest.length:=by simp;omega
 have h1:=Points.runFrom_le (pre ++ ((x :: ws) ++ rest)) pre.length (pre ++ ((x :: ws) ++ rest)).length 1 (by omega)
 have h2:=Points.runFrom_ge (pre ++ ((x :: ws) ++ rest)) pre.length (ws.length + 1) (pre ++ ((x :: ws) ++ rest)).length 1 (by omega) (by omega) (fun t ht1 ht2=>by
  unfold Points.goesOn
  have e:rowT.nth (pre ++ ((x :: ws) ++ rest)) (pre.length + t) = rowT.nth ws (t - 1):=by
   rw [nth_pre_append (e:=rowT),nth_app_left (e:=rowT) _ _ _ (by simp;omega)]
   obtain ⟨t,rfl⟩:∃ u,t = u + 1:=⟨t - 1,by omega⟩
   rfl
  rw [decide_eq_true (by omega),Bool.true_and]
  show wrR (rowT.nth (pre ++ ((x :: ws) ++ rest)) (pre.length + t)) = true
  rw [e,nth_get (e:=rowT) (by omega)]
  exact hw _ (List.getElem_mem _))
 unfold Points.runN
 have h3:Points.runFrom (pre ++ ((x :: ws) ++ rest)) pre.length (pre ++ ((x :: ws) ++ rest)).length 1≤ws.length + 1:=by
  apply Classical.byContradiction
  intro h4
  have h5:=Points.runFrom_get (pre ++ ((x :: ws) ++ rest)) pre.length (pre ++ ((x :: ws) ++ rest)).length 1 (ws.length + 1) (by omega) (by omega)
  unfold Points.goesOn at h5
  rw [Bool.and_eq_true,decide_eq_true_eq] at h5
  have e:rowT.nth (pre ++ ((x :: ws) ++ rest)) (pre.length + (ws.length + 1)) = rowT.nth rest 0:=by
   rw [nth_pre_append (e:=rowT)]
   have:=nth_pre_append (e:=rowT) (x :: ws) rest 0
   simpa using this
  cases rest with
  | nil=>simp at h5
  | cons y rs =>
   have h6:=hr y rs rfl
   have h7:wrR (rowT.nth (pre ++ ((x :: ws) ++ (y :: rs))) (pre.length + (ws.length + 1))) = true:=h5.2
   rw [e] at h7
   have h8:rowT.nth (y :: rs) 0 = y:=rfl
   rw [h8,h6] at h7
   cases h7
 simp only [List.length_cons]
 omega
theorem part_line (pre L rest:List Row) (hL:LineR L) (hr:∀ y rs,rest = y :: rs→wrR y = false):Points.part (pre ++ (L ++ rest)) pre.length = L:=by
 unfold Points.part
 rw [run_line pre L rest hL hr]
 rw [List.take_length_add_append,List.drop_left,List.take_left]
theorem rest_head (Ls:List (List Row)) (h:∀ L ∈ Ls,LineR L):∀ y rs,Ls.flatten = y :: rs→wrR y = false:=by
 intro y rs e
 cases Ls with
 | nil=>cases e
 | cons L Ls =>
  obtain ⟨x,ws,rfl,hx,_⟩:=h L (by simp)
  rw [List.flatten_cons,List.cons_append] at e
  injection e with e1 _
  rw [← e1];exact hx
theorem marks_lines:∀ (Ls:List (List Row)) (pre:List Row) (M:List Mark) (f:Nat),(∀ L ∈ Ls,LineR L)→Ls.flatten.length≤f→Points.marksFrom (pre ++ Ls.flatten) f pre.length M = M ++ linesM pre.length Ls
 | [],pre,M,f,_,_=>by
  simp only [List.flatten_nil,List.append_nil,linesM]
  cases f with
  | zero=>rfl
  | succ f=>simp only [Points.marksFrom];rw [if_neg (by omega)]
 | L :: Ls,pre,M,f,h,hf=>by
  have hL:=h L (by simp)
  have hr:=rest_head Ls (fun K hK=>h K (by simp [hK]))
  have e1:=run_line pre L Ls.flatten hL hr
  have e2:=part_line pre L Ls.flatten hL hr
  have hpos:0 < L.length:=by obtain ⟨x,ws,rfl,_⟩:=hL;simp
  rw [List.flatten_cons] at hf ⊢
  rw [List.length_append] at hf
  obtain ⟨f,rfl⟩:∃ g,f = g + 1:=⟨f - 1,by omega⟩
  simp only [Points.marksFrom]
  rw [if_pos (by simp;omega),e1,e2]
  have ih:=marks_lines Ls (pre ++ L) (M ++ Points.lineMarks L pre.length) f (fun K hK=>h K (by simp [hK])) (by omega)
  rw [List.append_assoc,List.length_append] at ih
  rw [ih,List.append_assoc]
  rfl
theorem allMarks_lines (Ls:List (List Row)) (h:∀ L ∈ Ls,LineR L):Points.allMarks Ls.flatten = linesM 0 Ls:=by
 have:=marks_lines Ls [] [] Ls.flatten.length h (Nat.le_refl _)
 exact this
theorem linesM_keys:∀ (Ls:List (List Row)) (i:Nat),List.Sublist ((linesM i Ls).map keyM) (Ls.flatMap keysK)∧((linesM i Ls).filter nvM).map keyM = Ls.flatMap keysN
 | [],i=>⟨List.Sublist.refl _,rfl⟩
 | L :: Ls,i=>by
  obtain ⟨h1,h2⟩:=lineMarks_keys L i
  obtain ⟨h3,h4⟩:=linesM_keys Ls (i + L.length)
  simp only [linesM,List.map_append,List.filter_append,List.flatMap_cons,h2,h4]
  exact ⟨h1.append h3,trivial⟩
def cellsR (x:Row):List Cell:=x.1
theorem rowsR_cells (r:List Int) (fr to:Int) (L:List (List Cell)):∀ j,j≤L.length→(rowsR r fr to L j).map cellsR = L.drop (L.length - j)
 | 0,_=>by simp [rowsR]
 | j + 1,h=>by
  have ih:=rowsR_cells r fr to L j (by omega)
  rw [show rowsR r fr to L (j + 1) = rowR r fr (endOf to (rowsR r fr to L j)) L (L.length - 1 - j) :: rowsR r fr to L j from rfl,List.map_cons,ih]
  have hk:L.length - (j + 1) < L.length:=by omega
  rw [List.drop_eq_getElem_cons hk,show L.length - (j + 1) + 1 = L.length - j by omega]
  congr 1
  show rowsT.nth L (L.length - 1 - j) = _
  rw [show L.length - 1 - j = L.length - (j + 1) by omega,nth_get (e:=rowsT) hk]
theorem nonI_map (L:List Row):nonI L = (L.map cellsR).flatMap (fun c=>c.filter niC):=by
 unfold nonI
 rw [List.flatMap_map]
 rfl
theorem indR_ni (hg:Nat) (a:Int):(indR hg a).filter niC = []:=by
 unfold indR
 rw [List.filter_eq_nil_iff]
 intro c hc
 rw [List.mem_replicate] at hc
 rw [hc.2]
 have:niC (C4 32 5 1 a) = false:=rfl
 rw [this];simp
theorem rowG_cells (l:List Cell) (r1:Int) (hg:Nat):∀ f k,l.length - k≤f→(rowG l r1 hg f k).flatMap (fun c=>c.filter niC) = (l.drop k).filter niC
 | 0,k,h=>by
  rw [List.drop_eq_nil_of_le (by omega)];rfl
 | f + 1,k,h=>by
  rw [rowG_succ]
  by_cases q:k < l.length
  ·rw [if_pos q,List.flatMap_cons,List.filter_append,indR_ni,List.nil_append]
   have h1:=(takesC_le (l.drop k) r1).1 (by rw [List.length_drop];omega)
   rw [rowG_cells l r1 hg f (k + takesC (l.drop k) r1) (by omega),← List.filter_append,← List.drop_drop,List.take_append_drop]
  ·rw [if_neg q,List.drop_eq_nil_of_le (by omega)];rfl
theorem rowsOf_cells (l:List Cell) (wd:Int):(rowsOf l wd).flatMap (fun c=>c.filter niC) = l.filter niC:=by
 unfold rowsOf
 split
 ·simp
 ·split
  ·unfold rowsM
   rw [List.flatMap_cons,rowG_cells l _ _ l.length _ (by omega),← List.filter_append,List.take_append_drop]
  ·simp
theorem lineRows_nonI (r:List Int) (zl wl:List Rng) (tab wd:Int) (p:List Part) (fr to:Int):nonI (lineRows r zl wl tab wd p fr to) = (cellsOf zl wl tab p).filter niC:=by
 rw [nonI_map]
 unfold lineRows
 rw [rowsR_cells _ _ _ _ _ (Nat.le_refl _),Nat.sub_self,List.drop_zero,rowsOf_cells]
theorem ni_of {f:Cell→Bool} (hf:∀ c,f c = true→niC c = true) (l:List Cell):(l.filter niC).filter f = l.filter f:=by
 rw [List.filter_filter]
 congr 1
 funext c
 cases h:f c with
 | true=>rw [hf c h];rfl
 | false=>simp
theorem ni_isK (c:Cell) (h:isK c = true):niC c = true:=by
 unfold isK at h;unfold niC
 simp at h ⊢
 omega
theorem ni_nvC (c:Cell) (h:nvC c = true):niC c = true:=by
 unfold nvC at h;unfold niC
 simp at h ⊢
 omega
theorem rowsR_wr (r:List Int) (fr to:Int) (L:List (List Cell)):∀ j,j < L.length→∀ w ∈ rowsR r fr to L j,wrR w = true
 | 0,_=>by intro w hw;cases hw
 | j + 1,h=>by
  intro w hw
  rw [show rowsR r fr to L (j + 1) = rowR r fr (endOf to (rowsR r fr to L j)) L (L.length - 1 - j) :: rowsR r fr to L j from rfl] at hw
  rcases List.mem_cons.1 hw with hw | hw
  ·rw [hw]
   show decide (((L.length - 1 - j:Nat):Int) > 0) = true
   rw [decide_eq_true_eq];omega
  ·exact rowsR_wr r fr to L j (by omega) w hw
theorem lineRows_line (r:List Int) (zl wl:List Rng) (tab wd:Int) (p:List Part) (fr to:Int):LineR (lineRows r zl wl tab wd p fr to):=by
 have hpos:=rowsOf_pos (cellsOf zl wl tab p) wd
 unfold lineRows
 generalize rowsOf (cellsOf zl wl tab p) wd = L at hpos
 obtain ⟨q,hq⟩:∃ q,L.length = q + 1:=⟨L.length - 1,by omega⟩
 refine ⟨rowR r fr (endOf to (rowsR r fr to L q)) L (L.length - 1 - q),rowsR r fr to L q,?_,?_,rowsR_wr r fr to L q (by omega)⟩
 ·rw [show rowsR r fr to L L.length = rowsR r fr to L (q + 1) by rw [hq]];rfl
 show decide (((L.length - 1 - q:Nat):Int) > 0) = false
 rw [decide_eq_false_iff_not];omega
theorem lineRows_end (r:List Int) (zl wl:List Rng) (tab wd:Int) (p:List Part) (fr to:Int):endOfR (lineRows r zl wl tab wd p fr to) = to:=by
 obtain ⟨pre,x,e,h⟩:=lineRows_last r zl wl tab wd p fr to
 unfold endOfR
 rw [e,List.length_append,List.length_singleton,Nat.add_sub_cancel]
 have:=nth_pre_append (e:=rowT) pre [x] 0
 rw [Nat.add_zero] at this
 rw [this]
 exact h
def keysLK (zl wl:List Rng) (tab:Int) (l:Line):List Key:=((cellsOf zl wl tab l.1).filter isK).map keyC ++ [(0,l.2.2.1)]
def keysLN (zl wl:List Rng) (tab:Int) (l:Line):List Key:=((cellsOf zl wl tab l.1).filter nvC).map keyC ++ [(0,l.2.2.1)]
theorem keysK_line (r:List Int) (zl wl:List Rng) (tab wd:Int) (l:Line):keysK (rowsLine r zl wl tab wd l) = keysLK zl wl tab l:=by
 unfold keysK keysLK rowsLine
 rw [lineRows_nonI,ni_of ni_isK,lineRows_end]
theorem keysN_line (r:List Int) (zl wl:List Rng) (tab wd:Int) (l:Line):keysN (rowsLine r zl wl tab wd l) = keysLN zl wl tab l:=by
 unfold keysN keysLN rowsLine
 rw [lineRows_nonI,ni_of ni_nvC,lineRows_end]
theorem rows_keys (r:List Int) (il:List Inl) (hid:List Span) (zl wl:List Rng) (tab wd:Int) :
  List.Sublist ((Points.allMarks (rowsAll r il hid zl wl tab wd)).map keyM) ((allL r il hid).flatMap (keysLK zl wl tab)) ∧
  ((Points.allMarks (rowsAll r il hid zl wl tab wd)).filter nvM).map keyM = (allL r il hid).flatMap (keysLN zl wl tab):=by
 have e:rowsAll r il hid zl wl tab wd = ((allL r il hid).map (rowsLine r zl wl tab wd)).flatten:=by unfold rowsAll;rw [List.flatMap_def]
 have hL:∀ L ∈ (allL r il hid).map (rowsLine r zl wl tab wd),LineR L:=by
  intro L hL
  obtain ⟨l,_,rfl⟩:=List.mem_map.1 hL
  exact lineRows_line _ _ _ _ _ _ _ _
 obtain ⟨h1,h2⟩:=linesM_keys ((allL r il hid).map (rowsLine r zl wl tab wd)) 0
 rw [e,allMarks_lines _ hL,h2]
 rw [List.flatMap_map] at h1 ⊢
 simp only [keysK_line,keysN_line] at h1 ⊢
 exact ⟨h1,trivial⟩
theorem sumTo_nonI (q:List Row) (i:Nat):Points.sumTo q i≤(nonI q).length:=by
 by_cases h:i≤q.length
 ·rw [← Points.allTo_eq,allTo_nonI q i h]
  have:nonI q = nonI (q.take i) ++ nonI (q.drop i):=by unfold nonI;rw [← List.flatMap_append,List.take_append_drop]
  rw [this,List.length_append];omega
 ·have h2:∀ j,q.length≤j→Points.sumTo q j = Points.sumTo q q.length:=by
   intro j hj
   induction j with
   | zero=>rw [show q.length = 0 by omega]
   | succ j ih =>
    by_cases e:q.length = j + 1
    ·rw [e]
    ·rw [← ih (by omega)]
     show Points.sumTo q j + Points.cnt1 (rowT.nth q j) = Points.sumTo q j
     have:rowT.nth q j = rowT.dflt:=by
      simp only [Ty.nth,List.getD_eq_getElem?_getD]
      rw [List.getElem?_eq_none (by omega)];rfl
     rw [this];rfl
  rw [h2 i (by omega),← Points.allTo_eq,allTo_nonI q _ (Nat.le_refl _),List.take_length]
  exact Nat.le_refl _
theorem SmallV.nonI_le {r:List Int} {il:List Inl} {hid:List Span} {tab:Int} (h:SmallV r il hid tab) (zl wl:List Rng) (wd:Int):(nonI (rowsAll r il hid zl wl tab wd)).length≤5000000:=by
 have hlen:=allG_len r il hid r.length 0
 have b2:=h.r120
 have e:nonI (rowsAll r il hid zl wl tab wd) = (allL r il hid).flatMap (fun l=>(cellsOf zl wl tab l.1).filter niC):=by
  unfold nonI rowsAll
  rw [List.flatMap_assoc]
  congr 1
  funext l
  exact lineRows_nonI r zl wl tab wd l.1 l.2.1 l.2.2.1
 rw [e]
 have h1:=flat_le (fun l:Line=>(cellsOf zl wl tab l.1).filter niC) 40320 (allL r il hid) (fun l hl=>by
  obtain ⟨k,hk,rfl⟩:=allG_mem r il hid h.ok r.length 0 (by omega) l hl
  have h2:=(h.ln zl wl wd k hk).2
  exact Nat.le_trans (List.length_filter_le _ _) h2)
 unfold allL at h1 ⊢
 omega
theorem SmallV.smallR {r:List Int} {il:List Inl} {hid:List Span} {tab:Int} (h:SmallV r il hid tab) (zl wl:List Rng) (wd:Int):Points.smallR (rowsAll r il hid zl wl tab wd):=by
 have hv:=h.view zl wl wd
 refine ⟨hv.all,fun i=>?_,fun i=>?_⟩
 ·by_cases hi:i < (rowsAll r il hid zl wl tab wd).length
  ·show (cellsR (rowT.nth (rowsAll r il hid zl wl tab wd) i)).length≤100000
   rw [nth_get (e:=rowT) hi]
   have hm:=List.getElem_mem hi
   unfold rowsAll at hm
   obtain ⟨l,hl,hx⟩:=List.mem_flatMap.1 hm
   have hk:=hv.lines l hl
   have hx2:cellsR ((rowsAll r il hid zl wl tab wd)[i]) ∈ (lineRows r zl wl tab wd l.1 l.2.1 l.2.2.1).map cellsR:=List.mem_map_of_mem hx
   unfold lineRows at hx2
   rw [rowsR_cells _ _ _ _ _ (Nat.le_refl _),Nat.sub_self,List.drop_zero] at hx2
   exact (hk.hL.2 _ hx2).2.1
  ·have:rowT.nth (rowsAll r il hid zl wl tab wd) i = rowT.dflt:=by
    simp only [Ty.nth,List.getD_eq_getElem?_getD]
    rw [List.getElem?_eq_none (by omega)];rfl
   rw [this]
   exact Nat.zero_le _
 ·have h1:=sumTo_nonI (rowsAll r il hid zl wl tab wd) i
  have h2:=h.nonI_le zl wl wd
  omega
theorem SmallD.view {s:Str} {il:List Inl} {fl:List Span} {tab wd:Int} (h:SmallD s il fl tab wd 120):SmallV (Cmp.dec s) (outI il) (hidL (outF fl)) tab:=by
 have hd:=Cmp.dec_le s
 have hlen:=h.len
 exact small_view (Cmp.dec s).length (Cmp.dec s) rfl (by omega) il fl tab h.t1 h.t2 h.il60 h.ei h.ef
end Go.Proofs.Ytaobccodpdmieaa.Lay
