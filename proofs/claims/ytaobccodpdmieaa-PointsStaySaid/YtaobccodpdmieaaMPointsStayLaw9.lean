/- Lemmas for the law PointsStayLaw: texts of mine, merged. -/
import Derived.Test.YtaobccodpdmieaaMPointsStayLaw8
set_option linter.unusedVariables false
set_option linter.unusedSimpArgs false
set_option maxRecDepth 100000
set_option maxHeartbeats 4000000
namespace Go.Proofs.Ytaobccodpdmieaa.Lay
open Go Pv G Utf
theorem hidR_len:∀ (f:Nat) (l:List Span),(hidR f l).length≤l.length
 | 0,l=>Nat.le_refl _
 | f + 1,[]=>Nat.le_refl _
 | f + 1,[x]=>Nat.le_refl _
 | f + 1,x :: y :: r=>by
  rw [hidR_two]
  split
  ·have:=hidR_len f (S2 x.1 (mxI x.2.1 y.2.1) :: r)
   simp only [List.length_cons] at this ⊢;omega
  ·have:=hidR_len f (y :: r)
   simp only [List.length_cons] at this ⊢;omega
def docRows (s:Str) (il:List Inl) (fl:List Span) (tab wd:Int):List Row:=rowsAll (Cmp.dec s) (outI il) (hidL (outF fl)) zP wP tab wd
structure SmallD (s:Str) (il:List Inl) (fl:List Span) (tab wd most:Int):Prop where
 len:(s.length:Int)≤most
 il60:il.length≤60
 fl60:fl.length≤60
 t1:1≤tab
 t2:tab≤16
 w0:0≤wd
 w1:wd≤200
 short:il.any longI = false
 ei:errI (Cmp.dec s).length il = 0
 ef:errF (Cmp.dec s).length fl = 0
theorem smallB_yes {s:Str} {il:List Inl} {fl:List Span} {tab wd most:Int} (h:smallB s il fl tab wd most = true):SmallD s il fl tab wd most:=by
 unfold smallB at h
 by_cases q0:(s.length:Int) > most
 ·rw [if_pos q0] at h;cases h
 rw [if_neg q0] at h
 by_cases q1:(il.length:Int) > 60
 ·rw [if_pos q1] at h;cases h
 rw [if_neg q1] at h
 by_cases q2:(fl.length:Int) > 60
 ·rw [if_pos q2] at h;cases h
 rw [if_neg q2] at h
 by_cases q3:tab < 1
 ·rw [if_pos q3] at h;cases h
 rw [if_neg q3] at h
 by_cases q4:tab > 16
 ·rw [if_pos q4] at h;cases h
 rw [if_neg q4] at h
 by_cases q5:wd < 0
 ·rw [if_pos q5] at h;cases h
 rw [if_neg q5] at h
 by_cases q6:wd > 200
 ·rw [if_pos q6] at h;cases h
 rw [if_neg q6] at h
 by_cases q7:il.any longI = true
 ·rw [if_pos q7] at h;cases h
 rw [if_neg q7] at h
 by_cases q8:errI (Cmp.dec s).length il = 0
 ·rw [if_pos q8] at h
  by_cases q9:errF (Cmp.dec s).length fl = 0
  ·exact ⟨by omega,by omega,by omega,by omega,by omega,by omega,by omega,by simpa using q7,q8,q9⟩
  ·rw [if_neg q9] at h;cases h
 ·rw [if_neg q8] at h;cases h
theorem madeN:∀ (s:Str) (il:List Inl) (fl:List Span) (tab wd:Int) (e:smallB s il fl tab wd 120 = false),Ans XR FMade [.d (.agg (docL s il fl tab wd))] (.d (.tup [.sl [] 0,.bool false])):=md0
theorem madeY:∀ (s:Str) (il:List Inl) (fl:List Span) (tab wd:Int) (e:smallB s il fl tab wd 120 = true) (q:List Row) (eq:docRows s il fl tab wd = q),Ans XR FMade [.d (.agg (docL s il fl tab wd))] (.d (.tup [rowT.slD q,.bool true])):=fun s il fl tab wd e q eq=>by
 have h:=smallB_yes e
 have hd:=Cmp.dec_le s
 have hlen:=h.len
 have h1:=h.il60
 have h2:=h.fl60
 have hv:=small_view (Cmp.dec s).length (Cmp.dec s) rfl (by omega) il fl tab h.t1 h.t2 h.il60 h.ei h.ef
 have hf:(outF fl).length≤60:=by rw [outF_len];exact h2
 have hh:(hidL (outF fl)).length≤60:=Nat.le_trans (hidR_len _ _) hf
 have hi:(outI il).length≤60:=by rw [outI_len];exact h1
 have hk:TextOk (Cmp.dec s) (outI il) (hidL (outF fl)):=⟨by omega,by omega,by omega,hv.h40,fun x hx=>by
  rcases mem_foldI il [] x hx with h3 | ⟨y,hy,rfl⟩
  ·cases h3
  ·show (encAll (Cmp.dec y.2.2.2.2.1)).length≤100000
   have e40:(Cmp.dec (encAll (Cmp.dec y.2.2.2.2.1))).length≤40:=hv.h40 (clI y) hx
   rw [show Cmp.dec (encAll (Cmp.dec y.2.2.2.2.1)) = Cmp.dec y.2.2.2.2.1 from Cmp.dec_clean _] at e40
   have:=encAll_len (Cmp.dec y.2.2.2.2.1)
   omega,hv.ok⟩
 exact md1 s il fl tab wd e (by omega) h1 (longI_no h.short) h2 _ rfl (by omega) h.ei _ rfl h.ef _ rfl (by omega) _ rfl zP wP rfl rfl (by decide) (by decide) h.t1 h.t2 h.w0 h.w1 hk (hv.view zP wP wd) q eq
def endR (x:Row):Int:=x.2.2.1
theorem rowsR_last (r:List Int) (fr to:Int) (L:List (List Cell)):∀ j,∃ pre x,rowsR r fr to L (j + 1) = pre ++ [x] ∧ endR x = to
 | 0=>⟨[],_,rfl,rfl⟩
 | j + 1=>by
  obtain ⟨pre,x,h1,h2⟩:=rowsR_last r fr to L j
  exact ⟨rowR r fr (endOf to (rowsR r fr to L (j + 1))) L (L.length - 1 - (j + 1)) :: pre,x,by rw [show rowsR r fr to L (j + 1 + 1) = rowR r fr (endOf to (rowsR r fr to L (j + 1))) L (L.length - 1 - (j + 1)) :: rowsR r fr to L (j + 1) from rfl,List.cons_append,← h1],h2⟩
theorem lineRows_last (r:List Int) (zl wl:List Rng) (tab wd:Int) (p:List Part) (fr to:Int):∃ pre x,lineRows r zl wl tab wd p fr to = pre ++ [x] ∧ endR x = to:=by
 have hpos:=rowsOf_pos (cellsOf zl wl tab p) wd
 unfold lineRows
 obtain ⟨q,hq⟩:∃ q,(rowsOf (cellsOf zl wl tab p) wd).length = q + 1:=⟨(rowsOf (cellsOf zl wl tab p) wd).length - 1,by omega⟩
 rw [hq]
 exact rowsR_last _ _ _ _ _
theorem allG_last (r:List Int) (il:List Inl) (hid:List Span) (hok:HidOk r.length hid):∀ (f fr:Nat),r.length - fr≤f→fr≤r.length→∃ pre p k,allG r il hid f fr = pre ++ [L3 p k (r.length:Int)]
 | 0,fr,hf,h=>by
  have hg:=lineAt_ge r il hid hok fr h
  have e:(lineAt r il hid fr).2 = r.length:=by omega
  refine ⟨[],(lineAt r il hid fr).1,(fr:Int),?_⟩
  rw [← e];rfl
 | f + 1,fr,hf,h=>by
  have hg:=lineAt_ge r il hid hok fr h
  rw [allG_succ]
  by_cases q:(lineAt r il hid fr).2 < r.length
  ·rw [if_pos q]
   obtain ⟨pre,p,k,e⟩:=allG_last r il hid hok f ((lineAt r il hid fr).2 + 1) (by omega) (by omega)
   exact ⟨_ :: pre,p,k,by rw [e];rfl⟩
  ·rw [if_neg q]
   have e:(lineAt r il hid fr).2 = r.length:=by omega
   exact ⟨[],(lineAt r il hid fr).1,(fr:Int),by rw [e];rfl⟩
theorem rowsAll_last (r:List Int) (il:List Inl) (hid:List Span) (hok:HidOk r.length hid) (zl wl:List Rng) (tab wd:Int):∃ pre x,rowsAll r il hid zl wl tab wd = pre ++ [x] ∧ endR x = r.length:=by
 obtain ⟨pre,p,k,e⟩:=allG_last r il hid hok r.length 0 (by omega) (by omega)
 obtain ⟨pre2,x,e2,h⟩:=lineRows_last r zl wl tab wd p k (r.length:Int)
 refine ⟨pre.flatMap (rowsLine r zl wl tab wd) ++ pre2,x,?_,h⟩
 unfold rowsAll allL
 rw [e,List.flatMap_append]
 have:[L3 p k (r.length:Int)].flatMap (rowsLine r zl wl tab wd) = pre2 ++ [x]:=by
  rw [← e2];simp [rowsLine]
 rw [this,List.append_assoc]
end Go.Proofs.Ytaobccodpdmieaa.Lay
namespace Go.Proofs.Ytaobccodpdmieaa.Points
open Go Pv G
abbrev i64:Ty:=.int .i64
abbrev cellT:Ty:=.st (.cons (.int .i32) (.cons i64 (.cons i64 (.cons i64 .nil))))
abbrev Cell:=cellT.ty
def Cell.kind (c:Cell):Int:=c.2.1
def Cell.at (c:Cell):Int:=c.2.2.2.1
abbrev boolT:Ty:=.bool
def stopAt (l:List Cell) (k:Nat):Bool :=
 Cell.kind (cellT.nth l k) == 1 || Cell.kind (cellT.nth l k) == 3 || (Cell.kind (cellT.nth l k) == 2 && (k == 0 || Cell.at (cellT.nth l (k - 1)) != Cell.at (cellT.nth l k)))
def stopsTo (l:List Cell) (k:Nat):List Bool:=(List.range k).map (stopAt l)
abbrev FS:Nat := 58
abbrev stS (l:List Cell) (out:List Bool) (k:Nat):St :=
 ⟨[(0,.d (cellT.slD l)),(3,boolT.tailV 4 out),(7,.d (cellT.slD l)),(8,.d (.int .i64 l.length)),(9,.d (.int .i64 k))],[],[]⟩
abbrev stSx (l:List Cell) (out:List Bool):St :=
 ⟨[(0,.d (cellT.slD l)),(3,boolT.tailV 4 out),(7,.d (cellT.slD l)),(8,.d (.int .i64 l.length)),(9,.d (.int .i64 l.length)),(10,.d (.bool (decide ((l.length:Int) < l.length))))],[],[]⟩
def loadCell_T:Prop:=∀ (l:List Cell) (h:List Ob) (k:Nat) (hk:k < l.length),loadV X0 h 62 (.d (.ref (l.flatMap cellT.enc) (k * 4))) = some (.d (.agg (cellT.enc (cellT.nth l k))))
theorem iaddrCell:∀ (l:List Cell) (i:Int) (h0:0≤i) (hi:i < l.length),iaddrV X0 35 (.d (cellT.slD l)) (.d (.int .i64 i)) = some (.d (.ref (l.flatMap cellT.enc) (i.toNat * 4))):=fun l i h0 hi=>iaddrSl (te := 62) (z:=4) (by kernel_rfl) (by kernel_rfl) h0 hi (flat_len _ 4 (Ty.enc_length cellT) l)
theorem loadCell':loadCell_T:=fun l h k hk=>Pv.loadAgg (e:=cellT) (by kernel_rfl) (by kernel_rfl) hk
theorem loadInt:∀ (l:List Cell) (h:List Ob) (k o:Nat) (hk:k < l.length) (ho:o < 4),loadV X0 h 3 (.d (.ref (l.flatMap cellT.enc) (k * 4 + o))) = some (.d ((cellT.enc (cellT.nth l k)).getD o .und)):=fun l h k o hk ho=>Pv.loadCell (e:=cellT) (z1:=1) (by kernel_rfl) (by kernel_rfl) hk ho
theorem appendBool:∀ (l:List Bool) (b:Bool) (hl:l.length < 17179869184),appendV X0 126 126 (boolT.tailV 4 l) (.full [.bool b] 1) = some (boolT.tailV 4 (l ++ [b])):=fun l b hl=>appendOne (e:=boolT) (E := 4) (i:=(X0.P.info? 4).getD default) (by kernel_rfl) (by kernel_rfl) (by kernel_rfl) (by decide +kernel) (by decide +kernel) (by kernel_rfl) b rfl (by simpa using hl)
theorem stopsRound (l:List Cell) (k:Nat) (out:List Bool) (hl:l.length < 20000000) (hk:k < l.length) (ho:out.length < 20000001):RdC X0 0 (ntOf X0 FS) (lpKeep X0 FS 0) (lpBody X0 FS 0) 0 (stS l out k) (stS l (out ++ [stopAt l k]) (k + 1)):=by
 have h0:(decide ((↑k:Int) < (↑l.length:Int))) = true:=by (((try simp only [Bool.not_eq_true',Bool.not_eq_false',Bool.and_eq_true,Bool.and_eq_false_iff,decide_eq_true_eq,decide_eq_false_iff_not,beq_iff_eq,beq_eq_false_iff_ne,bne_iff_ne,bne_eq_false_iff_eq,ne_eq,not_and] at *);(try simp (disch:=omega) only [wrapId] at *)) <;> omega)
 rcases Bool.eq_false_or_eq_true ((Prod.fst (Prod.snd (Ty.nth cellT l (Int.toNat (↑k:Int))))) == (1:Int)) with h1 | h1
 ·exact (pC (st':={ s:=[(0,(zs cellT l)),(3,(zt 4 boolT (out ++ [true]))),(7,(zs cellT l)),(8,(zv (↑l.length:Int))),(9,(zv (zw ((↑k:Int) + (1:Int)))))],h:=[],og:=[] }) 12 [(1,bt),(2,.v (V.d (D.ref (List.flatMap (Ty.enc cellT) l) ((Int.toNat (↑k:Int)) * 4)))),(3,.v (V.d (D.agg (Ty.enc cellT (Ty.nth cellT l (Int.toNat (↑k:Int))))))),(6,bt),(7,bt),(8,.v (Ty.tailV boolT (4:TypeId) (out ++ [true])))] (cP (@appendBool (out) (true) (by omega)) (cP h1 (cP h1 (cP (@loadCell' (l) ([]) (Int.toNat (↑k:Int)) (by omega)) (cP (@iaddrCell (l) ((↑k:Int)) (by omega) (by omega)) (cP h0 nilE)))))) (by kernel_rfl)).to (by (simp only [Int.toNat_natCast,beq_iff_eq,beq_eq_false_iff_ne,ne_eq,Int.natCast_eq_zero] at *;first | (simp (disch:=omega) [Ty.enc,stopAt,Cell.kind,Cell.at,wrapId,toNatPred, *];done) | (subst_vars;simp (disch:=omega) [Ty.enc,stopAt,Cell.kind,Cell.at,wrapId,toNatPred, *];done)))
 ·rcases Bool.eq_false_or_eq_true ((Prod.fst (Prod.snd (Ty.nth cellT l (Int.toNat (↑k:Int))))) == (3:Int)) with h2 | h2
  ·exact (pC (st':={ s:=[(0,(zs cellT l)),(3,(zt 4 boolT (out ++ [true]))),(7,(zs cellT l)),(8,(zv (↑l.length:Int))),(9,(zv (zw ((↑k:Int) + (1:Int)))))],h:=[],og:=[] }) 12 [(1,bt),(2,.v (V.d (D.ref (List.flatMap (Ty.enc cellT) l) ((Int.toNat (↑k:Int)) * 4)))),(3,.v (V.d (D.agg (Ty.enc cellT (Ty.nth cellT l (Int.toNat (↑k:Int))))))),(6,bf),(8,bt),(9,.v (Ty.tailV boolT (4:TypeId) (out ++ [true])))] (cP (@appendBool (out) (true) (by omega)) (cP h2 (cP h1 (cP (@loadCell' (l) ([]) (Int.toNat (↑k:Int)) (by omega)) (cP (@iaddrCell (l) ((↑k:Int)) (by omega) (by omega)) (cP h0 nilE)))))) (by kernel_rfl)).to (by (simp only [Int.toNat_natCast,beq_iff_eq,beq_eq_false_iff_ne,ne_eq,Int.natCast_eq_zero] at *;first | (simp (disch:=omega) [Ty.enc,stopAt,Cell.kind,Cell.at,wrapId,toNatPred, *];done) | (subst_vars;simp (disch:=omega) [Ty.enc,stopAt,Cell.kind,Cell.at,wrapId,toNatPred, *];done)))
  ·rcases Bool.eq_false_or_eq_true ((Prod.fst (Prod.snd (Ty.nth cellT l (Int.toNat (↑k:Int))))) == (2:Int)) with h3 | h3
   ·rcases Bool.eq_false_or_eq_true ((↑k:Int) == (0:Int)) with h4 | h4
    ·exact (pC (st':={ s:=[(0,(zs cellT l)),(3,(zt 4 boolT (out ++ [true]))),(7,(zs cellT l)),(8,(zv (↑l.length:Int))),(9,(zv (zw ((↑k:Int) + (1:Int)))))],h:=[],og:=[] }) 12 [(1,bt),(2,.v (V.d (D.ref (List.flatMap (Ty.enc cellT) l) ((Int.toNat (↑k:Int)) * 4)))),(3,.v (V.d (D.agg (Ty.enc cellT (Ty.nth cellT l (Int.toNat (↑k:Int))))))),(6,bf),(8,bf),(10,bt),(12,bt),(13,bt),(14,bt),(15,bt),(16,bt),(17,bt),(18,bt),(19,bt),(20,bt),(21,bt),(22,.v (Ty.tailV boolT (4:TypeId) (out ++ [true])))] (cP (@appendBool (out) (true) (by omega)) (cP h4 (cP h4 (cP h4 (cP h4 (cP h4 (cP h4 (cP h4 (cP h4 (cP h4 (cP h4 (cP h3 (cP h2 (cP h1 (cP (@loadCell' (l) ([]) (Int.toNat (↑k:Int)) (by omega)) (cP (@iaddrCell (l) ((↑k:Int)) (by omega) (by omega)) (cP h0 nilE))))))))))))))))) (by kernel_rfl)).to (by (simp only [Int.toNat_natCast,beq_iff_eq,beq_eq_false_iff_ne,ne_eq,Int.natCast_eq_zero] at *;first | (simp (disch:=omega) [Ty.enc,stopAt,Cell.kind,Cell.at,wrapId,toNatPred, *];done) | (subst_vars;simp (disch:=omega) [Ty.enc,stopAt,Cell.kind,Cell.at,wrapId,toNatPred, *];done)))
    ·exact (pC (st':={ s:=[(0,(zs cellT l)),(3,(zt 4 boolT (out ++ [((Prod.fst (Prod.snd (Prod.snd (Prod.snd (Ty.nth cellT l (Int.toNat (zw ((↑k:Int) - (1:Int))))))))) != (Prod.fst (Prod.snd (Prod.snd (Prod.snd (Ty.nth cellT l (Int.toNat (↑k:Int))))))))]))),(7,(zs cellT l)),(8,(zv (↑l.length:Int))),(9,(zv (zw ((↑k:Int) + (1:Int)))))],h:=[],og:=[] }) 12 [(1,bt),(2,.v (V.d (D.ref (List.flatMap (Ty.enc cellT) l) ((Int.toNat (↑k:Int)) * 4)))),(3,.v (V.d (D.agg (Ty.enc cellT (Ty.nth cellT l (Int.toNat (↑k:Int))))))),(6,bf),(8,bf),(10,bt),(12,bf),(13,bf),(14,bf),(16,bf),(17,.v (V.d (D.ref (List.flatMap (Ty.enc cellT) l) ((Int.toNat (zw ((↑k:Int) - (1:Int)))) * 4)))),(18,bf),(19,bf),(20,.v (V.d (List.getD (Ty.enc cellT (Ty.nth cellT l (Int.toNat (zw ((↑k:Int) - (1:Int)))))) 3 D.und))),(21,bf),(22,bf),(24,bf),(26,bf),(27,.v (Ty.tailV boolT (4:TypeId) (out ++ [((Prod.fst (Prod.snd (Prod.snd (Prod.snd (Ty.nth cellT l (Int.toNat (zw ((↑k:Int) - (1:Int))))))))) != (Prod.fst (Prod.snd (Prod.snd (Prod.snd (Ty.nth cellT l (Int.toNat (↑k:Int))))))))])))] (cP (@appendBool (out) ((Prod.fst (Prod.snd (Prod.snd (Prod.snd (Ty.nth cellT l (Int.toNat (zw ((↑k:Int) - (1:Int))))))))) != (Prod.fst (Prod.snd (Prod.snd (Prod.snd (Ty.nth cellT l (Int.toNat (↑k:Int)))))))) (by omega)) (cP h4 (cP h4 (cP h4 (cP h4 (cP (@loadInt (l) ([(zc [(V.d (D.int IntKind.i32 (Prod.fst (Ty.nth cellT l (Int.toNat (↑k:Int)))))),(zv (Prod.fst (Prod.snd (Ty.nth cellT l (Int.toNat (↑k:Int)))))),(zv (Prod.fst (Prod.snd (Prod.snd (Ty.nth cellT l (Int.toNat (↑k:Int))))))),(zv (Prod.fst (Prod.snd (Prod.snd (Prod.snd (Ty.nth cellT l (Int.toNat (↑k:Int))))))))])]) (Int.toNat (zw ((↑k:Int) - (1:Int)))) 3 (by simp (disch:=omega) only [wrapId] at *;omega) (by simp)) (cP h4 (cP h4 (cP (@iaddrCell (l) (zw ((↑k:Int) - (1:Int))) (by (((try simp only [Bool.not_eq_true',Bool.not_eq_false',Bool.and_eq_true,Bool.and_eq_false_iff,decide_eq_true_eq,decide_eq_false_iff_not,beq_iff_eq,beq_eq_false_iff_ne,bne_iff_ne,bne_eq_false_iff_eq,ne_eq,not_and] at *);(try simp (disch:=omega) only [wrapId] at *)) <;> omega)) (by simp (disch:=omega) only [wrapId] at *;omega)) (cP h4 (cP h4 (cP h4 (cP h4 (cP h3 (cP h2 (cP h1 (cP (@loadCell' (l) ([]) (Int.toNat (↑k:Int)) (by omega)) (cP (@iaddrCell (l) ((↑k:Int)) (by omega) (by omega)) (cP h0 nilE))))))))))))))))))) (by kernel_rfl)).to (by (simp only [Int.toNat_natCast,beq_iff_eq,beq_eq_false_iff_ne,ne_eq,Int.natCast_eq_zero] at *;first | (simp (disch:=omega) [Ty.enc,stopAt,Cell.kind,Cell.at,wrapId,toNatPred, *];done) | (subst_vars;simp (disch:=omega) [Ty.enc,stopAt,Cell.kind,Cell.at,wrapId,toNatPred, *];done)))
   ·exact (pC (st':={ s:=[(0,(zs cellT l)),(3,(zt 4 boolT (out ++ [false]))),(7,(zs cellT l)),(8,(zv (↑l.length:Int))),(9,(zv (zw ((↑k:Int) + (1:Int)))))],h:=[],og:=[] }) 12 [(1,bt),(2,.v (V.d (D.ref (List.flatMap (Ty.enc cellT) l) ((Int.toNat (↑k:Int)) * 4)))),(3,.v (V.d (D.agg (Ty.enc cellT (Ty.nth cellT l (Int.toNat (↑k:Int))))))),(6,bf),(8,bf),(10,bf),(11,.v (Ty.tailV boolT (4:TypeId) (out ++ [false])))] (cP (@appendBool (out) (false) (by omega)) (cP h3 (cP h2 (cP h1 (cP (@loadCell' (l) ([]) (Int.toNat (↑k:Int)) (by omega)) (cP (@iaddrCell (l) ((↑k:Int)) (by omega) (by omega)) (cP h0 nilE))))))) (by kernel_rfl)).to (by (simp only [Int.toNat_natCast,beq_iff_eq,beq_eq_false_iff_ne,ne_eq,Int.natCast_eq_zero] at *;first | (simp (disch:=omega) [Ty.enc,stopAt,Cell.kind,Cell.at,wrapId,toNatPred, *];done) | (subst_vars;simp (disch:=omega) [Ty.enc,stopAt,Cell.kind,Cell.at,wrapId,toNatPred, *];done)))
theorem stopsExit (l:List Cell) (out:List Bool):Rd X0 0 (ntOf X0 FS) (lpBody X0 FS 0) (stS l out l.length) (.exit 0,stSx l out):=by
 have h0:(decide ((↑l.length:Int) < (↑l.length:Int))) = false:=by (((try simp only [Bool.not_eq_true',Bool.not_eq_false',Bool.and_eq_true,Bool.and_eq_false_iff,decide_eq_true_eq,decide_eq_false_iff_not,beq_iff_eq,beq_eq_false_iff_ne,bne_iff_ne,bne_eq_false_iff_eq,ne_eq,not_and] at *);(try simp (disch:=omega) only [wrapId] at *)) <;> omega)
 exact pR 12 [(1,bf)] (cP h0 nilE) (by kernel_rfl)
theorem stopsTo_succ (l:List Cell) (k:Nat):stopsTo l (k + 1) = stopsTo l k ++ [stopAt l k]:=by
 simp [stopsTo,List.range_succ]
theorem stopsTo_length (l:List Cell) (k:Nat):(stopsTo l k).length = k:=by simp [stopsTo]
theorem stopsLoopC (l:List Cell) (hl:l.length < 20000000):∀ j k m,j + k = l.length→j < m→LpC X0 0 (ntOf X0 FS) (lpKeep X0 FS 0) (lpBody X0 FS 0) 0 m (stS l (stopsTo l k) k) (.exit 0,stSx l (stopsTo l l.length)):=by
 intro j
 induction j with
 | zero =>
  intro k m hk hm
  obtain rfl:k = l.length:=by omega
  exact LpC.last (stopsExit l _) (by simp)
 | succ j ih =>
  intro k m hk hm
  obtain ⟨m,rfl⟩:∃ x,m = x + 1:=⟨m - 1,by omega⟩
  refine LpC.next (stopsRound l k (stopsTo l k) hl (by omega) (by rw [stopsTo_length];omega)) ?_
  rw [← stopsTo_succ]
  exact ih (k + 1) m (by omega) (by omega)
theorem stopsLoop:∀ (l:List Cell) (hl:l.length < 20000000),Lp X0 0 (ntOf X0 FS) (lpKeep X0 FS 0) (lpBody X0 FS 0) 0 FUEL (stS l [] 0) (.exit 0,stSx l (stopsTo l l.length)):=fun l hl=>LpC.start (m:=1152921504606846975) (stopsLoopC l hl l.length 0 _ (by omega) (by omega)) (by kernel_rfl)
theorem stops (l:List Cell) (hl:l.length < 20000000):Ans X0 FS [.d (cellT.slD l)] (.d (boolT.slD (stopsTo l l.length))):=by
 exact pV 12 [(1,.l (Ex.exit (0:Nat)) (stSx l (stopsTo l l.length)))] (cE (@stopsLoop (l) hl) nilE) (by kernel_rfl) rfl rfl
abbrev rowT:Ty:=.st (.cons (.sl cellT) (.cons i64 (.cons i64 (.cons i64 (.cons .bool (.cons .bool (.cons i64 .nil)))))))
abbrev Row:=rowT.ty
def Row.cells (r:Row):List Cell:=r.1
def Row.end_ (r:Row):Int:=r.2.2.1
def Row.wrapped (r:Row):Bool:=r.2.2.2.2.1
abbrev pointT:Ty:=.st (.cons i64 (.cons i64 .nil))
abbrev Point:=pointT.ty
abbrev markT:Ty:=.st (.cons i64 (.cons i64 (.cons i64 (.cons i64 .nil))))
abbrev Mark:=markT.ty
def inA (A:List Cell) (c:Cell):List Cell:=if Cell.kind c == 5 then A else A ++ [c]
def inW (row:Int) (W:List Point) (c:Cell) (k:Nat):List Point:=if Cell.kind c == 5 then W else W ++ [(row,(k:Int),())]
abbrev FL:Nat := 45
abbrev rowObV (r:Row):List V:=[.d (cellT.slD r.1),.d (.int .i64 r.2.1),.d (.int .i64 r.2.2.1),.d (.int .i64 r.2.2.2.1),.d (.bool r.2.2.2.2.1),.d (.bool r.2.2.2.2.2.1),.d (.int .i64 r.2.2.2.2.2.2.1)]
abbrev stL1 (rows:List Row) (first:Int) (A:List Cell) (W:List Point) (i:Nat) (r:Row) (k:Nat):St :=
 ⟨[(0,.d (rowT.slD rows)),(1,.d (.int .i64 first)),(5,cellT.tailV 62 A),(6,pointT.tailV 31 W),(7,.d (.int .i64 i)),(15,.d (rowT.slD rows)),(16,.d (.int .i64 rows.length)),(17,.d (.int .i64 i)),(23,.d (cellT.slD (Row.cells r))),(24,.d (.int .i64 (Row.cells r).length)),(25,.d (.int .i64 k))],[.cells (rowObV r)],[]⟩
abbrev stL1x (rows:List Row) (first:Int) (A:List Cell) (W:List Point) (i:Nat) (r:Row):St :=
 ⟨[(0,.d (rowT.slD rows)),(1,.d (.int .i64 first)),(5,cellT.tailV 62 A),(6,pointT.tailV 31 W),(7,.d (.int .i64 i)),(15,.d (rowT.slD rows)),(16,.d (.int .i64 rows.length)),(17,.d (.int .i64 i)),(23,.d (cellT.slD (Row.cells r))),(24,.d (.int .i64 (Row.cells r).length)),(25,.d (.int .i64 (Row.cells r).length)),(26,.d (.bool (decide (((Row.cells r).length:Int) < (Row.cells r).length))))],[.cells (rowObV r)],[]⟩
def inAto (A:List Cell) (cells:List Cell):Nat→List Cell
 | 0=>A
 | k + 1=>inA (inAto A cells k) (cellT.nth cells k)
def inWto (row:Int) (W:List Point) (cells:List Cell):Nat→List Point
 | 0=>W
 | k + 1=>inW row (inWto row W cells k) (cellT.nth cells k) k
def rowA (A:List Cell) (r:Row):List Cell:=inAto A (Row.cells r) (Row.cells r).length
def rowW (row:Int) (W:List Point) (r:Row):List Point:=inWto row W (Row.cells r) (Row.cells r).length
abbrev stL0 (rows:List Row) (first:Int) (A:List Cell) (W:List Point) (i:Nat):St :=
 ⟨[(0,.d (rowT.slD rows)),(1,.d (.int .i64 first)),(5,cellT.tailV 62 A),(6,pointT.tailV 31 W),(15,.d (rowT.slD rows)),(16,.d (.int .i64 rows.length)),(17,.d (.int .i64 i))],[],[]⟩
abbrev stL0x (rows:List Row) (first:Int) (A:List Cell) (W:List Point):St :=
 ⟨[(0,.d (rowT.slD rows)),(1,.d (.int .i64 first)),(5,cellT.tailV 62 A),(6,pointT.tailV 31 W),(15,.d (rowT.slD rows)),(16,.d (.int .i64 rows.length)),(17,.d (.int .i64 rows.length)),(18,.d (.bool (decide ((rows.length:Int) < rows.length))))],[],[]⟩
theorem iaddrRow:∀ (l:List Row) (i:Int) (h0:0≤i) (hi:i < l.length),iaddrV X0 26 (.d (rowT.slD l)) (.d (.int .i64 i)) = some (.d (.ref (l.flatMap rowT.enc) (i.toNat * 7))):=fun l i h0 hi=>iaddrSl (te := 37) (z:=7) (by kernel_rfl) (by kernel_rfl) h0 hi (flat_len _ 7 (Ty.enc_length rowT) l)
theorem loadRow:∀ (l:List Row) (h:List Ob) (k:Nat) (hk:k < l.length),loadV X0 h 37 (.d (.ref (l.flatMap rowT.enc) (k * 7))) = some (.d (.agg (rowT.enc (rowT.nth l k)))):=fun l h k hk=>Pv.loadAgg (e:=rowT) (by kernel_rfl) (by kernel_rfl) hk
def appendCell_T:Prop:=∀ (l:List Cell) (a b c d:Int) (hl:l.length < 17179869184),appendV X0 35 35 (cellT.tailV 62 l) (.full [.int .i32 a,.int .i64 b,.int .i64 c,.int .i64 d] 1) = some (cellT.tailV 62 (l ++ [(a,b,c,d,())]))
theorem appendCell:appendCell_T:=fun l a b c d hl=>appendOne (e:=cellT) (E := 62) (i:=(X0.P.info? 62).getD default) (by kernel_rfl) (by kernel_rfl) (by kernel_rfl) (by decide +kernel) (by decide +kernel) (by kernel_rfl) (a,b,c,d,()) rfl (by simpa using hl)
theorem appendPoint:∀ (l:List Point) (a b:Int) (hl:l.length < 17179869184),appendV X0 53 53 (pointT.tailV 31 l) (.full [.int .i64 a,.int .i64 b] 1) = some (pointT.tailV 31 (l ++ [(a,b,())])):=fun l a b hl=>appendOne (e:=pointT) (E := 31) (i:=(X0.P.info? 31).getD default) (by kernel_rfl) (by kernel_rfl) (by kernel_rfl) (by decide +kernel) (by decide +kernel) (by kernel_rfl) (a,b,()) rfl (by simpa using hl)
theorem lineRound1 (rows:List Row) (first:Int) (A:List Cell) (W:List Point) (i:Nat) (r:Row) (k:Nat) (hA:A.length < 100000000) (hW:W.length < 100000000) (hf:0≤first) (hf2:first < 20000000) (hi:i < 20000000) (hk:k < (Row.cells r).length) (hc:(Row.cells r).length < 20000000):RdC X0 0 (ntOf X0 FL) (lpKeep X0 FL 1) (lpBody X0 FL 1) 1 (stL1 rows first A W i r k) (stL1 rows first (inA A (cellT.nth (Row.cells r) k)) (inW (first + i) W (cellT.nth (Row.cells r) k) k) i r (k + 1)):=by
 have h0:(decide ((↑k:Int) < (↑(List.length (Row.cells r)):Int))) = true:=by (((try simp only [Bool.not_eq_true',Bool.not_eq_false',Bool.and_eq_true,Bool.and_eq_false_iff,decide_eq_true_eq,decide_eq_false_iff_not,beq_iff_eq,beq_eq_false_iff_ne,bne_iff_ne,bne_eq_false_iff_eq,ne_eq,not_and,Int.toNat_natCast] at *);(try simp (disch:=omega) only [wrapId] at *)) <;> omega)
 rcases Bool.eq_false_or_eq_true ((Prod.fst (Prod.snd (Ty.nth cellT (Row.cells r) (Int.toNat (↑k:Int))))) != (5:Int)) with h1 | h1
 ·exact (pC (st':={ s:=[(0,(zs rowT rows)),(1,(zv first)),(5,(zt 62 cellT (A ++ [((Prod.fst (Ty.nth cellT (Row.cells r) (Int.toNat (↑k:Int)))),(Prod.fst (Prod.snd (Ty.nth cellT (Row.cells r) (Int.toNat (↑k:Int))))),(Prod.fst (Prod.snd (Prod.snd (Ty.nth cellT (Row.cells r) (Int.toNat (↑k:Int)))))),(Prod.fst (Prod.snd (Prod.snd (Prod.snd (Ty.nth cellT (Row.cells r) (Int.toNat (↑k:Int))))))),())]))),(6,(zt 31 pointT (W ++ [((zw (first + (↑i:Int))),(↑k:Int),())]))),(7,(zv ↑i)),(15,(zs rowT rows)),(16,(zv (↑rows.length:Int))),(17,(zv ↑i)),(23,(zs cellT (Row.cells r))),(24,(zv (↑(List.length (Row.cells r)):Int))),(25,(zv (zw ((↑k:Int) + (1:Int)))))],h:=[(zc [(zs cellT (Prod.fst r)),(zv (Prod.fst (Prod.snd r))),(zv (Prod.fst (Prod.snd (Prod.snd r)))),(zv (Prod.fst (Prod.snd (Prod.snd (Prod.snd r))))),(zb (Prod.fst (Prod.snd (Prod.snd (Prod.snd (Prod.snd r)))))),(zb (Prod.fst (Prod.snd (Prod.snd (Prod.snd (Prod.snd (Prod.snd r))))))),(zv (Prod.fst (Prod.snd (Prod.snd (Prod.snd (Prod.snd (Prod.snd (Prod.snd r))))))))])],og:=[] }) 12 [(1,bt),(2,.v (V.d (D.ref (List.flatMap (Ty.enc cellT) (Row.cells r)) ((Int.toNat (↑k:Int)) * 4)))),(3,.v (V.d (D.agg (Ty.enc cellT (Ty.nth cellT (Row.cells r) (Int.toNat (↑k:Int))))))),(6,bt),(8,.v (Ty.tailV cellT (62:TypeId) (A ++ [((Prod.fst (Ty.nth cellT (Row.cells r) (Int.toNat (↑k:Int)))),(Prod.fst (Prod.snd (Ty.nth cellT (Row.cells r) (Int.toNat (↑k:Int))))),(Prod.fst (Prod.snd (Prod.snd (Ty.nth cellT (Row.cells r) (Int.toNat (↑k:Int)))))),(Prod.fst (Prod.snd (Prod.snd (Prod.snd (Ty.nth cellT (Row.cells r) (Int.toNat (↑k:Int))))))),())]))),(10,.v (Ty.tailV pointT (31:TypeId) (W ++ [((zw (first + (↑i:Int))),(↑k:Int),())])))] (cP (@appendPoint (W) (zw (first + (↑i:Int))) ((↑k:Int)) (by omega)) (cP (@appendCell (A) (Prod.fst (Ty.nth cellT (Row.cells r) (Int.toNat (↑k:Int)))) (Prod.fst (Prod.snd (Ty.nth cellT (Row.cells r) (Int.toNat (↑k:Int))))) (Prod.fst (Prod.snd (Prod.snd (Ty.nth cellT (Row.cells r) (Int.toNat (↑k:Int)))))) (Prod.fst (Prod.snd (Prod.snd (Prod.snd (Ty.nth cellT (Row.cells r) (Int.toNat (↑k:Int))))))) (by omega)) (cP h1 (cP (@loadCell' (Row.cells r) ([(zc [(zs cellT (Prod.fst r)),(zv (Prod.fst (Prod.snd r))),(zv (Prod.fst (Prod.snd (Prod.snd r)))),(zv (Prod.fst (Prod.snd (Prod.snd (Prod.snd r))))),(zb (Prod.fst (Prod.snd (Prod.snd (Prod.snd (Prod.snd r)))))),(zb (Prod.fst (Prod.snd (Prod.snd (Prod.snd (Prod.snd (Prod.snd r))))))),(zv (Prod.fst (Prod.snd (Prod.snd (Prod.snd (Prod.snd (Prod.snd (Prod.snd r))))))))])]) (Int.toNat (↑k:Int)) (by omega)) (cP (@iaddrCell (Row.cells r) ((↑k:Int)) (by omega) (by omega)) (cP h0 nilE)))))) (by kernel_rfl)).to (by (simp only [Int.toNat_natCast,beq_iff_eq,beq_eq_false_iff_ne,bne_iff_ne,bne_eq_false_iff_eq,ne_eq,Int.natCast_eq_zero,Row.cells] at *;first | (simp (disch:=omega) [Ty.enc,inA,inW,Cell.kind,Cell.at,Row.cells,wrapId,toNatPred, *];done) | (subst_vars;simp (disch:=omega) [Ty.enc,inA,inW,Cell.kind,Cell.at,Row.cells,wrapId,toNatPred, *];done)))
 ·exact (pC (st':={ s:=[(0,(zs rowT rows)),(1,(zv first)),(5,(zt 62 cellT A)),(6,(zt 31 pointT W)),(7,(zv ↑i)),(15,(zs rowT rows)),(16,(zv (↑rows.length:Int))),(17,(zv ↑i)),(23,(zs cellT (Row.cells r))),(24,(zv (↑(List.length (Row.cells r)):Int))),(25,(zv (zw ((↑k:Int) + (1:Int)))))],h:=[(zc [(zs cellT (Prod.fst r)),(zv (Prod.fst (Prod.snd r))),(zv (Prod.fst (Prod.snd (Prod.snd r)))),(zv (Prod.fst (Prod.snd (Prod.snd (Prod.snd r))))),(zb (Prod.fst (Prod.snd (Prod.snd (Prod.snd (Prod.snd r)))))),(zb (Prod.fst (Prod.snd (Prod.snd (Prod.snd (Prod.snd (Prod.snd r))))))),(zv (Prod.fst (Prod.snd (Prod.snd (Prod.snd (Prod.snd (Prod.snd (Prod.snd r))))))))])],og:=[] }) 12 [(1,bt),(2,.v (V.d (D.ref (List.flatMap (Ty.enc cellT) (Row.cells r)) ((Int.toNat (↑k:Int)) * 4)))),(3,.v (V.d (D.agg (Ty.enc cellT (Ty.nth cellT (Row.cells r) (Int.toNat (↑k:Int))))))),(6,bf)] (cP h1 (cP (@loadCell' (Row.cells r) ([(zc [(zs cellT (Prod.fst r)),(zv (Prod.fst (Prod.snd r))),(zv (Prod.fst (Prod.snd (Prod.snd r)))),(zv (Prod.fst (Prod.snd (Prod.snd (Prod.snd r))))),(zb (Prod.fst (Prod.snd (Prod.snd (Prod.snd (Prod.snd r)))))),(zb (Prod.fst (Prod.snd (Prod.snd (Prod.snd (Prod.snd (Prod.snd r))))))),(zv (Prod.fst (Prod.snd (Prod.snd (Prod.snd (Prod.snd (Prod.snd (Prod.snd r))))))))])]) (Int.toNat (↑k:Int)) (by omega)) (cP (@iaddrCell (Row.cells r) ((↑k:Int)) (by omega) (by omega)) (cP h0 nilE)))) (by kernel_rfl)).to (by (simp only [Int.toNat_natCast,beq_iff_eq,beq_eq_false_iff_ne,bne_iff_ne,bne_eq_false_iff_eq,ne_eq,Int.natCast_eq_zero,Row.cells] at *;first | (simp (disch:=omega) [Ty.enc,inA,inW,Cell.kind,Cell.at,Row.cells,wrapId,toNatPred, *];done) | (subst_vars;simp (disch:=omega) [Ty.enc,inA,inW,Cell.kind,Cell.at,Row.cells,wrapId,toNatPred, *];done)))
theorem lineExit1 (rows:List Row) (first:Int) (A:List Cell) (W:List Point) (i:Nat) (r:Row):Rd X0 0 (ntOf X0 FL) (lpBody X0 FL 1) (stL1 rows first A W i r (Row.cells r).length) (.exit 2,stL1x rows first A W i r):=by
 have h0:(decide ((↑(List.length (Row.cells r)):Int) < (↑(List.length (Row.cells r)):Int))) = false:=by (((try simp only [Bool.not_eq_true',Bool.not_eq_false',Bool.and_eq_true,Bool.and_eq_false_iff,decide_eq_true_eq,decide_eq_false_iff_not,beq_iff_eq,beq_eq_false_iff_ne,bne_iff_ne,bne_eq_false_iff_eq,ne_eq,not_and,Int.toNat_natCast] at *);(try simp (disch:=omega) only [wrapId] at *)) <;> omega)
 exact pR 12 [(1,bf)] (cP h0 nilE) (by kernel_rfl)
theorem lineExit0 (rows:List Row) (first:Int) (A:List Cell) (W:List Point):Rd X0 0 (ntOf X0 FL) (lpBody X0 FL 0) (stL0 rows first A W rows.length) (.exit 0,stL0x rows first A W):=by
 have h0:(decide ((↑rows.length:Int) < (↑rows.length:Int))) = false:=by (((try simp only [Bool.not_eq_true',Bool.not_eq_false',Bool.and_eq_true,Bool.and_eq_false_iff,decide_eq_true_eq,decide_eq_false_iff_not,beq_iff_eq,beq_eq_false_iff_ne,bne_iff_ne,bne_eq_false_iff_eq,ne_eq,not_and,Int.toNat_natCast] at *);(try simp (disch:=omega) only [wrapId] at *)) <;> omega)
 exact pR 12 [(1,bf)] (cP h0 nilE) (by kernel_rfl)
theorem inA_len (A:List Cell) (c:Cell):(inA A c).length≤A.length + 1:=by unfold inA;split <;> simp
theorem inW_len (row:Int) (W:List Point) (c:Cell) (k:Nat):(inW row W c k).length≤W.length + 1:=by unfold inW;split <;> simp
theorem inAto_len (A cells:List Cell):∀ k,(inAto A cells k).length≤A.length + k
 | 0=>by simp [inAto]
 | k + 1=>by have:=inA_len (inAto A cells k) (cellT.nth cells k);have:=inAto_len A cells k;simp only [inAto];omega
theorem inWto_len (row:Int) (W:List Point) (cells:List Cell):∀ k,(inWto row W cells k).length≤W.length + k
 | 0=>by simp [inWto]
 | k + 1=>by have:=inW_len row (inWto row W cells k) (cellT.nth cells k) k;have:=inWto_len row W cells k;simp only [inWto];omega
theorem lineLoop1C (rows:List Row) (first:Int) (A:List Cell) (W:List Point) (i:Nat) (r:Row) (hA:A.length < 50000000) (hW:W.length < 50000000) (hf:0≤first) (hf2:first < 20000000) (hi:i < 20000000) (hc:(Row.cells r).length < 20000000) :
  ∀ j k m,j + k = (Row.cells r).length→j < m→LpC X0 0 (ntOf X0 FL) (lpKeep X0 FL 1) (lpBody X0 FL 1) 1 m (stL1 rows first (inAto A (Row.cells r) k) (inWto (first + i) W (Row.cells r) k) i r k) (.exit 2,stL1x rows first (rowA A r) (rowW (first + i) W r) i r):=by
 intro j
 induction j with
 | zero =>
  intro k m hk hm
  obtain rfl:k = (Row.cells r).length:=by omega
  exact LpC.last (lineExit1 _ _ _ _ _ _) (by simp)
 | succ j ih =>
  intro k m hk hm
  obtain ⟨m,rfl⟩:∃ x,m = x + 1:=⟨m - 1,by omega⟩
  have h1:=inAto_len A (Row.cells r) k
  have h2:=inWto_len (first + i) W (Row.cells r) k
  exact LpC.next (lineRound1 rows first (inAto A (Row.cells r) k) (inWto (first + i) W (Row.cells r) k) i r k (by omega) (by omega) hf hf2 hi (by omega) hc) (ih (k + 1) m (by omega) (by omega))
theorem lineLoop1:∀ (rows:List Row) (first:Int) (A:List Cell) (W:List Point) (i:Nat) (r:Row) (hA:A.length < 50000000) (hW:W.length < 50000000) (hf:0≤first) (hf2:first < 20000000) (hi:i < 20000000) (hc:(Row.cells r).length < 20000000),
 Lp X0 0 (ntOf X0 FL) (lpKeep X0 FL 1) (lpBody X0 FL 1) 1 FUEL (stL1 rows first A W i r 0) (.exit 2,stL1x rows first (rowA A r) (rowW (first + i) W r) i r):=fun rows first A W i r hA hW hf hf2 hi hc=>LpC.start (m:=1152921504606846975) (lineLoop1C rows first A W i r hA hW hf hf2 hi hc (Row.cells r).length 0 _ (by omega) (by omega)) (by kernel_rfl)
theorem lineRound0 (rows:List Row) (first:Int) (A:List Cell) (W:List Point) (i:Nat) (hA:A.length < 50000000) (hW:W.length < 50000000) (hf:0≤first) (hf2:first < 20000000) (hi:i < rows.length) (hr:rows.length < 20000000) (hc:(Row.cells (rowT.nth rows i)).length < 20000000):RdC X0 0 (ntOf X0 FL) (lpKeep X0 FL 0) (lpBody X0 FL 0) 0 (stL0 rows first A W i) (stL0 rows first (rowA A (rowT.nth rows i)) (rowW (first + i) W (rowT.nth rows i)) (i + 1)):=by
 have h0:(decide ((↑i:Int) < (↑rows.length:Int))) = true:=by (((try simp only [Bool.not_eq_true',Bool.not_eq_false',Bool.and_eq_true,Bool.and_eq_false_iff,decide_eq_true_eq,decide_eq_false_iff_not,beq_iff_eq,beq_eq_false_iff_ne,bne_iff_ne,bne_eq_false_iff_eq,ne_eq,not_and,Int.toNat_natCast] at *);(try simp (disch:=omega) only [wrapId] at *)) <;> omega)
 exact (pC (st':={ s:=[(0,(zs rowT rows)),(1,(zv first)),(5,(zt 62 cellT (rowA A (Ty.nth rowT rows (Int.toNat (↑i:Int)))))),(6,(zt 31 pointT (rowW (first + (↑i:Int)) W (Ty.nth rowT rows (Int.toNat (↑i:Int)))))),(15,(zs rowT rows)),(16,(zv (↑rows.length:Int))),(17,(zv (zw ((↑i:Int) + (1:Int)))))],h:=[],og:=[] }) 12 [(1,bt),(2,.v (V.d (D.ref (List.flatMap (Ty.enc rowT) rows) ((Int.toNat (↑i:Int)) * 7)))),(3,.v (V.d (D.agg (Ty.enc rowT (Ty.nth rowT rows (Int.toNat (↑i:Int))))))),(6,.l (Ex.exit 2) (stL1x rows first (rowA A (Ty.nth rowT rows (Int.toNat (↑i:Int)))) (rowW (first + (↑i:Int)) W (Ty.nth rowT rows (Int.toNat (↑i:Int)))) i (Ty.nth rowT rows (Int.toNat (↑i:Int)))))] (cE (@lineLoop1 (rows) (first) (A) (W) (i) (Ty.nth rowT rows (Int.toNat (↑i:Int))) hA hW hf hf2 (by omega) (by assumption)) (cP (@loadRow (rows) ([]) (Int.toNat (↑i:Int)) (by omega)) (cP (@iaddrRow (rows) ((↑i:Int)) (by omega) (by omega)) (cP h0 nilE)))) (by kernel_rfl)).to (by simp (disch:=omega) [wrapId, *])
def allTo (rows:List Row):Nat→List Cell
 | 0=>[]
 | i + 1=>rowA (allTo rows i) (rowT.nth rows i)
def whTo (rows:List Row) (first:Int):Nat→List Point
 | 0=>[]
 | i + 1=>rowW (first + i) (whTo rows first i) (rowT.nth rows i)
def cntTo (cells:List Cell):Nat→Nat
 | 0=>0
 | c + 1=>if Cell.kind (cellT.nth cells c) == 5 then cntTo cells c else cntTo cells c + 1
theorem inAto_cnt (A cells:List Cell):∀ c,(inAto A cells c).length = A.length + cntTo cells c
 | 0=>rfl
 | c + 1=>by
  have:=inAto_cnt A cells c
  simp only [inAto,inA,cntTo]
  split
  ·exact this
  ·rw [List.length_append,this];rfl
def cnt1 (r:Row):Nat:=cntTo (Row.cells r) (Row.cells r).length
def sumTo (rows:List Row):Nat→Nat
 | 0=>0
 | i + 1=>sumTo rows i + cnt1 (rowT.nth rows i)
theorem allTo_eq (rows:List Row):∀ i,(allTo rows i).length = sumTo rows i
 | 0=>rfl
 | i + 1=>by
  show (inAto (allTo rows i) (Row.cells (rowT.nth rows i)) _).length = _
  rw [inAto_cnt,allTo_eq rows i];rfl
def smallR (rows:List Row):Prop:=rows.length≤10000000∧(∀ i,(Row.cells (rowT.nth rows i)).length≤100000)∧∀ i,sumTo rows i≤10000000
def mk (A:List Cell) (W:List Point) (k:Nat):Mark:=((pointT.nth W k).1,(pointT.nth W k).2.1,(cellT.nth A k).2.1,(cellT.nth A k).2.2.2.1,())
def inM (A:List Cell) (W:List Point) (bs:List Bool) (M:List Mark) (k:Nat):List Mark:=if boolT.nth bs k then M ++ [mk A W k] else M
def mTo (A:List Cell) (W:List Point) (bs:List Bool):Nat→List Mark
 | 0=>[]
 | k + 1=>inM A W bs (mTo A W bs k) k
abbrev stL2 (rows:List Row) (first:Int) (A:List Cell) (W:List Point) (bs:List Bool) (M:List Mark) (k:Nat):St :=
 ⟨[(0,.d (rowT.slD rows)),(1,.d (.int .i64 first)),(5,cellT.tailV 62 A),(6,pointT.tailV 31 W),(11,markT.tailV 77 M),(48,.d (boolT.slD bs)),(49,.d (.int .i64 bs.length)),(50,.d (.int .i64 k))],[],[]⟩
abbrev stL2x (rows:List Row) (first:Int) (A:List Cell) (W:List Point) (bs:List Bool) (M:List Mark):St :=
 ⟨[(0,.d (rowT.slD rows)),(1,.d (.int .i64 first)),(5,cellT.tailV 62 A),(6,pointT.tailV 31 W),(11,markT.tailV 77 M),(48,.d (boolT.slD bs)),(49,.d (.int .i64 bs.length)),(50,.d (.int .i64 bs.length)),(51,.d (.bool (decide ((bs.length:Int) < bs.length))))],[],[]⟩
def lineA (rows:List Row):List Cell:=allTo rows rows.length
def lineW (rows:List Row) (first:Int):List Point:=whTo rows first rows.length
def lineM (rows:List Row) (first:Int):List Mark:=mTo (lineA rows) (lineW rows first) (stopsTo (lineA rows) (lineA rows).length) (stopsTo (lineA rows) (lineA rows).length).length
def lineMarks (rows:List Row) (first:Int):List Mark :=
 lineM rows first ++ [(first + rows.length - 1,((Row.cells (rowT.nth rows (rows.length - 1))).length:Int),0,Row.end_ (rowT.nth rows (rows.length - 1)),())]
theorem iaddrBool:∀ (l:List Bool) (i:Int) (h0:0≤i) (hi:i < l.length),iaddrV X0 126 (.d (boolT.slD l)) (.d (.int .i64 i)) = some (.d (.ref (l.flatMap boolT.enc) (i.toNat * 1))):=fun l i h0 hi=>iaddrSl (te := 4) (z:=1) (by kernel_rfl) (by kernel_rfl) h0 hi (flat_len _ 1 (Ty.enc_length boolT) l)
theorem loadBool:∀ (l:List Bool) (h:List Ob) (k:Nat) (hk:k < l.length),loadV X0 h 4 (.d (.ref (l.flatMap boolT.enc) (k * 1))) = some (.d (.bool (boolT.nth l k))):=fun l h k hk=>Pv.loadCell (e:=boolT) (o:=0) (z1:=1) (by kernel_rfl) (by kernel_rfl) hk (by decide)
theorem iaddrPoint:∀ (l:List Point) (i:Int) (h0:0≤i) (hi:i < l.length),iaddrV X0 53 (.d (pointT.slD l)) (.d (.int .i64 i)) = some (.d (.ref (l.flatMap pointT.enc) (i.toNat * 2))):=fun l i h0 hi=>iaddrSl (te := 31) (z:=2) (by kernel_rfl) (by kernel_rfl) h0 hi (flat_len _ 2 (Ty.enc_length pointT) l)
theorem loadPoint:∀ (l:List Point) (h:List Ob) (k:Nat) (hk:k < l.length),loadV X0 h 31 (.d (.ref (l.flatMap pointT.enc) (k * 2))) = some (.d (.agg (pointT.enc (pointT.nth l k)))):=fun l h k hk=>Pv.loadAgg (e:=pointT) (by kernel_rfl) (by kernel_rfl) hk
theorem appendMark:∀ (l:List Mark) (a b c d:Int) (hl:l.length < 17179869184),appendV X0 78 78 (markT.tailV 77 l) (.full [.int .i64 a,.int .i64 b,.int .i64 c,.int .i64 d] 1) = some (markT.tailV 77 (l ++ [(a,b,c,d,())])):=fun l a b c d hl=>appendOne (e:=markT) (E := 77) (i:=(X0.P.info? 77).getD default) (by kernel_rfl) (by kernel_rfl) (by kernel_rfl) (by decide +kernel) (by decide +kernel) (by kernel_rfl) (a,b,c,d,()) rfl (by simpa using hl)
theorem allTo_len {rows:List Row} (hs:smallR rows) (i:Nat):(allTo rows i).length≤10000000:=by rw [allTo_eq];exact hs.2.2 i
theorem inAW_len (row:Int) (A:List Cell) (W:List Point) (cells:List Cell) (h:A.length = W.length):∀ k,(inAto A cells k).length = (inWto row W cells k).length
 | 0=>h
 | k + 1=>by simp only [inAto,inWto,inA,inW];have:=inAW_len row A W cells h k;split <;> simp [this]
theorem allWh_len (rows:List Row) (first:Int):∀ i,(allTo rows i).length = (whTo rows first i).length
 | 0=>rfl
 | i + 1=>inAW_len _ _ _ _ (allWh_len rows first i) _
theorem whTo_len {rows:List Row} (hs:smallR rows) (first:Int) (i:Nat):(whTo rows first i).length≤10000000:=by rw [← allWh_len];exact allTo_len hs i
theorem lineLoop0C (rows:List Row) (first:Int) (hs:smallR rows) (hf:0≤first) (hf2:first < 20000000) :
  ∀ j i m,j + i = rows.length→j < m→LpC X0 0 (ntOf X0 FL) (lpKeep X0 FL 0) (lpBody X0 FL 0) 0 m (stL0 rows first (allTo rows i) (whTo rows first i) i) (.exit 0,stL0x rows first (allTo rows rows.length) (whTo rows first rows.length)):=by
 intro j
 induction j with
 | zero =>
  intro i m hi hm
  obtain rfl:i = rows.length:=by omega
  exact LpC.last (lineExit0 _ _ _ _) (by simp)
 | succ j ih =>
  intro i m hi hm
  obtain ⟨m,rfl⟩:∃ x,m = x + 1:=⟨m - 1,by omega⟩
  have h1:=allTo_len hs i
  have h2:=whTo_len hs first i
  have h3:=hs.1
  have h4:=hs.2.1 i
  exact LpC.next (lineRound0 rows first (allTo rows i) (whTo rows first i) i (by omega) (by omega) hf hf2 (by omega) (by omega) (by omega)) (ih (i + 1) m (by omega) (by omega))
theorem lineLoop0:∀ (rows:List Row) (first:Int) (hs:smallR rows) (hf:0≤first) (hf2:first < 20000000),
 Lp X0 0 (ntOf X0 FL) (lpKeep X0 FL 0) (lpBody X0 FL 0) 0 FUEL (stL0 rows first [] [] 0) (.exit 0,stL0x rows first (allTo rows rows.length) (whTo rows first rows.length)):=fun rows first hs hf hf2=>LpC.start (m:=1152921504606846975) (lineLoop0C rows first hs hf hf2 rows.length 0 _ (by omega) (by have:=hs.1;omega)) (by kernel_rfl)
theorem lineRound2 (rows:List Row) (first:Int) (A:List Cell) (W:List Point) (bs:List Bool) (M:List Mark) (k:Nat) (hM:M.length < 50000000) (hk:k < bs.length) (hb:bs.length < 50000000) (hA:bs.length = A.length) (hW:bs.length = W.length):RdC X0 0 (ntOf X0 FL) (lpKeep X0 FL 2) (lpBody X0 FL 2) 0 (stL2 rows first A W bs M k) (stL2 rows first A W bs (inM A W bs M k) (k + 1)):=by
 have h0:(decide ((↑k:Int) < (↑bs.length:Int))) = true:=by (((try simp only [Bool.not_eq_true',Bool.not_eq_false',Bool.and_eq_true,Bool.and_eq_false_iff,decide_eq_true_eq,decide_eq_false_iff_not,beq_iff_eq,beq_eq_false_iff_ne,bne_iff_ne,bne_eq_false_iff_eq,ne_eq,not_and,Int.toNat_natCast] at *);(try simp (disch:=omega) only [wrapId] at *)) <;> omega)
 rcases Bool.eq_false_or_eq_true (Ty.nth boolT bs (Int.toNat (↑k:Int))) with h1 | h1
 ·exact (pC (st':={ s:=[(0,(zs rowT rows)),(1,(zv first)),(5,(zt 62 cellT A)),(6,(zt 31 pointT W)),(11,(zt 77 markT (M ++ [((Prod.fst (Ty.nth pointT W (Int.toNat (↑k:Int)))),(Prod.fst (Prod.snd (Ty.nth pointT W (Int.toNat (↑k:Int))))),(Prod.fst (Prod.snd (Ty.nth cellT A (Int.toNat (↑k:Int))))),(Prod.fst (Prod.snd (Prod.snd (Prod.snd (Ty.nth cellT A (Int.toNat (↑k:Int))))))),())]))),(48,(zs boolT bs)),(49,(zv (↑bs.length:Int))),(50,(zv (zw ((↑k:Int) + (1:Int)))))],h:=[],og:=[] }) 12 [(1,bt),(2,.v (V.d (D.ref (List.flatMap (Ty.enc boolT) bs) ((Int.toNat (↑k:Int)) * 1)))),(3,.v (zb (Ty.nth boolT bs (Int.toNat (↑k:Int))))),(4,bt),(5,.v (V.d (D.ref (List.flatMap (Ty.enc pointT) W) ((Int.toNat (↑k:Int)) * 2)))),(6,.v (V.d (D.agg (Ty.enc pointT (Ty.nth pointT W (Int.toNat (↑k:Int))))))),(7,.v (V.d (D.ref (List.flatMap (Ty.enc cellT) A) ((Int.toNat (↑k:Int)) * 4)))),(8,.v (V.d (List.getD (Ty.enc cellT (Ty.nth cellT A (Int.toNat (↑k:Int)))) 1 D.und))),(9,.v (V.d (D.ref (List.flatMap (Ty.enc cellT) A) ((Int.toNat (↑k:Int)) * 4)))),(10,.v (V.d (List.getD (Ty.enc cellT (Ty.nth cellT A (Int.toNat (↑k:Int)))) 3 D.und))),(11,.v (Ty.tailV markT (77:TypeId) (M ++ [((Prod.fst (Ty.nth pointT W (Int.toNat (↑k:Int)))),(Prod.fst (Prod.snd (Ty.nth pointT W (Int.toNat (↑k:Int))))),(Prod.fst (Prod.snd (Ty.nth cellT A (Int.toNat (↑k:Int))))),(Prod.fst (Prod.snd (Prod.snd (Prod.snd (Ty.nth cellT A (Int.toNat (↑k:Int))))))),())])))] (cP (@appendMark (M) (Prod.fst (Ty.nth pointT W (Int.toNat (↑k:Int)))) (Prod.fst (Prod.snd (Ty.nth pointT W (Int.toNat (↑k:Int))))) (Prod.fst (Prod.snd (Ty.nth cellT A (Int.toNat (↑k:Int))))) (Prod.fst (Prod.snd (Prod.snd (Prod.snd (Ty.nth cellT A (Int.toNat (↑k:Int))))))) (by omega)) (cP (@loadInt (A) ([]) (Int.toNat (↑k:Int)) 3 (by omega) (by simp)) (cP (@iaddrCell (A) ((↑k:Int)) (by omega) (by omega)) (cP (@loadInt (A) ([]) (Int.toNat (↑k:Int)) 1 (by omega) (by simp)) (cP (@iaddrCell (A) ((↑k:Int)) (by omega) (by omega)) (cP (@loadPoint (W) ([]) (Int.toNat (↑k:Int)) (by omega)) (cP (@iaddrPoint (W) ((↑k:Int)) (by omega) (by omega)) (cP h1 (cP (@loadBool (bs) ([]) (Int.toNat (↑k:Int)) (by omega)) (cP (@iaddrBool (bs) ((↑k:Int)) (by omega) (by omega)) (cP h0 nilE))))))))))) (by kernel_rfl)).to (by (simp only [Int.toNat_natCast,beq_iff_eq,beq_eq_false_iff_ne,bne_iff_ne,bne_eq_false_iff_eq,ne_eq,Int.natCast_eq_zero,Row.cells] at *;first | (simp (disch:=omega) [Ty.enc,inM,mk,Cell.kind,Cell.at,Row.cells,wrapId,toNatPred, *];done) | (subst_vars;simp (disch:=omega) [Ty.enc,inM,mk,Cell.kind,Cell.at,Row.cells,wrapId,toNatPred, *];done)))
 ·exact (pC (st':={ s:=[(0,(zs rowT rows)),(1,(zv first)),(5,(zt 62 cellT A)),(6,(zt 31 pointT W)),(11,(zt 77 markT M)),(48,(zs boolT bs)),(49,(zv (↑bs.length:Int))),(50,(zv (zw ((↑k:Int) + (1:Int)))))],h:=[],og:=[] }) 12 [(1,bt),(2,.v (V.d (D.ref (List.flatMap (Ty.enc boolT) bs) ((Int.toNat (↑k:Int)) * 1)))),(3,.v (zb (Ty.nth boolT bs (Int.toNat (↑k:Int))))),(4,bf)] (cP h1 (cP (@loadBool (bs) ([]) (Int.toNat (↑k:Int)) (by omega)) (cP (@iaddrBool (bs) ((↑k:Int)) (by omega) (by omega)) (cP h0 nilE)))) (by kernel_rfl)).to (by (simp only [Int.toNat_natCast,beq_iff_eq,beq_eq_false_iff_ne,bne_iff_ne,bne_eq_false_iff_eq,ne_eq,Int.natCast_eq_zero,Row.cells] at *;first | (simp (disch:=omega) [Ty.enc,inM,mk,Cell.kind,Cell.at,Row.cells,wrapId,toNatPred, *];done) | (subst_vars;simp (disch:=omega) [Ty.enc,inM,mk,Cell.kind,Cell.at,Row.cells,wrapId,toNatPred, *];done)))
theorem lineExit2 (rows:List Row) (first:Int) (A:List Cell) (W:List Point) (bs:List Bool) (M:List Mark):Rd X0 0 (ntOf X0 FL) (lpBody X0 FL 2) (stL2 rows first A W bs M bs.length) (.exit 4,stL2x rows first A W bs M):=by
 have h0:(decide ((↑bs.length:Int) < (↑bs.length:Int))) = false:=by (((try simp only [Bool.not_eq_true',Bool.not_eq_false',Bool.and_eq_true,Bool.and_eq_false_iff,decide_eq_true_eq,decide_eq_false_iff_not,beq_iff_eq,beq_eq_false_iff_ne,bne_iff_ne,bne_eq_false_iff_eq,ne_eq,not_and,Int.toNat_natCast] at *);(try simp (disch:=omega) only [wrapId] at *)) <;> omega)
 exact pR 12 [(1,bf)] (cP h0 nilE) (by kernel_rfl)
theorem inM_len (A:List Cell) (W:List Point) (bs:List Bool) (M:List Mark) (k:Nat):(inM A W bs M k).length≤M.length + 1:=by unfold inM;split <;> simp
theorem mTo_len (A:List Cell) (W:List Point) (bs:List Bool):∀ k,(mTo A W bs k).length≤k
 | 0=>by simp [mTo]
 | k + 1=>by have:=inM_len A W bs (mTo A W bs k) k;have:=mTo_len A W bs k;simp only [mTo];omega
theorem lineLoop2C (rows:List Row) (first:Int) (A:List Cell) (W:List Point) (bs:List Bool) (hb:bs.length < 40000000) (hA:bs.length = A.length) (hW:bs.length = W.length) :
  ∀ j k m,j + k = bs.length→j < m→LpC X0 0 (ntOf X0 FL) (lpKeep X0 FL 2) (lpBody X0 FL 2) 0 m (stL2 rows first A W bs (mTo A W bs k) k) (.exit 4,stL2x rows first A W bs (mTo A W bs bs.length)):=by
 intro j
 induction j with
 | zero =>
  intro k m hk hm
  obtain rfl:k = bs.length:=by omega
  exact LpC.last (lineExit2 _ _ _ _ _ _) (by simp)
 | succ j ih =>
  intro k m hk hm
  obtain ⟨m,rfl⟩:∃ x,m = x + 1:=⟨m - 1,by omega⟩
  have h1:=mTo_len A W bs k
  exact LpC.next (lineRound2 rows first A W bs (mTo A W bs k) k (by omega) (by omega) (by omega) hA hW) (ih (k + 1) m (by omega) (by omega))
theorem lineLoop2:∀ (rows:List Row) (first:Int) (A:List Cell) (W:List Point) (bs:List Bool) (hb:bs.length < 40000000) (hA:bs.length = A.length) (hW:bs.length = W.length),
 Lp X0 0 (ntOf X0 FL) (lpKeep X0 FL 2) (lpBody X0 FL 2) 0 FUEL (stL2 rows first A W bs [] 0) (.exit 4,stL2x rows first A W bs (mTo A W bs bs.length)):=fun rows first A W bs hb hA hW=>LpC.start (m:=1152921504606846975) (lineLoop2C rows first A W bs hb hA hW bs.length 0 _ (by omega) (by omega)) (by kernel_rfl)
theorem lenA {rows:List Row} (hs:smallR rows):(allTo rows rows.length).length < 20000000:=by have:=allTo_len hs rows.length;have:=hs.1;omega
theorem lenAW (rows:List Row) (first:Int):(stopsTo (allTo rows rows.length) (allTo rows rows.length).length).length = (whTo rows first rows.length).length:=by rw [stopsTo_length];exact allWh_len rows first _
theorem lineq (rows:List Row) (first:Int) (h0:0 < rows.length) (hs:smallR rows) (hf:0≤first) (hf2:first < 20000000) (hr:rows.length≤10000000) (hA:(allTo rows rows.length).length < 20000000) (hA2:(stopsTo (allTo rows rows.length) (allTo rows rows.length).length).length < 40000000)
 (hA3:(stopsTo (allTo rows rows.length) (allTo rows rows.length).length).length = (allTo rows rows.length).length) (hW:(stopsTo (allTo rows rows.length) (allTo rows rows.length).length).length = (whTo rows first rows.length).length)
 (hM:(mTo (allTo rows rows.length) (whTo rows first rows.length) (stopsTo (allTo rows rows.length) (allTo rows rows.length).length) (stopsTo (allTo rows rows.length) (allTo rows rows.length).length).length).length < 40000000) (hl:(Row.cells (rowT.nth rows (rows.length - 1))).length≤100000):Ans X0 FL [.d (rowT.slD rows),.d (.int .i64 first)] (markT.tailV 77 (lineMarks rows first)):=by
 exact (pV (v:=V.tail 77 (List.flatMap (Ty.enc markT) ((mTo (allTo rows rows.length) (whTo rows first rows.length) (stopsTo (allTo rows rows.length) (List.length (allTo rows rows.length))) (List.length (stopsTo (allTo rows rows.length) (List.length (allTo rows rows.length))))) ++ [((zw ((zw (first + (↑rows.length:Int))) - (1:Int))),(↑(List.length (Prod.fst (Ty.nth rowT rows (Int.toNat (zw ((↑rows.length:Int) - (1:Int))))))):Int),(0:Int),(Prod.fst (Prod.snd (Prod.snd (Ty.nth rowT rows (Int.toNat (zw ((↑rows.length:Int) - (1:Int)))))))),())])) (List.length ((mTo (allTo rows rows.length) (whTo rows first rows.length) (stopsTo (allTo rows rows.length) (List.length (allTo rows rows.length))) (List.length (stopsTo (allTo rows rows.length) (List.length (allTo rows rows.length))))) ++ [((zw ((zw (first + (↑rows.length:Int))) - (1:Int))),(↑(List.length (Prod.fst (Ty.nth rowT rows (Int.toNat (zw ((↑rows.length:Int) - (1:Int))))))):Int),(0:Int),(Prod.fst (Prod.snd (Prod.snd (Ty.nth rowT rows (Int.toNat (zw ((↑rows.length:Int) - (1:Int)))))))),())]))) 12 [(1,.l (Ex.exit 0) (stL0x rows first (allTo rows rows.length) (whTo rows first rows.length))),(2,.v (V.d (Ty.slD boolT (stopsTo (allTo rows rows.length) (List.length (allTo rows rows.length)))))),(4,.l (Ex.exit 4) (stL2x rows first (allTo rows rows.length) (whTo rows first rows.length) (stopsTo (allTo rows rows.length) (List.length (allTo rows rows.length))) (mTo (allTo rows rows.length) (whTo rows first rows.length) (stopsTo (allTo rows rows.length) (List.length (allTo rows rows.length))) (List.length (stopsTo (allTo rows rows.length) (List.length (allTo rows rows.length))))))),(7,.v (V.d (D.ref (List.flatMap (Ty.enc rowT) rows) ((Int.toNat (zw ((↑rows.length:Int) - (1:Int)))) * 7)))),(8,.v (V.d (D.agg (Ty.enc rowT (Ty.nth rowT rows (Int.toNat (zw ((↑rows.length:Int) - (1:Int))))))))),(15,.v (Ty.tailV markT (77:TypeId) ((mTo (allTo rows rows.length) (whTo rows first rows.length) (stopsTo (allTo rows rows.length) (List.length (allTo rows rows.length))) (List.length (stopsTo (allTo rows rows.length) (List.length (allTo rows rows.length))))) ++ [((zw ((zw (first + (↑rows.length:Int))) - (1:Int))),(↑(List.length (Prod.fst (Ty.nth rowT rows (Int.toNat (zw ((↑rows.length:Int) - (1:Int))))))):Int),(0:Int),(Prod.fst (Prod.snd (Prod.snd (Ty.nth rowT rows (Int.toNat (zw ((↑rows.length:Int) - (1:Int)))))))),())])))] (cP (@appendMark (mTo (allTo rows rows.length) (whTo rows first rows.length) (stopsTo (allTo rows rows.length) (List.length (allTo rows rows.length))) (List.length (stopsTo (allTo rows rows.length) (List.length (allTo rows rows.length))))) (zw ((zw (first + (↑rows.length:Int))) - (1:Int))) ((↑(List.length (Prod.fst (Ty.nth rowT rows (Int.toNat (zw ((↑rows.length:Int) - (1:Int))))))):Int)) ((0:Int)) (Prod.fst (Prod.snd (Prod.snd (Ty.nth rowT rows (Int.toNat (zw ((↑rows.length:Int) - (1:Int)))))))) (by omega)) (cP (@loadRow (rows) ([]) (Int.toNat (zw ((↑rows.length:Int) - (1:Int)))) (by simp (disch:=omega) only [wrapId] at *;omega)) (cP (@iaddrRow (rows) (zw ((↑rows.length:Int) - (1:Int))) (by simp (disch:=omega) only [wrapId] at *;omega) (by simp (disch:=omega) only [wrapId] at *;omega)) (cE (@lineLoop2 (rows) (first) (allTo rows rows.length) (whTo rows first rows.length) (stopsTo (allTo rows rows.length) (List.length (allTo rows rows.length))) hA2 hA3 hW) (cC (@stops (allTo rows rows.length) hA) (cE (@lineLoop0 (rows) (first) hs hf hf2) nilE)))))) (by kernel_rfl) rfl rfl).to (by (simp only [Int.toNat_natCast,beq_iff_eq,beq_eq_false_iff_ne,bne_iff_ne,bne_eq_false_iff_eq,ne_eq,Int.natCast_eq_zero,Row.cells] at *;first | (simp (disch:=omega) [Ty.enc,lineMarks,lineM,lineA,lineW,Row.end_,inM,mk,Cell.kind,Cell.at,Row.cells,wrapId,toNatPred,Ty.slD, *];done) | (subst_vars;simp (disch:=omega) [Ty.enc,lineMarks,lineM,lineA,lineW,Row.end_,inM,mk,Cell.kind,Cell.at,Row.cells,wrapId,toNatPred,Ty.slD, *];done)))
def goesOn (rows:List Row) (i n:Nat):Bool:=decide (i + n < rows.length) && Row.wrapped (rowT.nth rows (i + n))
abbrev FM:Nat := 29
abbrev stM1 (rows:List Row) (M:List Mark) (i n:Nat):St :=
 ⟨[(0,.d (rowT.slD rows)),(3,markT.tailV 77 M),(4,.d (.int .i64 i)),(5,.d (.int .i64 n))],[],[]⟩
abbrev stM1x (rows:List Row) (M:List Mark) (i n:Nat):St :=
 ⟨[(0,.d (rowT.slD rows)),(3,markT.tailV 77 M),(4,.d (.int .i64 i)),(5,.d (.int .i64 n)),(24,.d (.bool (goesOn rows i n)))],[],[]⟩
theorem loadRowB:∀ (l:List Row) (h:List Ob) (k o:Nat) (hk:k < l.length) (ho:o < 7),loadV X0 h 4 (.d (.ref (l.flatMap rowT.enc) (k * 7 + o))) = some (.d ((rowT.enc (rowT.nth l k)).getD o .und)):=fun l h k o hk ho=>Pv.loadCell (e:=rowT) (z1:=1) (by kernel_rfl) (by kernel_rfl) hk ho
theorem ltF {a b:Nat} (h:b≤a):decide (a < b) = false:=decide_eq_false (by omega)
theorem ltT {a b:Nat} (h:a < b):decide (a < b) = true:=decide_eq_true h
theorem toNatAdd (a b:Nat):((a:Int) + b).toNat = a + b:=by omega
theorem marksRound1 (rows:List Row) (M:List Mark) (i n:Nat) (hr:rows.length≤10000000) (hi:i < rows.length) (hn:n≤10000000) (h1:i + n < rows.length) (h2:Row.wrapped (rowT.nth rows (i + n)) = true):RdC X0 0 (ntOf X0 FM) (lpKeep X0 FM 1) (lpBody X0 FM 1) 0 (stM1 rows M i n) (stM1 rows M i (n + 1)):=by
 have h0:(decide ((IntKind.wrap IntKind.i64 ((↑i:Int) + (↑n:Int))) < (↑rows.length:Int))) = true:=by (((try simp only [Bool.not_eq_true',Bool.not_eq_false',Bool.and_eq_true,Bool.and_eq_false_iff,decide_eq_true_eq,decide_eq_false_iff_not,beq_iff_eq,beq_eq_false_iff_ne,bne_iff_ne,bne_eq_false_iff_eq,ne_eq,not_and,Int.toNat_natCast] at *);(try simp (disch:=omega) only [wrapId,toNatAdd] at *)) <;> first | omega | assumption)
 have h1:(Prod.fst (Prod.snd (Prod.snd (Prod.snd (Prod.snd (Ty.nth rowT rows (Int.toNat (IntKind.wrap IntKind.i64 ((↑i:Int) + (↑n:Int)))))))))) = true:=by (((try simp only [Bool.not_eq_true',Bool.not_eq_false',Bool.and_eq_true,Bool.and_eq_false_iff,decide_eq_true_eq,decide_eq_false_iff_not,beq_iff_eq,beq_eq_false_iff_ne,bne_iff_ne,bne_eq_false_iff_eq,ne_eq,not_and,Int.toNat_natCast] at *);(try simp (disch:=omega) only [wrapId,toNatAdd] at *)) <;> first | omega | assumption)
 exact (pC (st':={ s:=[(0,(zs rowT rows)),(3,(zt 77 markT M)),(4,(zv ↑i)),(5,(zv (zw ((↑n:Int) + (1:Int)))))],h:=[],og:=[] }) 12 [(3,bt),(4,bt),(5,bt),(6,bt),(8,bt),(9,.v (V.d (D.ref (List.flatMap (Ty.enc rowT) rows) ((Int.toNat (zw ((↑i:Int) + (↑n:Int)))) * 7)))),(10,bt),(11,bt),(12,.v (V.d (List.getD (Ty.enc rowT (Ty.nth rowT rows (Int.toNat (zw ((↑i:Int) + (↑n:Int)))))) 4 D.und))),(13,bt),(14,bt)] (cP h1 (cP h0 (cP (@loadRowB (rows) ([]) (Int.toNat (zw ((↑i:Int) + (↑n:Int)))) 4 (by simp (disch:=omega) only [wrapId] at *;omega) (by simp)) (cP h0 (cP h0 (cP (@iaddrRow (rows) (zw ((↑i:Int) + (↑n:Int))) (by simp (disch:=omega) only [wrapId] at *;omega) (by simp (disch:=omega) only [wrapId] at *;omega)) (cP h0 (cP h0 (cP h0 (cP h0 (cP h0 nilE))))))))))) (by kernel_rfl)).to (by simp (disch:=omega) [wrapId, *])
theorem marksExit1a (rows:List Row) (M:List Mark) (i n:Nat) (hr:rows.length≤10000000) (hi:i < rows.length) (hn:n≤10000000) (h1:rows.length≤i + n):Rd X0 0 (ntOf X0 FM) (lpBody X0 FM 1) (stM1 rows M i n) (.exit 2,stM1x rows M i n):=by
 have h0:(decide ((IntKind.wrap IntKind.i64 ((↑i:Int) + (↑n:Int))) < (↑rows.length:Int))) = false:=by (((try simp only [Bool.not_eq_true',Bool.not_eq_false',Bool.and_eq_true,Bool.and_eq_false_iff,decide_eq_true_eq,decide_eq_false_iff_not,beq_iff_eq,beq_eq_false_iff_ne,bne_iff_ne,bne_eq_false_iff_eq,ne_eq,not_and,Int.toNat_natCast] at *);(try simp (disch:=omega) only [wrapId,toNatAdd] at *)) <;> first | omega | assumption)
 exact (pR (r:=((Ex.exit 2),{ s:=[(0,(zs rowT rows)),(3,(zt 77 markT M)),(4,(zv ↑i)),(5,(zv ↑n)),(24,(zb false))],h:=[],og:=[] })) 12 [(3,bf),(4,bf),(5,bf),(6,bf),(7,bf),(8,bf),(9,bf),(10,bf)] (cP h0 (cP h0 (cP h0 (cP h0 (cP h0 (cP h0 (cP h0 (cP h0 nilE)))))))) (by kernel_rfl)).to (by ((try simp (disch:=omega) only [wrapId,toNatAdd,goesOn,Row.wrapped] at *);(try simp only [Int.toNat_natCast,beq_iff_eq,beq_eq_false_iff_ne,bne_iff_ne,bne_eq_false_iff_eq,ne_eq,Int.natCast_eq_zero,Row.cells] at *);first | (simp (disch:=omega) [Ty.enc,lineMarks,lineM,lineA,lineW,Row.end_,inM,mk,Cell.kind,Cell.at,Row.cells,wrapId,toNatPred,toNatAdd,goesOn,ltF,ltT,Row.wrapped,Ty.slD, *];done) | (subst_vars;simp (disch:=omega) [Ty.enc,lineMarks,lineM,lineA,lineW,Row.end_,inM,mk,Cell.kind,Cell.at,Row.cells,wrapId,toNatPred,toNatAdd,goesOn,ltF,ltT,Row.wrapped,Ty.slD, *];done)))
theorem marksExit1b (rows:List Row) (M:List Mark) (i n:Nat) (hr:rows.length≤10000000) (hi:i < rows.length) (hn:n≤10000000) (h1:i + n < rows.length) (h2:Row.wrapped (rowT.nth rows (i + n)) = false):Rd X0 0 (ntOf X0 FM) (lpBody X0 FM 1) (stM1 rows M i n) (.exit 2,stM1x rows M i n):=by
 have h0:(decide ((IntKind.wrap IntKind.i64 ((↑i:Int) + (↑n:Int))) < (↑rows.length:Int))) = true:=by (((try simp only [Bool.not_eq_true',Bool.not_eq_false',Bool.and_eq_true,Bool.and_eq_false_iff,decide_eq_true_eq,decide_eq_false_iff_not,beq_iff_eq,beq_eq_false_iff_ne,bne_iff_ne,bne_eq_false_iff_eq,ne_eq,not_and,Int.toNat_natCast] at *);(try simp (disch:=omega) only [wrapId,toNatAdd] at *)) <;> first | omega | assumption)
 have h1:(Prod.fst (Prod.snd (Prod.snd (Prod.snd (Prod.snd (Ty.nth rowT rows (Int.toNat (IntKind.wrap IntKind.i64 ((↑i:Int) + (↑n:Int)))))))))) = false:=by (((try simp only [Bool.not_eq_true',Bool.not_eq_false',Bool.and_eq_true,Bool.and_eq_false_iff,decide_eq_true_eq,decide_eq_false_iff_not,beq_iff_eq,beq_eq_false_iff_ne,bne_iff_ne,bne_eq_false_iff_eq,ne_eq,not_and,Int.toNat_natCast] at *);(try simp (disch:=omega) only [wrapId,toNatAdd] at *)) <;> first | omega | assumption)
 exact (pR (r:=((Ex.exit 2),{ s:=[(0,(zs rowT rows)),(3,(zt 77 markT M)),(4,(zv ↑i)),(5,(zv ↑n)),(24,(zb (Prod.fst (Prod.snd (Prod.snd (Prod.snd (Prod.snd (Ty.nth rowT rows (Int.toNat (zw ((↑i:Int) + (↑n:Int))))))))))))],h:=[],og:=[] })) 12 [(3,bt),(4,bt),(5,bt),(6,bt),(8,bt),(9,.v (V.d (D.ref (List.flatMap (Ty.enc rowT) rows) ((Int.toNat (zw ((↑i:Int) + (↑n:Int)))) * 7)))),(10,bt),(11,bt),(12,.v (V.d (List.getD (Ty.enc rowT (Ty.nth rowT rows (Int.toNat (zw ((↑i:Int) + (↑n:Int)))))) 4 D.und))),(13,bt),(14,bf)] (cP h1 (cP h0 (cP (@loadRowB (rows) ([]) (Int.toNat (zw ((↑i:Int) + (↑n:Int)))) 4 (by simp (disch:=omega) only [wrapId] at *;omega) (by simp)) (cP h0 (cP h0 (cP (@iaddrRow (rows) (zw ((↑i:Int) + (↑n:Int))) (by simp (disch:=omega) only [wrapId] at *;omega) (by simp (disch:=omega) only [wrapId] at *;omega)) (cP h0 (cP h0 (cP h0 (cP h0 (cP h0 nilE))))))))))) (by kernel_rfl)).to (by ((try simp (disch:=omega) only [wrapId,toNatAdd,goesOn,Row.wrapped] at *);(try simp only [Int.toNat_natCast,beq_iff_eq,beq_eq_false_iff_ne,bne_iff_ne,bne_eq_false_iff_eq,ne_eq,Int.natCast_eq_zero,Row.cells] at *);first | (simp (disch:=omega) [Ty.enc,lineMarks,lineM,lineA,lineW,Row.end_,inM,mk,Cell.kind,Cell.at,Row.cells,wrapId,toNatPred,toNatAdd,goesOn,ltF,ltT,Row.wrapped,Ty.slD, *];done) | (subst_vars;simp (disch:=omega) [Ty.enc,lineMarks,lineM,lineA,lineW,Row.end_,inM,mk,Cell.kind,Cell.at,Row.cells,wrapId,toNatPred,toNatAdd,goesOn,ltF,ltT,Row.wrapped,Ty.slD, *];done)))
def runFrom (rows:List Row) (i:Nat):Nat→Nat→Nat
 | 0,n=>n
 | f + 1,n=>if goesOn rows i n then runFrom rows i f (n + 1) else n
def runN (rows:List Row) (i:Nat):Nat:=runFrom rows i rows.length 1
theorem runFrom_le (rows:List Row) (i:Nat):∀ f n,i + n≤rows.length→n≤runFrom rows i f n∧i + runFrom rows i f n≤rows.length
 | 0,n,h=>⟨Nat.le_refl _,h⟩
 | f + 1,n,h=>by
  simp only [runFrom]
  split
  ·rename_i hg
   simp only [goesOn,Bool.and_eq_true,decide_eq_true_eq] at hg
   have:=runFrom_le rows i f (n + 1) (by omega)
   omega
  ·omega
theorem marksLoop1C (rows:List Row) (M:List Mark) (i:Nat) (hr:rows.length≤10000000) (hi:i < rows.length) :
  ∀ f n m,rows.length≤i + n + f→f < m→i + n≤rows.length→LpC X0 0 (ntOf X0 FM) (lpKeep X0 FM 1) (lpBody X0 FM 1) 0 m (stM1 rows M i n) (.exit 2,stM1x rows M i (runFrom rows i f n)):=by
 intro f
 induction f with
 | zero =>
  intro n m h1 h2 h3
  exact LpC.last (marksExit1a rows M i n hr hi (by omega) (by omega)) (by simp)
 | succ f ih =>
  intro n m h1 h2 h3
  obtain ⟨m,rfl⟩:∃ x,m = x + 1:=⟨m - 1,by omega⟩
  simp only [runFrom]
  by_cases hl:i + n < rows.length
  ·cases hw:Row.wrapped (rowT.nth rows (i + n)) with
   | true =>
    have hg:goesOn rows i n = true:=by simp [goesOn,hl,hw]
    rw [if_pos hg]
    exact LpC.next (marksRound1 rows M i n hr hi (by omega) hl hw) (ih (n + 1) m (by omega) (by omega) (by omega))
   | false =>
    have hg:goesOn rows i n = false:=by simp [goesOn,hw]
    rw [hg]
    exact LpC.last (marksExit1b rows M i n hr hi (by omega) hl hw) (by simp)
  ·have hg:goesOn rows i n = false:=by simp [goesOn,hl]
   rw [hg]
   exact LpC.last (marksExit1a rows M i n hr hi (by omega) (by omega)) (by simp)
theorem marksLoop1:∀ (rows:List Row) (M:List Mark) (i:Nat) (hr:rows.length≤10000000) (hi:i < rows.length),
 Lp X0 0 (ntOf X0 FM) (lpKeep X0 FM 1) (lpBody X0 FM 1) 0 FUEL (stM1 rows M i 1) (.exit 2,stM1x rows M i (runN rows i)):=fun rows M i hr hi=>LpC.start (m:=1152921504606846975) (marksLoop1C rows M i hr hi rows.length 1 _ (by omega) (by omega) (by omega)) (by kernel_rfl)
theorem line:∀ (rows:List Row) (first:Int) (h0:0 < rows.length) (hs:smallR rows) (hf:0≤first) (hf2:first < 20000000),Ans X0 FL [.d (rowT.slD rows),.d (.int .i64 first)] (markT.tailV 77 (lineMarks rows first)):=fun rows first h0 hs hf hf2 =>
 lineq rows first h0 hs hf hf2 hs.1 (lenA hs) (by rw [stopsTo_length];have:=lenA hs;omega) (stopsTo_length _ _) (lenAW rows first) (by
  have h1:=mTo_len (allTo rows rows.length) (whTo rows first rows.length) (stopsTo (allTo rows rows.length) (allTo rows rows.length).length) (stopsTo (allTo rows rows.length) (allTo rows rows.length).length).length
  have h2:=lenA hs
  have h3:=stopsTo_length (allTo rows rows.length) (allTo rows rows.length).length
  omega) (hs.2.1 _)
abbrev sub (rows:List Row) (i n:Nat):List Row:=(rows.take (i + n)).drop i
abbrev stM0 (rows:List Row) (M:List Mark) (i:Nat):St:=⟨[(0,.d (rowT.slD rows)),(3,markT.tailV 77 M),(4,.d (.int .i64 i))],[],[]⟩
abbrev stM0x (rows:List Row) (M:List Mark):St:=⟨[(0,.d (rowT.slD rows)),(3,markT.tailV 77 M),(4,.d (.int .i64 rows.length)),(9,.d (.bool (decide ((rows.length:Int) < rows.length))))],[],[]⟩
theorem sliceRow:∀ (l:List Row) (a b:Int) (h0:0≤a) (h1:a≤b) (h2:b≤l.length),sliceV X0 26 (.d (rowT.slD l)) (some (.d (.int .i64 a))) (some (.d (.int .i64 b))) none = some (.d (rowT.slD ((l.take b.toNat).drop a.toNat))):=fun l a b h0 h1 h2=>sliceSl (te := 37) (by kernel_rfl) (by kernel_rfl) h0 h1 h2
theorem appendMarks:∀ (l m:List Mark) (hl:l.length < 8589934592) (hm:m.length < 8589934592),appendV X0 78 78 (markT.tailV 77 l) (markT.tailV 77 m) = some (markT.tailV 77 (l ++ m)):=fun l m hl hm=>appendList (e:=markT) (E := 77) (i:=(X0.P.info? 77).getD default) (by kernel_rfl) (by kernel_rfl) (by kernel_rfl) (by kernel_rfl) (by decide +kernel) (by decide +kernel) (by kernel_rfl) (fun _=>rfl) rfl (by simpa using hl) (by simpa using hm)
theorem marksRound0 (rows:List Row) (M:List Mark) (i:Nat) (hr:rows.length≤10000000) (hi:i < rows.length) (hM:M.length < 50000000) (hs:smallR ((rows.take (i + runN rows i)).drop i)) (hp:0 < ((rows.take (i + runN rows i)).drop i).length) (hL:(lineMarks ((rows.take (i + runN rows i)).drop i) i).length < 40000000) (hn:runN rows i≤10000000) (hn2:i + runN rows i≤rows.length):RdC X0 0 (ntOf X0 FM) (lpKeep X0 FM 0) (lpBody X0 FM 0) 0 (stM0 rows M i) (stM0 rows (M ++ lineMarks ((rows.take (i + runN rows i)).drop i) i) (i + runN rows i)):=by
 have h0:(decide ((↑i:Int) < (↑rows.length:Int))) = true:=by (((try simp only [Bool.not_eq_true',Bool.not_eq_false',Bool.and_eq_true,Bool.and_eq_false_iff,decide_eq_true_eq,decide_eq_false_iff_not,beq_iff_eq,beq_eq_false_iff_ne,bne_iff_ne,bne_eq_false_iff_eq,ne_eq,not_and,Int.toNat_natCast] at *);(try simp (disch:=omega) only [wrapId,toNatAdd] at *)) <;> first | omega | assumption)
 exact (pC (st':={ s:=[(0,(zs rowT rows)),(3,(zt 77 markT (M ++ (lineMarks (List.drop (Int.toNat (↑i:Int)) (List.take (Int.toNat (zw ((↑i:Int) + (↑(Points.runN rows i):Int)))) rows)) (↑i:Int))))),(4,(zv (zw ((↑i:Int) + (↑(Points.runN rows i):Int)))))],h:=[],og:=[] }) 12 [(2,bt),(3,.l (Ex.exit 2) (stM1x rows M i (Points.runN rows i))),(5,.v (V.d (Ty.slD rowT (List.drop (Int.toNat (↑i:Int)) (List.take (Int.toNat (zw ((↑i:Int) + (↑(Points.runN rows i):Int)))) rows))))),(6,.v (Ty.tailV markT (77:TypeId) (lineMarks (List.drop (Int.toNat (↑i:Int)) (List.take (Int.toNat (zw ((↑i:Int) + (↑(Points.runN rows i):Int)))) rows)) (↑i:Int)))),(7,.v (Ty.tailV markT (77:TypeId) (M ++ (lineMarks (List.drop (Int.toNat (↑i:Int)) (List.take (Int.toNat (zw ((↑i:Int) + (↑(Points.runN rows i):Int)))) rows)) (↑i:Int)))))] (cP (@appendMarks (M) (lineMarks (List.drop (Int.toNat (↑i:Int)) (List.take (Int.toNat (zw ((↑i:Int) + (↑(Points.runN rows i):Int)))) rows)) (↑i:Int)) (by omega) (by (((try simp only [Bool.not_eq_true',Bool.not_eq_false',Bool.and_eq_true,Bool.and_eq_false_iff,decide_eq_true_eq,decide_eq_false_iff_not,beq_iff_eq,beq_eq_false_iff_ne,bne_iff_ne,bne_eq_false_iff_eq,ne_eq,not_and,Int.toNat_natCast] at *);(try simp (disch:=omega) only [wrapId,toNatAdd] at *)) <;> first | omega | assumption))) (cC (@line (List.drop (Int.toNat (↑i:Int)) (List.take (Int.toNat (zw ((↑i:Int) + (↑(Points.runN rows i):Int)))) rows)) ((↑i:Int)) (by (((try simp only [Bool.not_eq_true',Bool.not_eq_false',Bool.and_eq_true,Bool.and_eq_false_iff,decide_eq_true_eq,decide_eq_false_iff_not,beq_iff_eq,beq_eq_false_iff_ne,bne_iff_ne,bne_eq_false_iff_eq,ne_eq,not_and,Int.toNat_natCast] at *);(try simp (disch:=omega) only [wrapId,toNatAdd] at *)) <;> first | omega | assumption)) (by (((try simp only [Bool.not_eq_true',Bool.not_eq_false',Bool.and_eq_true,Bool.and_eq_false_iff,decide_eq_true_eq,decide_eq_false_iff_not,beq_iff_eq,beq_eq_false_iff_ne,bne_iff_ne,bne_eq_false_iff_eq,ne_eq,not_and,Int.toNat_natCast] at *);(try simp (disch:=omega) only [wrapId,toNatAdd] at *)) <;> first | omega | assumption)) (by omega) (by omega)) (cP (@sliceRow (rows) ((↑i:Int)) (zw ((↑i:Int) + (↑(Points.runN rows i):Int))) (by omega) (by simp (disch:=omega) only [wrapId] at *;omega) (by simp (disch:=omega) only [wrapId] at *;omega)) (cE (@marksLoop1 (rows) (M) (i) hr hi) (cP h0 nilE))))) (by kernel_rfl)).to (by ((try simp (disch:=omega) only [wrapId,toNatAdd,goesOn,Row.wrapped] at *);(try simp only [Int.toNat_natCast,beq_iff_eq,beq_eq_false_iff_ne,bne_iff_ne,bne_eq_false_iff_eq,ne_eq,Int.natCast_eq_zero,Row.cells] at *);first | (simp (disch:=omega) [Ty.enc,lineMarks,lineM,lineA,lineW,Row.end_,inM,mk,Cell.kind,Cell.at,Row.cells,wrapId,toNatPred,toNatAdd,goesOn,ltF,ltT,Row.wrapped,Ty.slD, *];done) | (subst_vars;simp (disch:=omega) [Ty.enc,lineMarks,lineM,lineA,lineW,Row.end_,inM,mk,Cell.kind,Cell.at,Row.cells,wrapId,toNatPred,toNatAdd,goesOn,ltF,ltT,Row.wrapped,Ty.slD, *];done)))
theorem marksExit0 (rows:List Row) (M:List Mark):Rd X0 0 (ntOf X0 FM) (lpBody X0 FM 0) (stM0 rows M rows.length) (.exit 0,stM0x rows M):=by
 have h0:(decide ((↑rows.length:Int) < (↑rows.length:Int))) = false:=by (((try simp only [Bool.not_eq_true',Bool.not_eq_false',Bool.and_eq_true,Bool.and_eq_false_iff,decide_eq_true_eq,decide_eq_false_iff_not,beq_iff_eq,beq_eq_false_iff_ne,bne_iff_ne,bne_eq_false_iff_eq,ne_eq,not_and,Int.toNat_natCast] at *);(try simp (disch:=omega) only [wrapId,toNatAdd] at *)) <;> first | omega | assumption)
 exact pR 12 [(2,bf)] (cP h0 nilE) (by kernel_rfl)
abbrev part (rows:List Row) (i:Nat):List Row:=(rows.take (i + runN rows i)).drop i
def marksFrom (rows:List Row):Nat→Nat→List Mark→List Mark
 | 0,_,M=>M
 | f + 1,i,M=>if i < rows.length then marksFrom rows f (i + runN rows i) (M ++ lineMarks (part rows i) i) else M
def allMarks (rows:List Row):List Mark:=marksFrom rows rows.length 0 []
theorem part_len (rows:List Row) (i:Nat) (hi:i < rows.length):(part rows i).length = runN rows i:=by
 have:=runFrom_le rows i rows.length 1 (by omega)
 simp only [part,List.length_drop,List.length_take]
 unfold runN
 omega
theorem sumTo_part (rows:List Row) (i:Nat):∀ t,sumTo rows i + sumTo (part rows i) t≤sumTo rows (i + t)
 | 0=>Nat.le_refl _
 | t + 1=>by
  have ih:=sumTo_part rows i t
  show sumTo rows i + (sumTo (part rows i) t + cnt1 (rowT.nth (part rows i) t))≤sumTo rows (i + t) + cnt1 (rowT.nth rows (i + t))
  by_cases h:i + t < i + runN rows i
  ·have e:rowT.nth (part rows i) t = rowT.nth rows (i + t):=by
    simp only [Ty.nth,part,List.getD_eq_getElem?_getD,List.getElem?_drop,List.getElem?_take,if_pos h]
   rw [e];omega
  ·have e:rowT.nth (part rows i) t = rowT.dflt:=by
    simp only [Ty.nth,part,List.getD_eq_getElem?_getD,List.getElem?_drop,List.getElem?_take,if_neg h,Option.getD_none]
   rw [e]
   have e2:cnt1 rowT.dflt = 0:=rfl
   omega
theorem part_small {rows:List Row} (hs:smallR rows) (i:Nat):smallR (part rows i):=by
 refine ⟨by simp only [part,List.length_drop,List.length_take];have:=hs.1;omega,fun j=>?_,fun j=>by have:=sumTo_part rows i j;have:=hs.2.2 (i + j);omega⟩
 by_cases h:i + j < i + runN rows i
 ·have e:rowT.nth (part rows i) j = rowT.nth rows (i + j):=by
   simp only [Ty.nth,part,List.getD_eq_getElem?_getD,List.getElem?_drop,List.getElem?_take,if_pos h]
  rw [e]
  exact hs.2.1 _
 ·have e:rowT.nth (part rows i) j = rowT.dflt:=by
   simp only [Ty.nth,part,List.getD_eq_getElem?_getD,List.getElem?_drop,List.getElem?_take,if_neg h,Option.getD_none]
  rw [e]
  simp [Row.cells,Ty.dflt]
theorem lineMarks_len (rows:List Row) (hs:smallR rows) (first:Int):(lineMarks rows first).length≤sumTo rows rows.length + 1:=by
 have h1:=mTo_len (lineA rows) (lineW rows first) (stopsTo (lineA rows) (lineA rows).length) (stopsTo (lineA rows) (lineA rows).length).length
 have h2:=stopsTo_length (lineA rows) (lineA rows).length
 have h3:=allTo_eq rows rows.length
 unfold lineMarks lineM
 rw [List.length_append]
 simp only [List.length_cons,List.length_nil]
 unfold lineA at *
 omega
theorem marksLoop0C (rows:List Row) (hs:smallR rows):∀ f i m (M:List Mark),rows.length≤i + f→i≤rows.length→f < m→M.length≤sumTo rows i + i →
  LpC X0 0 (ntOf X0 FM) (lpKeep X0 FM 0) (lpBody X0 FM 0) 0 m (stM0 rows M i) (.exit 0,stM0x rows (marksFrom rows f i M)):=by
 intro f
 induction f with
 | zero =>
  intro i m M h1 h2 h3 h4
  obtain rfl:i = rows.length:=by omega
  exact LpC.last (marksExit0 rows M) (by simp)
 | succ f ih =>
  intro i m M h1 h2 h3 h4
  simp only [marksFrom]
  by_cases hi:i < rows.length
  ·rw [if_pos hi]
   obtain ⟨m,rfl⟩:∃ x,m = x + 1:=⟨m - 1,by omega⟩
   have hr:=hs.1
   have h5:=runFrom_le rows i rows.length 1 (by omega)
   have h6:=part_len rows i hi
   have h7:(lineMarks ((rows.take (i + runN rows i)).drop i) i).length≤sumTo (part rows i) (runN rows i) + 1:=by have:=lineMarks_len (part rows i) (part_small hs i) i;rw [h6] at this;exact this
   have h8:runN rows i = runFrom rows i rows.length 1:=rfl
   have h9:=sumTo_part rows i (runN rows i)
   have h10:=hs.2.2 i
   have h11:=hs.2.2 (i + runN rows i)
   refine LpC.next (marksRound0 rows M i hr hi (by omega) (part_small hs i) (by rw [h6];omega) (by omega) (by omega) (by omega)) (ih _ _ _ (by omega) (by omega) (by omega) ?_)
   rw [List.length_append]
   omega
  ·rw [if_neg hi]
   obtain rfl:i = rows.length:=by omega
   exact LpC.last (marksExit0 rows M) (by simp)
theorem marksLoop0:∀ (rows:List Row) (hs:smallR rows),Lp X0 0 (ntOf X0 FM) (lpKeep X0 FM 0) (lpBody X0 FM 0) 0 FUEL (stM0 rows [] 0) (.exit 0,stM0x rows (allMarks rows)):=fun rows hs=>LpC.start (m:=1152921504606846975) (marksLoop0C rows hs rows.length 0 _ [] (by omega) (by omega) (by have:=hs.1;omega) (by simp)) (by kernel_rfl)
theorem marks (rows:List Row) (hs:smallR rows):Ans X0 FM [.d (rowT.slD rows)] (.d (markT.slD (allMarks rows))):=by
 exact pV 12 [(0,.l (Ex.exit (0:Nat)) (stM0x rows (allMarks rows)))] (cE (@marksLoop0 (rows) hs) nilE) (by kernel_rfl) rfl rfl
abbrev FV:Nat := 20
def mP (m:Mark):Point:=(m.1,m.2.1,())
def ptsTo (l:List Mark) (k:Nat):List Point:=(List.range k).map fun j=>mP (markT.nth l j)
abbrev stV (l:List Mark) (P:List Point) (k:Nat):St:=⟨[(3,pointT.tailV 31 P),(7,.d (markT.slD l)),(8,.d (.int .i64 l.length)),(9,.d (.int .i64 k))],[],[]⟩
abbrev stVx (l:List Mark) (P:List Point):St:=⟨[(3,pointT.tailV 31 P),(7,.d (markT.slD l)),(8,.d (.int .i64 l.length)),(9,.d (.int .i64 l.length)),(10,.d (.bool (decide ((l.length:Int) < l.length))))],[],[]⟩
theorem iaddrMark:∀ (l:List Mark) (i:Int) (h0:0≤i) (hi:i < l.length),iaddrV X0 78 (.d (markT.slD l)) (.d (.int .i64 i)) = some (.d (.ref (l.flatMap markT.enc) (i.toNat * 4))):=fun l i h0 hi=>iaddrSl (te := 77) (z:=4) (by kernel_rfl) (by kernel_rfl) h0 hi (flat_len _ 4 (Ty.enc_length markT) l)
theorem loadMark:∀ (l:List Mark) (h:List Ob) (k:Nat) (hk:k < l.length),loadV X0 h 77 (.d (.ref (l.flatMap markT.enc) (k * 4))) = some (.d (.agg (markT.enc (markT.nth l k)))):=fun l h k hk=>Pv.loadAgg (e:=markT) (by kernel_rfl) (by kernel_rfl) hk
theorem loadMarkI:∀ (l:List Mark) (h:List Ob) (k o:Nat) (hk:k < l.length) (ho:o < 4),loadV X0 h 3 (.d (.ref (l.flatMap markT.enc) (k * 4 + o))) = some (.d ((markT.enc (markT.nth l k)).getD o .und)):=fun l h k o hk ho=>Pv.loadCell (e:=markT) (z1:=1) (by kernel_rfl) (by kernel_rfl) hk ho
theorem validRound (l:List Mark) (P:List Point) (k:Nat) (hl:l.length < 100000000) (hk:k < l.length) (hP:P.length < 100000000):RdC X0 0 (ntOf X0 FV) (lpKeep X0 FV 0) (lpBody X0 FV 0) 0 (stV l P k) (stV l (P ++ [mP (markT.nth l k)]) (k + 1)):=by
 have h0:(decide ((↑k:Int) < (↑l.length:Int))) = true:=by (((try simp only [Bool.not_eq_true',Bool.not_eq_false',Bool.and_eq_true,Bool.and_eq_false_iff,decide_eq_true_eq,decide_eq_false_iff_not,beq_iff_eq,beq_eq_false_iff_ne,bne_iff_ne,bne_eq_false_iff_eq,ne_eq,not_and,Int.toNat_natCast] at *);(try simp (disch:=omega) only [wrapId,toNatAdd] at *)) <;> first | omega | assumption)
 exact (pC (st':={ s:=[(3,(zt 31 pointT (P ++ [((Prod.fst (Ty.nth markT l (Int.toNat (↑k:Int)))),(Prod.fst (Prod.snd (Ty.nth markT l (Int.toNat (↑k:Int))))),())]))),(7,(zs markT l)),(8,(zv (↑l.length:Int))),(9,(zv (zw ((↑k:Int) + (1:Int)))))],h:=[],og:=[] }) 12 [(1,bt),(2,.v (V.d (D.ref (List.flatMap (Ty.enc markT) l) ((Int.toNat (↑k:Int)) * 4)))),(3,.v (V.d (D.agg (Ty.enc markT (Ty.nth markT l (Int.toNat (↑k:Int))))))),(5,.v (Ty.tailV pointT (31:TypeId) (P ++ [((Prod.fst (Ty.nth markT l (Int.toNat (↑k:Int)))),(Prod.fst (Prod.snd (Ty.nth markT l (Int.toNat (↑k:Int))))),())])))] (cP (@appendPoint (P) (Prod.fst (Ty.nth markT l (Int.toNat (↑k:Int)))) (Prod.fst (Prod.snd (Ty.nth markT l (Int.toNat (↑k:Int))))) (by omega)) (cP (@loadMark (l) ([]) (Int.toNat (↑k:Int)) (by omega)) (cP (@iaddrMark (l) ((↑k:Int)) (by omega) (by omega)) (cP h0 nilE)))) (by kernel_rfl)).to (by ((try simp (disch:=omega) only [wrapId,toNatAdd,goesOn,Row.wrapped] at *);(try simp only [Int.toNat_natCast,beq_iff_eq,beq_eq_false_iff_ne,bne_iff_ne,bne_eq_false_iff_eq,ne_eq,Int.natCast_eq_zero,Row.cells] at *);first | (simp (disch:=omega) [Ty.enc,lineMarks,lineM,lineA,lineW,Row.end_,inM,mk,Cell.kind,Cell.at,Row.cells,wrapId,mP,toNatPred,toNatAdd,goesOn,ltF,ltT,Row.wrapped,Ty.slD, *];done) | (subst_vars;simp (disch:=omega) [Ty.enc,lineMarks,lineM,lineA,lineW,Row.end_,inM,mk,Cell.kind,Cell.at,Row.cells,wrapId,mP,toNatPred,toNatAdd,goesOn,ltF,ltT,Row.wrapped,Ty.slD, *];done)))
theorem validExit (l:List Mark) (P:List Point):Rd X0 0 (ntOf X0 FV) (lpBody X0 FV 0) (stV l P l.length) (.exit 0,stVx l P):=by
 have h0:(decide ((↑l.length:Int) < (↑l.length:Int))) = false:=by (((try simp only [Bool.not_eq_true',Bool.not_eq_false',Bool.and_eq_true,Bool.and_eq_false_iff,decide_eq_true_eq,decide_eq_false_iff_not,beq_iff_eq,beq_eq_false_iff_ne,bne_iff_ne,bne_eq_false_iff_eq,ne_eq,not_and,Int.toNat_natCast] at *);(try simp (disch:=omega) only [wrapId,toNatAdd] at *)) <;> first | omega | assumption)
 exact pR 12 [(1,bf)] (cP h0 nilE) (by kernel_rfl)
theorem ptsTo_succ (l:List Mark) (k:Nat):ptsTo l (k + 1) = ptsTo l k ++ [mP (markT.nth l k)]:=by simp [ptsTo,List.range_succ]
theorem ptsTo_length (l:List Mark) (k:Nat):(ptsTo l k).length = k:=by simp [ptsTo]
theorem validLoopC (l:List Mark) (hl:l.length < 100000000):∀ j k m,j + k = l.length→j < m→LpC X0 0 (ntOf X0 FV) (lpKeep X0 FV 0) (lpBody X0 FV 0) 0 m (stV l (ptsTo l k) k) (.exit 0,stVx l (ptsTo l l.length)):=by
 intro j
 induction j with
 | zero =>
  intro k m hk hm
  obtain rfl:k = l.length:=by omega
  exact LpC.last (validExit l _) (by simp)
 | succ j ih =>
  intro k m hk hm
  obtain ⟨m,rfl⟩:∃ x,m = x + 1:=⟨m - 1,by omega⟩
  refine LpC.next (validRound l (ptsTo l k) k hl (by omega) (by rw [ptsTo_length];omega)) ?_
  rw [← ptsTo_succ]
  exact ih (k + 1) m (by omega) (by omega)
theorem validLoop:∀ (l:List Mark) (hl:l.length < 100000000),Lp X0 0 (ntOf X0 FV) (lpKeep X0 FV 0) (lpBody X0 FV 0) 0 FUEL (stV l [] 0) (.exit 0,stVx l (ptsTo l l.length)):=fun l hl=>LpC.start (m:=1152921504606846975) (validLoopC l hl l.length 0 _ (by omega) (by omega)) (by kernel_rfl)
theorem valid (rows:List Row) (hs:smallR rows) (hl:(allMarks rows).length < 100000000):Ans X0 FV [.d (rowT.slD rows)] (.d (pointT.slD (ptsTo (allMarks rows) (allMarks rows).length))):=by
 exact pV 12 [(0,.v (V.d (Ty.slD markT (allMarks rows)))),(2,.l (Ex.exit 0) (stVx (allMarks rows) (ptsTo (allMarks rows) (List.length (allMarks rows)))))] (cE (@validLoop (allMarks rows) hl) (cC (@marks (rows) hs) nilE)) (by kernel_rfl) rfl rfl
abbrev FF:Nat := 34
abbrev FI:Nat := 46
def isAt (m:Mark) (p:Point):Bool:=m.1 == p.1 && m.2.1 == p.2.1
def findFrom (l:List Mark) (p:Point):Nat→Nat→Int
 | 0,_=>-1
 | f + 1,k=>if isAt (markT.nth l k) p then (k:Int) else findFrom l p f (k + 1)
def findTo (l:List Mark) (p:Point):Int:=findFrom l p l.length 0
abbrev stF (l:List Mark) (p:Point) (k:Nat):St :=
 ⟨[(0,.d (markT.slD l)),(1,.clo (.func 47) [] [.obj 0 0]),(7,.d (.int .i64 l.length)),(8,.d (.int .i64 k))],[.cells [.d (.int .i64 p.1),.d (.int .i64 p.2.1)]],[]⟩
abbrev stFx (l:List Mark) (p:Point):St :=
 ⟨[(0,.d (markT.slD l)),(1,.clo (.func 47) [] [.obj 0 0]),(7,.d (.int .i64 l.length)),(8,.d (.int .i64 l.length)),(9,.d (.bool (decide ((l.length:Int) < l.length))))],[.cells [.d (.int .i64 p.1),.d (.int .i64 p.2.1)]],[]⟩
abbrev stFr (p:Point) (k:Int):St:=⟨[(4,.d (.int .i64 k))],[.cells [.d (.int .i64 p.1),.d (.int .i64 p.2.1)]],[]⟩
theorem findRound (l:List Mark) (p:Point) (k:Nat) (hl:l.length < 100000000) (hk:k < l.length) (hm:isAt (markT.nth l k) p = false):RdC X0 1 (ntOf X0 FI) (lpKeep X0 FI 0) (lpBody X0 FI 0) 1 (stF l p k) (stF l p (k + 1)):=by
 have h0:(decide ((↑k:Int) < (↑l.length:Int))) = true:=by (((try simp only [Bool.not_eq_true',Bool.not_eq_false',Bool.and_eq_true,Bool.and_eq_false_iff,decide_eq_true_eq,decide_eq_false_iff_not,beq_iff_eq,beq_eq_false_iff_ne,bne_iff_ne,bne_eq_false_iff_eq,ne_eq,not_and,Int.toNat_natCast] at *);(try simp (disch:=omega) only [wrapId,toNatAdd,isAt,reduceCtorEq,or_false,and_true,Bool.and_true,Bool.and_eq_true,Bool.and_eq_false_iff,beq_iff_eq,beq_eq_false_iff_ne,ne_eq,Int.toNat_natCast] at *)) <;> first | omega | assumption)
 have h1:(((Prod.fst (Ty.nth markT l (Int.toNat (↑k:Int)))) == (Prod.fst p)) && (((Prod.fst (Prod.snd (Ty.nth markT l (Int.toNat (↑k:Int))))) == (Prod.fst (Prod.snd p))) && true)) = false:=by (((try simp only [Bool.not_eq_true',Bool.not_eq_false',Bool.and_eq_true,Bool.and_eq_false_iff,decide_eq_true_eq,decide_eq_false_iff_not,beq_iff_eq,beq_eq_false_iff_ne,bne_iff_ne,bne_eq_false_iff_eq,ne_eq,not_and,Int.toNat_natCast] at *);(try simp (disch:=omega) only [wrapId,toNatAdd,isAt,reduceCtorEq,or_false,and_true,Bool.and_true,Bool.and_eq_true,Bool.and_eq_false_iff,beq_iff_eq,beq_eq_false_iff_ne,ne_eq,Int.toNat_natCast] at *)) <;> first | omega | assumption)
 exact (pC (st':={ s:=[(0,(zs markT l)),(1,(V.clo (Fn.func 47) [] [(zo 0 0)])),(7,(zv (↑l.length:Int))),(8,(zv (zw ((↑k:Int) + (1:Int)))))],h:=[(zc [(zv (Prod.fst p)),(zv (Prod.fst (Prod.snd p)))])],og:=[] }) 12 [(1,bt),(2,.v (V.d (D.ref (List.flatMap (Ty.enc markT) l) ((Int.toNat (↑k:Int)) * 4)))),(3,.v (V.d (D.agg (Ty.enc markT (Ty.nth markT l (Int.toNat (↑k:Int))))))),(8,bf)] (cP h1 (cP (@loadMark (l) ([(zc [(zv (Prod.fst p)),(zv (Prod.fst (Prod.snd p)))])]) (Int.toNat (↑k:Int)) (by omega)) (cP (@iaddrMark (l) ((↑k:Int)) (by omega) (by omega)) (cP h0 nilE)))) (by kernel_rfl)).to (by simp (disch:=omega) [wrapId, *])
theorem findHit (l:List Mark) (p:Point) (k:Nat) (hl:l.length < 100000000) (hk:k < l.length) (hm:isAt (markT.nth l k) p = true):Rd X0 1 (ntOf X0 FI) (lpBody X0 FI 0) (stF l p k) (.ret,stFr p k):=by
 have h0:(decide ((↑k:Int) < (↑l.length:Int))) = true:=by (((try simp only [Bool.not_eq_true',Bool.not_eq_false',Bool.and_eq_true,Bool.and_eq_false_iff,decide_eq_true_eq,decide_eq_false_iff_not,beq_iff_eq,beq_eq_false_iff_ne,bne_iff_ne,bne_eq_false_iff_eq,ne_eq,not_and,Int.toNat_natCast] at *);(try simp (disch:=omega) only [wrapId,toNatAdd,isAt,reduceCtorEq,or_false,and_true,Bool.and_true,Bool.and_eq_true,Bool.and_eq_false_iff,beq_iff_eq,beq_eq_false_iff_ne,ne_eq,Int.toNat_natCast] at *)) <;> first | omega | assumption)
 have h1:(((Prod.fst (Ty.nth markT l (Int.toNat (↑k:Int)))) == (Prod.fst p)) && (((Prod.fst (Prod.snd (Ty.nth markT l (Int.toNat (↑k:Int))))) == (Prod.fst (Prod.snd p))) && true)) = true:=by (((try simp only [Bool.not_eq_true',Bool.not_eq_false',Bool.and_eq_true,Bool.and_eq_false_iff,decide_eq_true_eq,decide_eq_false_iff_not,beq_iff_eq,beq_eq_false_iff_ne,bne_iff_ne,bne_eq_false_iff_eq,ne_eq,not_and,Int.toNat_natCast] at *);(try simp (disch:=omega) only [wrapId,toNatAdd,isAt,reduceCtorEq,or_false,and_true,Bool.and_true,Bool.and_eq_true,Bool.and_eq_false_iff,beq_iff_eq,beq_eq_false_iff_ne,ne_eq,Int.toNat_natCast] at *)) <;> first | omega | assumption)
 exact pR 12 [(1,bt),(2,.v (V.d (D.ref (List.flatMap (Ty.enc markT) l) ((Int.toNat (↑k:Int)) * 4)))),(3,.v (V.d (D.agg (Ty.enc markT (Ty.nth markT l (Int.toNat (↑k:Int))))))),(8,bt)] (cP h1 (cP (@loadMark (l) ([(zc [(zv (Prod.fst p)),(zv (Prod.fst (Prod.snd p)))])]) (Int.toNat (↑k:Int)) (by omega)) (cP (@iaddrMark (l) ((↑k:Int)) (by omega) (by omega)) (cP h0 nilE)))) (by kernel_rfl)
theorem findExit (l:List Mark) (p:Point):Rd X0 1 (ntOf X0 FI) (lpBody X0 FI 0) (stF l p l.length) (.exit 0,stFx l p):=by
 have h0:(decide ((↑l.length:Int) < (↑l.length:Int))) = false:=by (((try simp only [Bool.not_eq_true',Bool.not_eq_false',Bool.and_eq_true,Bool.and_eq_false_iff,decide_eq_true_eq,decide_eq_false_iff_not,beq_iff_eq,beq_eq_false_iff_ne,bne_iff_ne,bne_eq_false_iff_eq,ne_eq,not_and,Int.toNat_natCast] at *);(try simp (disch:=omega) only [wrapId,toNatAdd,isAt,reduceCtorEq,or_false,and_true,Bool.and_true,Bool.and_eq_true,Bool.and_eq_false_iff,beq_iff_eq,beq_eq_false_iff_ne,ne_eq,Int.toNat_natCast] at *)) <;> first | omega | assumption)
 exact pR 12 [(1,bf)] (cP h0 nilE) (by kernel_rfl)
theorem findLoopC (l:List Points.Mark) (p:Point) (hl:l.length < 100000000):∀ f k m,k + f = l.length→f < m →
  LpC X0 1 (ntOf X0 FI) (lpKeep X0 FI 0) (lpBody X0 FI 0) 1 m (stF l p k) (if findFrom l p f k < 0 then (.exit 0,stFx l p) else (.ret,stFr p (findFrom l p f k))):=by
 intro f
 induction f with
 | zero =>
  intro k m hk hm
  obtain rfl:k = l.length:=by omega
  rw [if_pos (by simp [findFrom])]
  exact LpC.last (findExit l p) (by simp)
 | succ f ih =>
  intro k m hk hm
  obtain ⟨m,rfl⟩:∃ x,m = x + 1:=⟨m - 1,by omega⟩
  cases hc:isAt (markT.nth l k) p with
  | true =>
   have e:findFrom l p (f + 1) k = (k:Int):=by simp [findFrom,hc]
   rw [e,if_neg (by omega)]
   exact LpC.last (findHit l p k hl (by omega) hc) (by simp)
  | false =>
   have e:findFrom l p (f + 1) k = findFrom l p f (k + 1):=by simp [findFrom,hc]
   rw [e]
   exact LpC.next (findRound l p k hl (by omega) hc) (ih (k + 1) m (by omega) (by omega))
theorem findLoopNo:∀ (l:List Mark) (p:Point) (hl:l.length < 100000000) (h:findTo l p = -1),Lp X0 1 (ntOf X0 FI) (lpKeep X0 FI 0) (lpBody X0 FI 0) 1 FUEL (stF l p 0) (.exit 0,stFx l p):=fun l p hl h=>by
 have:=findLoopC l p hl l.length 0 1152921504606846975 (by omega) (by omega)
 rw [if_pos (by unfold findTo at h;omega)] at this
 exact LpC.start (m:=1152921504606846975) this (by kernel_rfl)
theorem findLoopYes:∀ (l:List Mark) (p:Point) (hl:l.length < 100000000) (h:0≤findTo l p),Lp X0 1 (ntOf X0 FI) (lpKeep X0 FI 0) (lpBody X0 FI 0) 1 FUEL (stF l p 0) (.ret,stFr p (findTo l p)):=fun l p hl h=>by
 have:=findLoopC l p hl l.length 0 1152921504606846975 (by omega) (by omega)
 rw [if_neg (by unfold findTo at h;omega)] at this
 exact LpC.start (m:=1152921504606846975) this (by kernel_rfl)
theorem findFrom_or (l:List Points.Mark) (p:Point):∀ f k,findFrom l p f k = -1∨0≤findFrom l p f k
 | 0,k=>.inl rfl
 | f + 1,k=>by
  simp only [findFrom]
  split
  ·right;omega
  ·exact findFrom_or l p f (k + 1)
theorem findNo (l:List Mark) (p:Point) (hl:l.length < 100000000) (h:findTo l p = -1):Ans X0 FF [.d (markT.slD l),.d (.agg (pointT.enc p))] (.d (.int .i64 (findTo l p))):=by
 exact (pV (v:=V.d (zi ((-1):Int))) 12 [(2,.l (Ex.exit 0) (stFx l p))] (cE (@findLoopNo (l) (p) hl h) nilE) (by kernel_rfl) rfl rfl).to (by simp (disch:=omega) [wrapId, *])
theorem findYes (l:List Mark) (p:Point) (hl:l.length < 100000000) (h:0≤findTo l p):Ans X0 FF [.d (markT.slD l),.d (.agg (pointT.enc p))] (.d (.int .i64 (findTo l p))):=by
 exact pV 12 [(2,.l (Ex.ret) (stFr p (findTo l p)))] (cE (@findLoopYes (l) (p) hl h) nilE) (by kernel_rfl) rfl rfl
theorem find:∀ (l:List Points.Mark) (p:Point) (hl:l.length < 100000000),Ans X0 FF [.d (markT.slD l),.d (.agg (pointT.enc p))] (.d (.int .i64 (findTo l p))):=fun l p hl=>by
 rcases findFrom_or l p l.length 0 with h | h
 ·exact findNo l p hl h
 ·exact findYes l p hl h
theorem is (rows:List Row) (p:Point) (hs:smallR rows) (hl:(allMarks rows).length < 100000000):Ans X0 21 [.d (rowT.slD rows),.d (.agg (pointT.enc p))] (.d (.bool (decide (findTo (allMarks rows) p ≥ 0)))):=by
 exact pV 12 [(0,.v (V.d (Ty.slD markT (allMarks rows)))),(2,.v (zv (findTo (allMarks rows) p)))] (cC (@find (allMarks rows) (p) hl) (cC (@marks (rows) hs) nilE)) (by kernel_rfl) rfl rfl
theorem placeYes (rows:List Row) (p:Point) (hs:smallR rows) (hl:(allMarks rows).length < 100000000) (h:0≤findTo (allMarks rows) p) (h2:findTo (allMarks rows) p < (allMarks rows).length):Ans X0 18 [.d (rowT.slD rows),.d (.agg (pointT.enc p))] (.d (.tup [.int .i64 (markT.nth (allMarks rows) (findTo (allMarks rows) p).toNat).2.2.2.1,.int .i64 0])):=by
 have h0:(decide ((findTo (allMarks rows) p) < (0:Int))) = false:=by (((try simp only [Bool.not_eq_true',Bool.not_eq_false',Bool.and_eq_true,Bool.and_eq_false_iff,decide_eq_true_eq,decide_eq_false_iff_not,beq_iff_eq,beq_eq_false_iff_ne,bne_iff_ne,bne_eq_false_iff_eq,ne_eq,not_and,Int.toNat_natCast] at *);(try simp (disch:=omega) only [wrapId,toNatAdd,isAt,reduceCtorEq,or_false,and_true,Bool.and_true,Bool.and_eq_true,Bool.and_eq_false_iff,beq_iff_eq,beq_eq_false_iff_ne,ne_eq,Int.toNat_natCast] at *)) <;> first | omega | assumption)
 exact pV 12 [(0,.v (V.d (Ty.slD markT (allMarks rows)))),(2,.v (zv (findTo (allMarks rows) p))),(4,bf),(5,.v (V.d (D.ref (List.flatMap (Ty.enc markT) (allMarks rows)) ((Int.toNat (findTo (allMarks rows) p)) * 4)))),(6,.v (V.d (List.getD (Ty.enc markT (Ty.nth markT (allMarks rows) (Int.toNat (findTo (allMarks rows) p)))) 3 D.und)))] (cP (@loadMarkI (allMarks rows) ([(zc [(zv (Prod.fst p)),(zv (Prod.fst (Prod.snd p)))])]) (Int.toNat (findTo (allMarks rows) p)) 3 (by omega) (by simp)) (cP (@iaddrMark (allMarks rows) (findTo (allMarks rows) p) h h2) (cP h0 (cC (@find (allMarks rows) (p) hl) (cC (@marks (rows) hs) nilE))))) (by kernel_rfl) rfl rfl
def backTo (rows:List Row):Nat→Nat
 | 0=>0
 | k + 1=>if Row.wrapped (rowT.nth rows (k + 1)) then backTo rows k else k + 1
def allF (rows:List Row) (fi:Nat):Nat→List Cell
 | 0=>[]
 | n + 1=>rowA (allF rows fi n) (rowT.nth rows (fi + n))
def ahF (rows:List Row) (i fi n:Nat):Nat:=if i < fi + n then (allF rows fi (i - fi)).length else 0
def lineOf (rows:List Row) (i:Nat):List Cell:=allF rows (backTo rows i) (runN rows (backTo rows i))
def aheadOf (rows:List Row) (i:Nat):Nat:=ahF rows i (backTo rows i) (runN rows (backTo rows i))
abbrev cm (r:Row) (i col:Nat):Mark:=((i:Int),(col:Int),Cell.kind (cellT.nth (Row.cells r) col),Cell.at (cellT.nth (Row.cells r) col),())
theorem runFrom_get (rows:List Row) (i:Nat):∀ f n t,n≤t→t < runFrom rows i f n→goesOn rows i t = true
 | 0,n,t,h1,h2=>by simp only [runFrom] at h2;omega
 | f + 1,n,t,h1,h2=>by
  simp only [runFrom] at h2
  split at h2
  ·rename_i hg
   by_cases h:n = t
   ·subst h;exact hg
   ·exact runFrom_get rows i f (n + 1) t (by omega) h2
  ·omega
theorem runFrom_ge (rows:List Row) (i n':Nat):∀ f n,n≤n' → n' ≤ n + f→(∀ t,n≤t→t < n' → goesOn rows i t = true)→n' ≤ runFrom rows i f n
 | 0,n,h1,h2,h3=>by simp only [runFrom];omega
 | f + 1,n,h1,h2,h3=>by
  simp only [runFrom]
  by_cases h:n = n'
  ·subst h;split
   ·exact Nat.le_trans (Nat.le_succ n) (by
     have:∀ f n,n≤runFrom rows i f n:=by
      intro f
      induction f with
      | zero=>intro n;exact Nat.le_refl _
      | succ f ih=>intro n;simp only [runFrom];split;exact Nat.le_trans (Nat.le_succ n) (ih (n + 1));exact Nat.le_refl _
     exact this f (n + 1))
   ·exact Nat.le_refl _
  ·rw [if_pos (h3 n (Nat.le_refl _) (by omega))]
   exact runFrom_ge rows i n' f (n + 1) (by omega) (by omega) (fun t h4 h5=>h3 t (by omega) h5)
def rmM (i:Nat) (L:List Cell) (r:Row) (k0:Nat) (M:List Mark):Nat→List Mark
 | 0=>M
 | col + 1=>if Cell.kind (cellT.nth (Row.cells r) col) == 5 then rmM i L r k0 M col else if stopAt L (k0 + cntTo (Row.cells r) col) then rmM i L r k0 M col ++ [cm r i col] else rmM i L r k0 M col
theorem rmM_cnt (i:Nat) (L:List Cell) (r:Row) (k0:Nat) (M:List Mark):∀ c,(rmM i L r k0 M c).length≤M.length + cntTo (Row.cells r) c
 | 0=>Nat.le_refl _
 | c + 1=>by have:=rmM_cnt i L r k0 M c;simp only [rmM,cntTo];split;omega;split;simp;omega;omega
def rowMarks (rows:List Row) (M:List Mark) (i:Nat):List Mark:=rmM i (lineOf rows i) (rowT.nth rows i) (aheadOf rows i) M (Row.cells (rowT.nth rows i)).length
def endMark (rows:List Row) (i:Nat):Mark:=((i:Int),((Row.cells (rowT.nth rows i)).length:Int),0,Row.end_ (rowT.nth rows i),())
abbrev FSm:Nat := 19
abbrev stSm (l:List Point) (m:List Mark) (i:Nat):St:=⟨[(0,.d (pointT.slD l)),(1,.d (markT.slD m)),(7,.d (.int .i64 l.length)),(8,.d (.int .i64 i))],[],[]⟩
abbrev stSmx (l:List Point) (m:List Mark):St:=⟨[(0,.d (pointT.slD l)),(1,.d (markT.slD m)),(7,.d (.int .i64 l.length)),(8,.d (.int .i64 l.length)),(9,.d (.bool (decide ((l.length:Int) < l.length))))],[],[]⟩
abbrev pOb (p:Point):Ob:=.cells [.d (.int .i64 p.1),.d (.int .i64 p.2.1)]
abbrev FPV:Nat := 5
abbrev stIn (rows:List Row) (p:Point) (m:List Mark) (n e:Int) (b:Bool) (i:Nat):St :=
 ⟨[(0,.d (rowT.slD rows)),(3,.obj 0 0),(5,.d (markT.slD m)),(6,.d (.int .i64 n)),(7,.d (.int .i64 e)),(8,.d (.bool b)),(22,.d (markT.slD m)),(23,.d (.int .i64 m.length)),(24,.d (.int .i64 i))],[pOb p],[]⟩
abbrev stInx (rows:List Row) (p:Point) (m:List Mark) (n e:Int) (b:Bool):St :=
 ⟨[(0,.d (rowT.slD rows)),(3,.obj 0 0),(5,.d (markT.slD m)),(6,.d (.int .i64 n)),(7,.d (.int .i64 e)),(8,.d (.bool b)),(22,.d (markT.slD m)),(23,.d (.int .i64 m.length)),(24,.d (.int .i64 m.length)),(25,.d (.bool (decide ((m.length:Int) < m.length))))],[pOb p],[]⟩
theorem iaddrRMark:∀ (l:List Mark) (i:Int) (h0:0≤i) (hi:i < l.length),iaddrV X0 46 (.d (markT.slD l)) (.d (.int .i64 i)) = some (.d (.ref (l.flatMap markT.enc) (i.toNat * 4))):=fun l i h0 hi=>iaddrSl (te := 51) (z:=4) (by kernel_rfl) (by kernel_rfl) h0 hi (flat_len _ 4 (Ty.enc_length markT) l)
theorem loadRMark:∀ (l:List Mark) (h:List Ob) (k:Nat) (hk:k < l.length),loadV X0 h 51 (.d (.ref (l.flatMap markT.enc) (k * 4))) = some (.d (.agg (markT.enc (markT.nth l k)))):=fun l h k hk=>Pv.loadAgg (e:=markT) (by kernel_rfl) (by kernel_rfl) hk
theorem loadRMarkP:∀ (l:List Mark) (h:List Ob) (k:Nat) (hk:k < l.length),loadV X0 h 31 (.d (.ref (l.flatMap markT.enc) (k * 4 + 0))) = some (.d (.agg [.int .i64 (markT.nth l k).1,.int .i64 (markT.nth l k).2.1])):=fun l h k hk=>Pv.loadPart (e:=markT) (o:=0) (z1:=2) (by kernel_rfl) (by kernel_rfl) hk (by decide)
theorem sameRound (l:List Point) (m:List Mark) (i:Nat) (hl:l.length < 100000000) (hi:i < l.length) (hm:l.length = m.length) (e1:(pointT.nth l i).1 = (markT.nth m i).1) (e2:(pointT.nth l i).2.1 = (markT.nth m i).2.1):RdC X0 0 (ntOf X0 FSm) (lpKeep X0 FSm 0) (lpBody X0 FSm 0) 0 (stSm l m i) (stSm l m (i + 1)):=by
 have h0:(decide ((↑i:Int) < (↑l.length:Int))) = true:=by (((try simp only [eq_self,and_true,true_and,Bool.and_true,Bool.true_and,Bool.not_eq_true',Bool.not_eq_false',Bool.and_eq_true,Bool.and_eq_false_iff,decide_eq_true_eq,decide_eq_false_iff_not,beq_iff_eq,beq_eq_false_iff_ne,bne_iff_ne,bne_eq_false_iff_eq,ne_eq,not_and,Int.toNat_natCast] at *);(try simp only [Row.cells,Row.wrapped,Row.end_,Cell.kind,Cell.at] at *);(try simp (disch:=omega) only [wrapId,toNatAdd,toNatSucc,isAt,reduceCtorEq,or_false,and_true,Bool.and_true,Bool.and_eq_true,Bool.and_eq_false_iff,beq_iff_eq,beq_eq_false_iff_ne,ne_eq,Int.toNat_natCast] at *)) <;> first | omega | assumption | (refine ⟨?_,?_⟩ <;> assumption))
 have h1:(decide ((↑i:Int) ≥ (↑m.length:Int))) = false:=by (((try simp only [eq_self,and_true,true_and,Bool.and_true,Bool.true_and,Bool.not_eq_true',Bool.not_eq_false',Bool.and_eq_true,Bool.and_eq_false_iff,decide_eq_true_eq,decide_eq_false_iff_not,beq_iff_eq,beq_eq_false_iff_ne,bne_iff_ne,bne_eq_false_iff_eq,ne_eq,not_and,Int.toNat_natCast] at *);(try simp only [Row.cells,Row.wrapped,Row.end_,Cell.kind,Cell.at] at *);(try simp (disch:=omega) only [wrapId,toNatAdd,toNatSucc,isAt,reduceCtorEq,or_false,and_true,Bool.and_true,Bool.and_eq_true,Bool.and_eq_false_iff,beq_iff_eq,beq_eq_false_iff_ne,ne_eq,Int.toNat_natCast] at *)) <;> first | omega | assumption | (refine ⟨?_,?_⟩ <;> assumption))
 have h2:(!(((Prod.fst (Ty.nth pointT l (Int.toNat (↑i:Int)))) == (Prod.fst (Ty.nth markT m (Int.toNat (↑i:Int))))) && (((Prod.fst (Prod.snd (Ty.nth pointT l (Int.toNat (↑i:Int))))) == (Prod.fst (Prod.snd (Ty.nth markT m (Int.toNat (↑i:Int)))))) && true))) = false:=by (((try simp only [eq_self,and_true,true_and,Bool.and_true,Bool.true_and,Bool.not_eq_true',Bool.not_eq_false',Bool.and_eq_true,Bool.and_eq_false_iff,decide_eq_true_eq,decide_eq_false_iff_not,beq_iff_eq,beq_eq_false_iff_ne,bne_iff_ne,bne_eq_false_iff_eq,ne_eq,not_and,Int.toNat_natCast] at *);(try simp only [Row.cells,Row.wrapped,Row.end_,Cell.kind,Cell.at] at *);(try simp (disch:=omega) only [wrapId,toNatAdd,toNatSucc,isAt,reduceCtorEq,or_false,and_true,Bool.and_true,Bool.and_eq_true,Bool.and_eq_false_iff,beq_iff_eq,beq_eq_false_iff_ne,ne_eq,Int.toNat_natCast] at *)) <;> first | omega | assumption | (refine ⟨?_,?_⟩ <;> assumption))
 exact (pC (st':={ s:=[(0,(zs pointT l)),(1,(zs markT m)),(7,(zv (↑l.length:Int))),(8,(zv (zw ((↑i:Int) + (1:Int)))))],h:=[],og:=[] }) 12 [(1,bt),(4,bf),(5,bf),(6,bf),(7,.v (V.d (D.ref (List.flatMap (Ty.enc pointT) l) ((Int.toNat (↑i:Int)) * 2)))),(8,bf),(9,.v (V.d (D.agg (Ty.enc pointT (Ty.nth pointT l (Int.toNat (↑i:Int))))))),(10,bf),(11,bf),(12,bf),(13,.v (V.d (D.ref (List.flatMap (Ty.enc markT) m) ((Int.toNat (↑i:Int)) * 4)))),(14,bf),(15,bf),(16,.v (V.d (D.agg [(zi (Prod.fst (Ty.nth markT m (Int.toNat (↑i:Int))))),(zi (Prod.fst (Prod.snd (Ty.nth markT m (Int.toNat (↑i:Int))))))]))),(17,bf),(19,bf),(20,bf)] (cP h2 (cP h1 (cP h1 (cP (@loadRMarkP (m) ([]) (Int.toNat (↑i:Int)) (by (first | assumption | omega))) (cP h1 (cP h1 (cP (@iaddrRMark (m) ((↑i:Int)) (by (first | assumption | omega)) (by (first | assumption | omega))) (cP h1 (cP h1 (cP h1 (cP (@loadPoint (l) ([]) (Int.toNat (↑i:Int)) (by (first | assumption | omega))) (cP h1 (cP (@iaddrPoint (l) ((↑i:Int)) (by (first | assumption | omega)) (by (first | assumption | omega))) (cP h1 (cP h1 (cP h1 (cP h0 nilE))))))))))))))))) (by kernel_rfl)).to (by simp (disch:=omega) [wrapId, *])
theorem sameExit (l:List Point) (m:List Mark):Rd X0 0 (ntOf X0 FSm) (lpBody X0 FSm 0) (stSm l m l.length) (.exit 0,stSmx l m):=by
 have h0:(decide ((↑l.length:Int) < (↑l.length:Int))) = false:=by (((try simp only [Bool.not_eq_true',Bool.not_eq_false',Bool.and_eq_true,Bool.and_eq_false_iff,decide_eq_true_eq,decide_eq_false_iff_not,beq_iff_eq,beq_eq_false_iff_ne,bne_iff_ne,bne_eq_false_iff_eq,ne_eq,not_and,Int.toNat_natCast] at *);(try simp only [Row.cells,Row.wrapped,Row.end_,Cell.kind,Cell.at] at *);(try simp (disch:=omega) only [wrapId,toNatAdd,toNatSucc,isAt,reduceCtorEq,or_false,and_true,Bool.and_true,Bool.and_eq_true,Bool.and_eq_false_iff,beq_iff_eq,beq_eq_false_iff_ne,ne_eq,Int.toNat_natCast] at *)) <;> first | omega | assumption)
 exact pR 12 [(1,bf)] (cP h0 nilE) (by kernel_rfl)
theorem inRound (rows:List Row) (p:Point) (m:List Mark) (n e:Int) (b:Bool) (i:Nat) (hm:m.length < 100000000) (hi:i < m.length):RdC X0 0 (ntOf X0 FPV) (lpKeep X0 FPV 0) (lpBody X0 FPV 0) 1 (stIn rows p m n e b i) (stIn rows p m n e (b || isAt (markT.nth m i) p) (i + 1)):=by
 have h0:(decide ((↑i:Int) < (↑m.length:Int))) = true:=by (((try simp only [Bool.not_eq_true',Bool.not_eq_false',Bool.and_eq_true,Bool.and_eq_false_iff,decide_eq_true_eq,decide_eq_false_iff_not,beq_iff_eq,beq_eq_false_iff_ne,bne_iff_ne,bne_eq_false_iff_eq,ne_eq,not_and,Int.toNat_natCast] at *);(try simp only [Row.cells,Row.wrapped,Row.end_,Cell.kind,Cell.at] at *);(try simp (disch:=omega) only [wrapId,toNatAdd,toNatSucc,isAt,reduceCtorEq,or_false,and_true,Bool.and_true,Bool.and_eq_true,Bool.and_eq_false_iff,beq_iff_eq,beq_eq_false_iff_ne,ne_eq,Int.toNat_natCast] at *)) <;> first | omega | assumption)
 rcases Bool.eq_false_or_eq_true (b) with h1 | h1
 ·exact (pC (st':={ s:=[(0,(zs rowT rows)),(3,(zo 0 0)),(5,(zs markT m)),(6,(zv n)),(7,(zv e)),(8,(zb true)),(22,(zs markT m)),(23,(zv (↑m.length:Int))),(24,(zv (zw ((↑i:Int) + (1:Int)))))],h:=[(zc [(zv (Prod.fst p)),(zv (Prod.fst (Prod.snd p)))])],og:=[] }) 12 [(1,bt),(2,.v (V.d (D.ref (List.flatMap (Ty.enc markT) m) ((Int.toNat (↑i:Int)) * 4)))),(3,.v (V.d (D.agg (Ty.enc markT (Ty.nth markT m (Int.toNat (↑i:Int))))))),(4,bt),(5,bt),(6,bt),(7,bt),(8,bt)] (cP h1 (cP h1 (cP h1 (cP h1 (cP h1 (cP (@loadRMark (m) ([(zc [(zv (Prod.fst p)),(zv (Prod.fst (Prod.snd p)))])]) (Int.toNat (↑i:Int)) (by omega)) (cP (@iaddrRMark (m) ((↑i:Int)) (by omega) (by omega)) (cP h0 nilE)))))))) (by kernel_rfl)).to (by simp (disch:=omega) [wrapId, *])
 ·exact (pC (st':={ s:=[(0,(zs rowT rows)),(3,(zo 0 0)),(5,(zs markT m)),(6,(zv n)),(7,(zv e)),(8,(zb (((Prod.fst (Ty.nth markT m (Int.toNat (↑i:Int)))) == (Prod.fst p)) && (((Prod.fst (Prod.snd (Ty.nth markT m (Int.toNat (↑i:Int))))) == (Prod.fst (Prod.snd p))) && true)))),(22,(zs markT m)),(23,(zv (↑m.length:Int))),(24,(zv (zw ((↑i:Int) + (1:Int)))))],h:=[(zc [(zv (Prod.fst p)),(zv (Prod.fst (Prod.snd p)))])],og:=[] }) 12 [(1,bt),(2,.v (V.d (D.ref (List.flatMap (Ty.enc markT) m) ((Int.toNat (↑i:Int)) * 4)))),(3,.v (V.d (D.agg (Ty.enc markT (Ty.nth markT m (Int.toNat (↑i:Int))))))),(4,bf),(5,bf),(7,bf),(9,bf),(11,bf)] (cP h1 (cP h1 (cP h1 (cP h1 (cP h1 (cP (@loadRMark (m) ([(zc [(zv (Prod.fst p)),(zv (Prod.fst (Prod.snd p)))])]) (Int.toNat (↑i:Int)) (by omega)) (cP (@iaddrRMark (m) ((↑i:Int)) (by omega) (by omega)) (cP h0 nilE)))))))) (by kernel_rfl)).to (by ((try simp (disch:=omega) only [wrapId,toNatAdd,toNatSucc,goesOn,Row.wrapped] at *);(try simp only [Int.toNat_natCast,beq_iff_eq,beq_eq_false_iff_ne,bne_iff_ne,bne_eq_false_iff_eq,ne_eq,Int.natCast_eq_zero,Int.natCast_inj,Row.cells] at *);first | (simp (disch:=omega) [Ty.enc,stopAt,endMark,lineMarks,lineM,lineA,lineW,Row.end_,inA,inW,inM,mk,Cell.kind,Cell.at,Row.cells,wrapId,mP,isAt,toNatPred,toNatAdd,toNatSucc,goesOn,ltF,ltT,Row.wrapped,Ty.slD, *];done) | (subst_vars;simp (disch:=omega) [Ty.enc,stopAt,endMark,lineMarks,lineM,lineA,lineW,Row.end_,inA,inW,inM,mk,Cell.kind,Cell.at,Row.cells,wrapId,mP,isAt,toNatPred,toNatAdd,toNatSucc,goesOn,ltF,ltT,Row.wrapped,Ty.slD, *];done)))
def refStep (rows:List Row) (M:List Mark) (i:Nat):List Mark:=if i + 1 = rows.length∨Row.wrapped (rowT.nth rows (i + 1)) = false then rowMarks rows M i ++ [endMark rows i] else rowMarks rows M i
def refFold (rows:List Row):Nat→List Mark
 | 0=>[]
 | i + 1=>refStep rows (refFold rows i) i
def refMarks (rows:List Row):List Mark:=refFold rows rows.length
theorem nth_pre {e:Ty} {X A:List e.ty} {c:e.ty} (h:X ++ [c] <+: A):e.nth A X.length = c:=by
 obtain ⟨t,rfl⟩:=h
 simp [Ty.nth,List.getD_eq_getElem?_getD]
theorem inAto_pre1 (A cells:List Cell) (c:Nat):inAto A cells c <+: inAto A cells (c + 1):=by
 simp only [inAto,inA]
 split
 ·exact List.prefix_rfl
 ·exact List.prefix_append _ _
theorem inAto_pre (A cells:List Cell) (c d:Nat) (h:c≤d):inAto A cells c <+: inAto A cells d:=by
 obtain ⟨d,rfl⟩:=Nat.exists_eq_add_of_le h
 clear h
 induction d with
 | zero=>exact List.prefix_rfl
 | succ d ih=>exact ih.trans (inAto_pre1 A cells (c + d))
theorem inWto_pre1 (row:Int) (A:List Point) (cells:List Cell) (c:Nat):inWto row A cells c <+: inWto row A cells (c + 1):=by
 simp only [inWto,inW]
 split
 ·exact List.prefix_rfl
 ·exact List.prefix_append _ _
theorem inWto_pre (row:Int) (A:List Point) (cells:List Cell) (c d:Nat) (h:c≤d):inWto row A cells c <+: inWto row A cells d:=by
 obtain ⟨d,rfl⟩:=Nat.exists_eq_add_of_le h
 clear h
 induction d with
 | zero=>exact List.prefix_rfl
 | succ d ih=>exact ih.trans (inWto_pre1 row A cells (c + d))
theorem allTo_pre (P:List Row) (m n:Nat) (h:m≤n):allTo P m <+: allTo P n:=by
 obtain ⟨d,rfl⟩:=Nat.exists_eq_add_of_le h
 clear h
 induction d with
 | zero=>exact List.prefix_rfl
 | succ d ih=>exact ih.trans (inAto_pre (allTo P (m + d)) (Row.cells (rowT.nth P (m + d))) 0 _ (Nat.zero_le _))
theorem whTo_pre (P:List Row) (first:Int) (m n:Nat) (h:m≤n):whTo P first m <+: whTo P first n:=by
 obtain ⟨d,rfl⟩:=Nat.exists_eq_add_of_le h
 clear h
 induction d with
 | zero=>exact List.prefix_rfl
 | succ d ih=>exact ih.trans (inWto_pre (first + (m + d:Nat)) (whTo P first (m + d)) (Row.cells (rowT.nth P (m + d))) 0 _ (Nat.zero_le _))
theorem inWto_cnt (row:Int) (W:List Point) (cells:List Cell):∀ c,(inWto row W cells c).length = W.length + cntTo cells c
 | 0=>rfl
 | c + 1=>by
  have:=inWto_cnt row W cells c
  simp only [inWto,inW,cntTo]
  split
  ·exact this
  ·rw [List.length_append,this];rfl
theorem whTo_allTo (P:List Row) (first:Int):∀ t,(whTo P first t).length = (allTo P t).length
 | 0=>rfl
 | t + 1=>by
  simp only [whTo,allTo]
  unfold rowW rowA
  rw [inWto_cnt,inAto_cnt,whTo_allTo P first t]
theorem stops_nth (A:List Cell) (k:Nat) (h:k < A.length):boolT.nth (stopsTo A A.length) k = stopAt A k:=by
 simp [Ty.nth,stopsTo,List.getD_eq_getElem?_getD,h]
theorem row_law (P:List Row) (i0 t:Nat) (ht:t < P.length) (M:List Mark):∀ col,col≤(Row.cells (rowT.nth P t)).length →
  M ++ mTo (allTo P P.length) (whTo P i0 P.length) (stopsTo (allTo P P.length) (allTo P P.length).length) ((allTo P t).length + cntTo (Row.cells (rowT.nth P t)) col) =
   rmM (i0 + t) (allTo P P.length) (rowT.nth P t) (allTo P t).length (M ++ mTo (allTo P P.length) (whTo P i0 P.length) (stopsTo (allTo P P.length) (allTo P P.length).length) (allTo P t).length) col
 | 0,_=>by simp [cntTo,rmM]
 | col + 1,hc=>by
  have ih:=row_law P i0 t ht M col (by omega)
  simp only [cntTo,rmM]
  by_cases hk:(Cell.kind (cellT.nth (Row.cells (rowT.nth P t)) col) == 5) = true
  ·rw [if_pos hk,if_pos hk];exact ih
  ·rw [if_neg hk,if_neg hk]
   have e1:inAto (allTo P t) (Row.cells (rowT.nth P t)) (col + 1) = inAto (allTo P t) (Row.cells (rowT.nth P t)) col ++ [cellT.nth (Row.cells (rowT.nth P t)) col]:=by
    simp only [inAto,inA];rw [if_neg hk]
   have e2:inWto ((i0:Int) + t) (whTo P i0 t) (Row.cells (rowT.nth P t)) (col + 1) = inWto ((i0:Int) + t) (whTo P i0 t) (Row.cells (rowT.nth P t)) col ++ [((i0:Int) + t,(col:Int),())]:=by
    simp only [inWto,inW];rw [if_neg hk]
   have p1:inAto (allTo P t) (Row.cells (rowT.nth P t)) col ++ [cellT.nth (Row.cells (rowT.nth P t)) col] <+: allTo P P.length:=by
    rw [← e1]
    exact (inAto_pre (allTo P t) _ (col + 1) _ hc).trans (allTo_pre P (t + 1) P.length ht)
   have p2:inWto ((i0:Int) + t) (whTo P i0 t) (Row.cells (rowT.nth P t)) col ++ [((i0:Int) + t,(col:Int),())] <+: whTo P i0 P.length:=by
    rw [← e2]
    exact (inWto_pre _ (whTo P i0 t) _ (col + 1) _ hc).trans (whTo_pre P i0 (t + 1) P.length ht)
   have n1:=nth_pre (e:=cellT) p1
   have n2:=nth_pre (e:=pointT) p2
   have l1:=p1.length_le
   rw [List.length_append] at l1
   rw [inAto_cnt] at n1 l1
   rw [inWto_cnt,whTo_allTo] at n2
   have l1':(allTo P t).length + cntTo (Row.cells (rowT.nth P t)) col < (allTo P P.length).length:=by have:=l1;simp at this;omega
   have s1:=stops_nth (allTo P P.length) _ l1'
   have hm:mk (allTo P P.length) (whTo P i0 P.length) ((allTo P t).length + cntTo (Row.cells (rowT.nth P t)) col) = cm (rowT.nth P t) (i0 + t) col:=by
    unfold mk cm
    rw [n1,n2]
    simp [Cell.kind,Cell.at]
   rw [← Nat.add_assoc]
   simp only [mTo,inM]
   rw [s1,hm,← ih]
   split
   ·rw [List.append_assoc]
   ·rfl
theorem part_nth (rows:List Row) (i t:Nat) (ht:t < runN rows i):rowT.nth (part rows i) t = rowT.nth rows (i + t):=by
 simp only [Ty.nth,part,List.getD_eq_getElem?_getD,List.getElem?_drop,List.getElem?_take]
 rw [if_pos (by omega)]
theorem allTo_part (rows:List Row) (i:Nat):∀ t,t≤runN rows i→allTo (part rows i) t = allF rows i t
 | 0,_=>rfl
 | t + 1,h=>by simp only [allTo,allF];rw [allTo_part rows i t (by omega),part_nth rows i t (by omega)]
def LS (rows:List Row) (i:Nat):Prop:=i = 0∨Row.wrapped (rowT.nth rows i) = false
theorem runN_get (rows:List Row) (i t:Nat) (h1:1≤t) (h2:t < runN rows i):i + t < rows.length∧Row.wrapped (rowT.nth rows (i + t)) = true:=by
 have:=runFrom_get rows i rows.length 1 t h1 h2
 simpa [goesOn] using this
theorem runFrom_stop (rows:List Row) (i:Nat):∀ f n,rows.length≤i + n + f→goesOn rows i (runFrom rows i f n) = false
 | 0,n,h=>by show goesOn rows i n = false;unfold goesOn;rw [decide_eq_false (by omega),Bool.false_and]
 | f + 1,n,h=>by
  simp only [runFrom]
  split
  ·exact runFrom_stop rows i f (n + 1) (by omega)
  ·rename_i hg;simpa using hg
theorem runN_stop (rows:List Row) (i:Nat):i + runN rows i < rows.length→Row.wrapped (rowT.nth rows (i + runN rows i)) = false:=by
 intro h
 have:=runFrom_stop rows i rows.length 1 (by omega)
 unfold runN at h ⊢
 simpa [goesOn,h] using this
theorem backTo_start (rows:List Row) (i:Nat) (hL:LS rows i):∀ t,t < runN rows i→backTo rows (i + t) = i
 | 0,_=>by
  rcases hL with rfl | hw
  ·rfl
  ·cases i with
   | zero=>rfl
   | succ i=>show backTo rows (i + 1) = i + 1;simp only [backTo];rw [if_neg (by simp [hw])]
 | t + 1,h=>by
  have:=runN_get rows i (t + 1) (by omega) h
  show (if Row.wrapped (rowT.nth rows (i + t + 1)) = true then backTo rows (i + t) else i + t + 1) = i
  rw [if_pos (by simpa [Nat.add_assoc] using this.2),backTo_start rows i hL t (by omega)]
theorem lines_law (rows:List Row) (i:Nat) (hi:i < rows.length) (hL:LS rows i):∀ t,t < runN rows i →
  refFold rows (i + t) = refFold rows i ++ mTo (allTo (part rows i) (part rows i).length) (whTo (part rows i) i (part rows i).length) (stopsTo (allTo (part rows i) (part rows i).length) (allTo (part rows i) (part rows i).length).length) (allTo (part rows i) t).length ∧
  rowMarks rows (refFold rows (i + t)) (i + t) = refFold rows i ++ mTo (allTo (part rows i) (part rows i).length) (whTo (part rows i) i (part rows i).length) (stopsTo (allTo (part rows i) (part rows i).length) (allTo (part rows i) (part rows i).length).length) (allTo (part rows i) (t + 1)).length:=by
 have hpl:=part_len rows i hi
 have key:∀ t,t < runN rows i→refFold rows (i + t) = refFold rows i ++ mTo (allTo (part rows i) (part rows i).length) (whTo (part rows i) i (part rows i).length) (stopsTo (allTo (part rows i) (part rows i).length) (allTo (part rows i) (part rows i).length).length) (allTo (part rows i) t).length →
   rowMarks rows (refFold rows (i + t)) (i + t) = refFold rows i ++ mTo (allTo (part rows i) (part rows i).length) (whTo (part rows i) i (part rows i).length) (stopsTo (allTo (part rows i) (part rows i).length) (allTo (part rows i) (part rows i).length).length) (allTo (part rows i) (t + 1)).length:=by
  intro t ht hM
  have hb:=backTo_start rows i hL t ht
  have hlo:lineOf rows (i + t) = allTo (part rows i) (part rows i).length:=by
   unfold lineOf;rw [hb,hpl,allTo_part rows i _ (Nat.le_refl _)]
  have hah:aheadOf rows (i + t) = (allTo (part rows i) t).length:=by
   unfold aheadOf ahF;rw [hb,if_pos (by omega),allTo_part rows i t (by omega)];congr 2;omega
  have h1:=row_law (part rows i) i t (by omega) (refFold rows i) (Row.cells (rowT.nth (part rows i) t)).length (Nat.le_refl _)
  have h2:(allTo (part rows i) (t + 1)).length = (allTo (part rows i) t).length + cntTo (Row.cells (rowT.nth (part rows i) t)) (Row.cells (rowT.nth (part rows i) t)).length:=by
   simp only [allTo];unfold rowA;rw [inAto_cnt]
  unfold rowMarks
  rw [h2,h1,hlo,hah,hM,part_nth rows i t ht]
 intro t
 induction t with
 | zero =>
  intro h
  have h0:refFold rows (i + 0) = refFold rows i ++ mTo (allTo (part rows i) (part rows i).length) (whTo (part rows i) i (part rows i).length) (stopsTo (allTo (part rows i) (part rows i).length) (allTo (part rows i) (part rows i).length).length) (allTo (part rows i) 0).length:=by simp [allTo,mTo]
  exact ⟨h0,key 0 h h0⟩
 | succ t ih =>
  intro h
  have h1:=(ih (by omega)).2
  have hg:=runN_get rows i (t + 1) (by omega) h
  have h2:refFold rows (i + (t + 1)) = refFold rows i ++ mTo (allTo (part rows i) (part rows i).length) (whTo (part rows i) i (part rows i).length) (stopsTo (allTo (part rows i) (part rows i).length) (allTo (part rows i) (part rows i).length).length) (allTo (part rows i) (t + 1)).length:=by
   rw [← h1]
   show refStep rows (refFold rows (i + t)) (i + t) = _
   unfold refStep
   rw [if_neg]
   rintro (h3 | h3)
   ·omega
   ·rw [show i + t + 1 = i + (t + 1) by omega,hg.2] at h3;cases h3
  exact ⟨h2,key (t + 1) h h2⟩
theorem line_law (rows:List Row) (i:Nat) (hi:i < rows.length) (hL:LS rows i):refFold rows (i + runN rows i) = refFold rows i ++ lineMarks (part rows i) i:=by
 have hpl:=part_len rows i hi
 have h5:=runFrom_le rows i rows.length 1 (by omega)
 have h8:runN rows i = runFrom rows i rows.length 1:=rfl
 obtain ⟨n,hn⟩:∃ n,runN rows i = n + 1:=⟨runN rows i - 1,by omega⟩
 have h1:=(lines_law rows i hi hL n (by omega)).2
 have hs:=runN_stop rows i
 rw [hn] at hs ⊢
 show refStep rows (refFold rows (i + n)) (i + n) = _
 unfold refStep
 rw [if_pos,h1]
 ·unfold lineMarks lineM lineA lineW
  rw [stopsTo_length,hpl,hn]
  rw [List.append_assoc]
  congr 2
  show [endMark rows (i + n)] = _
  unfold endMark
  have e:rowT.nth (part rows i) (n + 1 - 1) = rowT.nth rows (i + n):=part_nth rows i n (by omega)
  rw [e,show ((i:Int) + ((n + 1:Nat):Int) - 1) = ((i + n:Nat):Int) by omega]
 ·by_cases h:i + n + 1 = rows.length
  ·exact .inl h
  ·exact .inr (hs (by omega))
theorem marks_law (rows:List Row):∀ f i,rows.length≤i + f→i≤rows.length→LS rows i→marksFrom rows f i (refFold rows i) = refFold rows rows.length:=by
 intro f
 induction f with
 | zero =>
  intro i h1 h2 _
  obtain rfl:i = rows.length:=by omega
  rfl
 | succ f ih =>
  intro i h1 h2 hL
  simp only [marksFrom]
  by_cases hi:i < rows.length
  ·rw [if_pos hi,← line_law rows i hi hL]
   have h5:=runFrom_le rows i rows.length 1 (by omega)
   have h8:runN rows i = runFrom rows i rows.length 1:=rfl
   refine ih _ (by omega) (by omega) ?_
   by_cases hl:i + runN rows i < rows.length
   ·exact .inr (runN_stop rows i hl)
   ·refine .inr ?_
    have:rowT.nth rows (i + runN rows i) = rowT.dflt:=by
     simp only [Ty.nth,List.getD_eq_getElem?_getD]
     rw [List.getElem?_eq_none (by omega)];rfl
    rw [this];rfl
  ·rw [if_neg hi]
   obtain rfl:i = rows.length:=by omega
   rfl
theorem marks_same (rows:List Row):allMarks rows = refMarks rows:=marks_law rows rows.length 0 (by omega) (Nat.zero_le _) (.inl rfl)
theorem rowMarks_len (rows:List Row) (M:List Mark) (i:Nat) (hs:smallR rows):(rowMarks rows M i).length≤M.length + cnt1 (rowT.nth rows i):=by
 have h1:=rmM_cnt i (lineOf rows i) (rowT.nth rows i) (aheadOf rows i) M (Row.cells (rowT.nth rows i)).length
 unfold rowMarks cnt1
 omega
theorem refFold_len (rows:List Row) (hs:smallR rows):∀ i,(refFold rows i).length≤sumTo rows i + i
 | 0=>Nat.le_refl _
 | i + 1=>by
  have h1:=refFold_len rows hs i
  have h3:sumTo rows (i + 1) = sumTo rows i + cnt1 (rowT.nth rows i):=rfl
  have h2:=rowMarks_len rows (refFold rows i) i hs
  show (refStep rows (refFold rows i) i).length≤_
  unfold refStep
  split
  ·rw [List.length_append];simp;omega
  ·omega
theorem allMarks_len {rows:List Row} (hs:smallR rows):(allMarks rows).length < 40000000:=by
 have:=refFold_len rows hs rows.length
 have:=hs.1
 have:=hs.2.2 rows.length
 rw [marks_same]
 unfold refMarks
 omega
theorem ptsTo_len (m:List Mark) (n:Nat):(ptsTo m n).length = n:=by simp [ptsTo]
theorem ptsTo_nth (m:List Mark) (n i:Nat) (h:i < n):pointT.nth (ptsTo m n) i = mP (markT.nth m i):=by
 simp [Ty.nth,ptsTo,List.getD_eq_getElem?_getD,h]
theorem sameLoopC (l:List Point) (m:List Mark) (hl:l.length < 100000000) (hm:l.length = m.length) (h:∀ i,i < l.length→(pointT.nth l i).1 = (markT.nth m i).1∧(pointT.nth l i).2.1 = (markT.nth m i).2.1):∀ j i n,j + i = l.length→j < n →
  LpC X0 0 (ntOf X0 FSm) (lpKeep X0 FSm 0) (lpBody X0 FSm 0) 0 n (stSm l m i) (.exit 0,stSmx l m):=by
 intro j
 induction j with
 | zero =>
  intro i n h1 h2
  obtain rfl:i = l.length:=by omega
  exact LpC.last (sameExit l m) (by simp)
 | succ j ih =>
  intro i n h1 h2
  obtain ⟨n,rfl⟩:∃ x,n = x + 1:=⟨n - 1,by omega⟩
  exact LpC.next (sameRound l m i hl (by omega) hm (h i (by omega)).1 (h i (by omega)).2) (ih (i + 1) n (by omega) (by omega))
theorem sameLoop:∀ (m:List Mark) (hl:m.length < 100000000),Lp X0 0 (ntOf X0 FSm) (lpKeep X0 FSm 0) (lpBody X0 FSm 0) 0 FUEL (stSm (ptsTo m m.length) m 0) (.exit 0,stSmx (ptsTo m m.length) m):=fun m hl=>LpC.start (m:=1152921504606846975) (sameLoopC (ptsTo m m.length) m (by rw [ptsTo_len];exact hl) (ptsTo_len _ _) (fun i hi=>by rw [ptsTo_len] at hi;rw [ptsTo_nth m _ i hi];exact ⟨rfl,rfl⟩) (ptsTo m m.length).length 0 _ (by omega) (by rw [ptsTo_len];omega)) (by kernel_rfl)
theorem same (m:List Mark) (hl:m.length < 100000000) (h2:(ptsTo m m.length).length = m.length):Ans X0 FSm [.d (pointT.slD (ptsTo m m.length)),.d (markT.slD m)] (.d (.bool true)):=by
 exact (pV (v:=V.d (D.bool ((↑(List.length (ptsTo m m.length)):Int) == (↑m.length:Int)))) 12 [(1,.l (Ex.exit 0) (stSmx (ptsTo m m.length) m))] (cE (@sameLoop (m) hl) nilE) (by kernel_rfl) rfl rfl).to (by simp (disch:=omega) [wrapId, *])
end Go.Proofs.Ytaobccodpdmieaa.Points
namespace Go.Proofs.Ytaobccodpdmieaa.Lay
open Go Pv G Utf
abbrev markT:Ty:=Points.markT
abbrev Mark:=markT.ty
abbrev M4 (r c k a:Int):Mark:=(r,c,k,a,())
abbrev mO (r c k a:Int):Ob:=.cells [.d (.int .i64 r),.d (.int .i64 c),.d (.int .i64 k),.d (.int .i64 a)]
abbrev ptO (r c:Int):Ob:=.cells [.d (.int .i64 r),.d (.int .i64 c)]
theorem iaddrMarkN:∀ (l:List Mark) (i:Nat) (hi:i < l.length),iaddrV XR 78 (.d (markT.slD l)) (.d (.int .i64 (i:Int))) = some (.d (.ref (l.flatMap markT.enc) (i * 4))):=fun l i hi=>iaddrSl (te := 77) (z:=4) (by kernel_rfl) (by kernel_rfl) (by omega) (by omega) (flat_len _ 4 (Ty.enc_length markT) l)
theorem loadMarkE:∀ (l:List Mark) (h:List Ob) (k:Nat) (hk:k < l.length) (r c x a:Int) (e:markT.nth l k = M4 r c x a),loadV XR h 77 (.d (.ref (l.flatMap markT.enc) (k * 4))) = some (.d (.agg [.int .i64 r,.int .i64 c,.int .i64 x,.int .i64 a])):=fun l h k hk r c x a e=>by
 have:=Pv.loadAgg (X:=XR) (e:=markT) (t := 77) (l:=l) (h:=h) (by kernel_rfl) (by kernel_rfl) hk
 rw [e] at this;exact this
abbrev FPSh:Nat := 12
abbrev stPs (at_ bias:Int) (r c x a r2 c2 x2 a2:Int) (fd:Bool) (l:List Mark) (k:Int):St :=
 ⟨[(1,.d (.int .i64 at_)),(2,.d (.int .i64 bias)),(6,.obj 0 0),(8,.obj 1 0),(9,.obj 2 0),(10,.d (.bool fd)),(39,.d (markT.slD l)),(40,.d (.int .i64 (l.length:Int))),(41,.d (.int .i64 k))],[ptO 0 0,mO r c x a,mO r2 c2 x2 a2],[]⟩
abbrev stPsx (at_ bias:Int) (r c x a r2 c2 x2 a2:Int) (fd:Bool) (l:List Mark) (k:Int):St :=
 ⟨[(1,.d (.int .i64 at_)),(2,.d (.int .i64 bias)),(6,.obj 0 0),(8,.obj 1 0),(9,.obj 2 0),(10,.d (.bool fd)),(39,.d (markT.slD l)),(40,.d (.int .i64 (l.length:Int))),(41,.d (.int .i64 k)),(42,.d (.bool false))],[ptO 0 0,mO r c x a,mO r2 c2 x2 a2],[]⟩
theorem psA (at_ bias:Int) (r c x a r2 c2 x2 a2:Int) (fd:Bool) (l:List Mark) (k:Nat) (hl:l.length≤100000000) (hk:k < l.length) (r3 c3 x3 a3:Int) (e:markT.nth l k = M4 r3 c3 x3 a3) (q:a3 > at_):RdC XR 0 (ntOf XR FPSh) (lpKeep XR FPSh 0) (lpBody XR FPSh 0) 3 (stPs at_ bias r c x a r2 c2 x2 a2 fd l k) (stPs at_ bias r c x a r2 c2 x2 a2 fd l ((k:Int) + 1)):=by
 have hx0:(decide ((↑k:Int) < (↑l.length:Int))) = true:=decide_eq_true (by omega)
 have hx1:(decide (a3 > at_)) = true:=decide_eq_true (by omega)
 exact (pC (st':={ s:=[(1,(zv at_)),(2,(zv bias)),(6,(zo 0 0)),(8,(zo 1 0)),(9,(zo 2 0)),(10,(zb fd)),(39,(zs markT l)),(40,(zv (↑l.length:Int))),(41,(zv (zw ((↑k:Int) + (1:Int)))))],h:=[(zc [(zv 0),(zv 0)]),(zc [(zv r),(zv c),(zv x),(zv a)]),(zc [(zv r2),(zv c2),(zv x2),(zv a2)])],og:=[] }) 12 [(1,bt),(2,.v (V.d (D.ref (List.flatMap (Ty.enc markT) l) (k * 4)))),(3,.v (V.d (D.agg [(zi r3),(zi c3),(zi x3),(zi a3)]))),(6,bt)] (cP hx1 (cP (@loadMarkE (l) ([(zc [(zv 0),(zv 0)]),(zc [(zv r),(zv c),(zv x),(zv a)]),(zc [(zv r2),(zv c2),(zv x2),(zv a2)])]) (k) hk (r3) (c3) (x3) (a3) e) (cP (@iaddrMarkN (l) (k) hk) (cP hx0 nilE)))) (by kernel_rfl)).to (by simp (disch:=omega) [wrapId, *])
theorem psB (at_ bias:Int) (r c x a r2 c2 x2 a2:Int) (l:List Mark) (k:Nat) (hl:l.length≤100000000) (hk:k < l.length) (r3 c3 a3:Int) (e:markT.nth l k = M4 r3 c3 2 a3) (q:¬ a3 > at_) (q2:a3 = at_):RdC XR 0 (ntOf XR FPSh) (lpKeep XR FPSh 0) (lpBody XR FPSh 0) 3 (stPs at_ bias r c x a r2 c2 x2 a2 false l k) (stPs at_ bias r c x a r3 c3 2 a3 true l ((k:Int) + 1)):=by
 have hx0:(decide ((↑k:Int) < (↑l.length:Int))) = true:=decide_eq_true (by omega)
 have hx1:(decide (a3 > at_)) = false:=decide_eq_false (by omega)
 have hx2:(a3 == at_) = true:=decide_eq_true (by omega)
 exact (pC (st':={ s:=[(1,(zv at_)),(2,(zv bias)),(6,(zo 0 0)),(8,(zo 1 0)),(9,(zo 2 0)),(10,(zb true)),(39,(zs markT l)),(40,(zv (↑l.length:Int))),(41,(zv (zw ((↑k:Int) + (1:Int)))))],h:=[(zc [(zv 0),(zv 0)]),(zc [(zv r),(zv c),(zv x),(zv a)]),(zc [(zv r3),(zv c3),(zv 2),(zv a3)])],og:=[] }) 12 [(1,bt),(2,.v (V.d (D.ref (List.flatMap (Ty.enc markT) l) (k * 4)))),(3,.v (V.d (D.agg [(zi r3),(zi c3),(zi 2),(zi a3)]))),(6,bf),(12,bt),(13,bt),(14,bt)] (cP hx2 (cP hx2 (cP hx2 (cP hx1 (cP (@loadMarkE (l) ([(zc [(zv 0),(zv 0)]),(zc [(zv r),(zv c),(zv x),(zv a)]),(zc [(zv r2),(zv c2),(zv x2),(zv a2)])]) (k) hk (r3) (c3) ((2:Int)) (a3) e) (cP (@iaddrMarkN (l) (k) hk) (cP hx0 nilE))))))) (by kernel_rfl)).to (by simp (disch:=omega) [wrapId, *])
theorem psC (at_ bias:Int) (r c x a r2 c2 x2 a2:Int) (l:List Mark) (k:Nat) (hl:l.length≤100000000) (hk:k < l.length) (r3 c3 a3:Int) (e:markT.nth l k = M4 r3 c3 2 a3) (q:¬ a3 > at_):RdC XR 0 (ntOf XR FPSh) (lpKeep XR FPSh 0) (lpBody XR FPSh 0) 3 (stPs at_ bias r c x a r2 c2 x2 a2 true l k) (stPs at_ bias r c x a r2 c2 x2 a2 true l ((k:Int) + 1)):=by
 have hx0:(decide ((↑k:Int) < (↑l.length:Int))) = true:=decide_eq_true (by omega)
 have hx1:(decide (a3 > at_)) = false:=decide_eq_false (by omega)
 rcases Bool.eq_false_or_eq_true (a3 == at_) with hx2 | hx2
 ·exact (pC (st':={ s:=[(1,(zv at_)),(2,(zv bias)),(6,(zo 0 0)),(8,(zo 1 0)),(9,(zo 2 0)),(10,(zb true)),(39,(zs markT l)),(40,(zv (↑l.length:Int))),(41,(zv (zw ((↑k:Int) + (1:Int)))))],h:=[(zc [(zv 0),(zv 0)]),(zc [(zv r),(zv c),(zv x),(zv a)]),(zc [(zv r2),(zv c2),(zv x2),(zv a2)])],og:=[] }) 12 [(1,bt),(2,.v (V.d (D.ref (List.flatMap (Ty.enc markT) l) (k * 4)))),(3,.v (V.d (D.agg [(zi r3),(zi c3),(zi 2),(zi a3)]))),(6,bf),(12,bt),(13,bt),(14,bt)] (cP hx2 (cP hx2 (cP hx2 (cP hx1 (cP (@loadMarkE (l) ([(zc [(zv 0),(zv 0)]),(zc [(zv r),(zv c),(zv x),(zv a)]),(zc [(zv r2),(zv c2),(zv x2),(zv a2)])]) (k) hk (r3) (c3) ((2:Int)) (a3) e) (cP (@iaddrMarkN (l) (k) hk) (cP hx0 nilE))))))) (by kernel_rfl)).to (by simp (disch:=omega) [wrapId, *])
 ·exact (pC (st':={ s:=[(1,(zv at_)),(2,(zv bias)),(6,(zo 0 0)),(8,(zo 1 0)),(9,(zo 2 0)),(10,(zb true)),(39,(zs markT l)),(40,(zv (↑l.length:Int))),(41,(zv (zw ((↑k:Int) + (1:Int)))))],h:=[(zc [(zv 0),(zv 0)]),(zc [(zv r),(zv c),(zv x),(zv a)]),(zc [(zv r2),(zv c2),(zv x2),(zv a2)])],og:=[] }) 12 [(1,bt),(2,.v (V.d (D.ref (List.flatMap (Ty.enc markT) l) (k * 4)))),(3,.v (V.d (D.agg [(zi r3),(zi c3),(zi 2),(zi a3)]))),(6,bf),(12,bf),(13,bf),(14,bf)] (cP hx2 (cP hx2 (cP hx2 (cP hx1 (cP (@loadMarkE (l) ([(zc [(zv 0),(zv 0)]),(zc [(zv r),(zv c),(zv x),(zv a)]),(zc [(zv r2),(zv c2),(zv x2),(zv a2)])]) (k) hk (r3) (c3) ((2:Int)) (a3) e) (cP (@iaddrMarkN (l) (k) hk) (cP hx0 nilE))))))) (by kernel_rfl)).to (by simp (disch:=omega) [wrapId, *])
theorem psD (at_ bias:Int) (r c x a r2 c2 x2 a2:Int) (fd:Bool) (l:List Mark) (k:Nat) (hl:l.length≤100000000) (hk:k < l.length) (r3 c3 a3:Int) (e:markT.nth l k = M4 r3 c3 2 a3) (q:¬ a3 > at_) (q2:¬ a3 = at_):RdC XR 0 (ntOf XR FPSh) (lpKeep XR FPSh 0) (lpBody XR FPSh 0) 3 (stPs at_ bias r c x a r2 c2 x2 a2 fd l k) (stPs at_ bias r c x a r2 c2 x2 a2 fd l ((k:Int) + 1)):=by
 have hx0:(decide ((↑k:Int) < (↑l.length:Int))) = true:=decide_eq_true (by omega)
 have hx1:(decide (a3 > at_)) = false:=decide_eq_false (by omega)
 have hx2:(a3 == at_) = false:=decide_eq_false (by omega)
 exact (pC (st':={ s:=[(1,(zv at_)),(2,(zv bias)),(6,(zo 0 0)),(8,(zo 1 0)),(9,(zo 2 0)),(10,(zb fd)),(39,(zs markT l)),(40,(zv (↑l.length:Int))),(41,(zv (zw ((↑k:Int) + (1:Int)))))],h:=[(zc [(zv 0),(zv 0)]),(zc [(zv r),(zv c),(zv x),(zv a)]),(zc [(zv r2),(zv c2),(zv x2),(zv a2)])],og:=[] }) 12 [(1,bt),(2,.v (V.d (D.ref (List.flatMap (Ty.enc markT) l) (k * 4)))),(3,.v (V.d (D.agg [(zi r3),(zi c3),(zi 2),(zi a3)]))),(6,bf),(12,bf),(13,bf),(14,bf)] (cP hx2 (cP hx2 (cP hx2 (cP hx1 (cP (@loadMarkE (l) ([(zc [(zv 0),(zv 0)]),(zc [(zv r),(zv c),(zv x),(zv a)]),(zc [(zv r2),(zv c2),(zv x2),(zv a2)])]) (k) hk (r3) (c3) ((2:Int)) (a3) e) (cP (@iaddrMarkN (l) (k) hk) (cP hx0 nilE))))))) (by kernel_rfl)).to (by simp (disch:=omega) [wrapId, *])
theorem psE (at_ bias:Int) (r c x a r2 c2 x2 a2:Int) (fd:Bool) (l:List Mark) (k:Nat) (hl:l.length≤100000000) (hk:k < l.length) (r3 c3 x3 a3:Int) (e:markT.nth l k = M4 r3 c3 x3 a3) (q:¬ a3 > at_) (q2:¬ x3 = 2):RdC XR 0 (ntOf XR FPSh) (lpKeep XR FPSh 0) (lpBody XR FPSh 0) 3 (stPs at_ bias r c x a r2 c2 x2 a2 fd l k) (stPs at_ bias r3 c3 x3 a3 r2 c2 x2 a2 fd l ((k:Int) + 1)):=by
 have hx0:(decide ((↑k:Int) < (↑l.length:Int))) = true:=decide_eq_true (by omega)
 have hx1:(decide (a3 > at_)) = false:=decide_eq_false (by omega)
 have hx2:(x3 == (2:Int)) = false:=decide_eq_false (by omega)
 exact (pC (st':={ s:=[(1,(zv at_)),(2,(zv bias)),(6,(zo 0 0)),(8,(zo 1 0)),(9,(zo 2 0)),(10,(zb fd)),(39,(zs markT l)),(40,(zv (↑l.length:Int))),(41,(zv (zw ((↑k:Int) + (1:Int)))))],h:=[(zc [(zv 0),(zv 0)]),(zc [(zv r3),(zv c3),(zv x3),(zv a3)]),(zc [(zv r2),(zv c2),(zv x2),(zv a2)])],og:=[] }) 12 [(1,bt),(2,.v (V.d (D.ref (List.flatMap (Ty.enc markT) l) (k * 4)))),(3,.v (V.d (D.agg [(zi r3),(zi c3),(zi x3),(zi a3)]))),(6,bf),(9,bf)] (cP hx2 (cP hx1 (cP (@loadMarkE (l) ([(zc [(zv 0),(zv 0)]),(zc [(zv r),(zv c),(zv x),(zv a)]),(zc [(zv r2),(zv c2),(zv x2),(zv a2)])]) (k) hk (r3) (c3) (x3) (a3) e) (cP (@iaddrMarkN (l) (k) hk) (cP hx0 nilE))))) (by kernel_rfl)).to (by simp (disch:=omega) [wrapId, *])
theorem psX (at_ bias:Int) (r c x a r2 c2 x2 a2:Int) (fd:Bool) (l:List Mark):Rd XR 0 (ntOf XR FPSh) (lpBody XR FPSh 0) (stPs at_ bias r c x a r2 c2 x2 a2 fd l l.length) (.exit 1,stPsx at_ bias r c x a r2 c2 x2 a2 fd l l.length):=by
 have hx0:(decide ((↑l.length:Int) < (↑l.length:Int))) = false:=decide_eq_false (by omega)
 exact (pR (r:=((Ex.exit 1),{ s:=[(1,(zv at_)),(2,(zv bias)),(6,(zo 0 0)),(8,(zo 1 0)),(9,(zo 2 0)),(10,(zb fd)),(39,(zs markT l)),(40,(zv (↑l.length:Int))),(41,(zv (↑l.length:Int))),(42,(zb (decide ((↑l.length:Int) < (↑l.length:Int)))))],h:=[(zc [(zv 0),(zv 0)]),(zc [(zv r),(zv c),(zv x),(zv a)]),(zc [(zv r2),(zv c2),(zv x2),(zv a2)])],og:=[] })) 12 [(1,bf)] (cP hx0 nilE) (by kernel_rfl)).to (by simp (disch:=omega) [wrapId, *])
def rOfM (m:Mark):Int:=m.1
def cOfM (m:Mark):Int:=m.2.1
def kOfM (m:Mark):Int:=m.2.2.1
def aOfM (m:Mark):Int:=m.2.2.2.1
theorem m4_eta (m:Mark):m = M4 (rOfM m) (cOfM m) (kOfM m) (aOfM m):=rfl
def shS (at_:Int) (l:List Mark):Nat→Mark × Mark × Bool
 | 0=>(M4 0 0 0 0,M4 0 0 0 0,false)
 | k + 1 =>
  if aOfM (markT.nth l k) > at_ then shS at_ l k
  else if kOfM (markT.nth l k) = 2 then
   if (shS at_ l k).2.2 = true then shS at_ l k
   else if aOfM (markT.nth l k) = at_ then ((shS at_ l k).1,markT.nth l k,true) else shS at_ l k
  else (markT.nth l k,(shS at_ l k).2)
abbrev stPsS (at_ bias:Int) (s:Mark × Mark × Bool) (l:List Mark) (k:Int):St:=stPs at_ bias (rOfM s.1) (cOfM s.1) (kOfM s.1) (aOfM s.1) (rOfM s.2.1) (cOfM s.2.1) (kOfM s.2.1) (aOfM s.2.1) s.2.2 l k
theorem psRound (at_ bias:Int) (l:List Mark) (hl:l.length≤100000000) (k:Nat) (hk:k < l.length):RdC XR 0 (ntOf XR FPSh) (lpKeep XR FPSh 0) (lpBody XR FPSh 0) 3 (stPsS at_ bias (shS at_ l k) l k) (stPsS at_ bias (shS at_ l (k + 1)) l ((k + 1:Nat):Int)):=by
 rw [show ((k + 1:Nat):Int) = (k:Int) + 1 from rfl]
 obtain ⟨r3,c3,x3,a3,e⟩:∃ r3 c3 x3 a3,markT.nth l k = M4 r3 c3 x3 a3:=⟨_,_,_,_,m4_eta _⟩
 generalize hs:shS at_ l k = s
 obtain ⟨o,v,fd⟩:=s
 simp only [shS,hs,e]
 rw [show aOfM (M4 r3 c3 x3 a3) = a3 from rfl,show kOfM (M4 r3 c3 x3 a3) = x3 from rfl]
 by_cases q:a3 > at_
 ·rw [if_pos q]
  exact psA at_ bias _ _ _ _ _ _ _ _ fd l k hl hk r3 c3 x3 a3 e q
 rw [if_neg q]
 by_cases q2:x3 = 2
 ·subst q2
  rw [if_pos rfl]
  cases fd with
  | true=>rw [if_pos rfl];exact psC at_ bias _ _ _ _ _ _ _ _ l k hl hk r3 c3 a3 e q
  | false =>
   rw [if_neg (by simp)]
   by_cases q3:a3 = at_
   ·rw [if_pos q3];exact psB at_ bias _ _ _ _ _ _ _ _ l k hl hk r3 c3 a3 e q q3
   ·rw [if_neg q3];exact psD at_ bias _ _ _ _ _ _ _ _ false l k hl hk r3 c3 a3 e q q3
 ·rw [if_neg q2]
  exact psE at_ bias _ _ _ _ _ _ _ _ fd l k hl hk r3 c3 x3 a3 e q q2
def PsL (at_ bias:Int) (l:List Mark) (r c x a r2 c2 x2 a2:Int) (fd:Bool):Prop:=Lp XR 0 (ntOf XR FPSh) (lpKeep XR FPSh 0) (lpBody XR FPSh 0) 3 FUEL (stPs at_ bias 0 0 0 0 0 0 0 0 false l 0) (.exit 1,stPsx at_ bias r c x a r2 c2 x2 a2 fd l l.length)
theorem psL (at_ bias:Int) (l:List Mark) (hl:l.length≤100000000):PsL at_ bias l (rOfM (shS at_ l l.length).1) (cOfM (shS at_ l l.length).1) (kOfM (shS at_ l l.length).1) (aOfM (shS at_ l l.length).1) (rOfM (shS at_ l l.length).2.1) (cOfM (shS at_ l l.length).2.1) (kOfM (shS at_ l l.length).2.1) (aOfM (shS at_ l l.length).2.1) (shS at_ l l.length).2.2 :=
 Lp.run (fun k=>stPsS at_ bias (shS at_ l k) l k) l.length (by omega) (by kernel_rfl) (fun k hk=>psRound at_ bias l hl k hk) (psX at_ bias _ _ _ _ _ _ _ _ _ l) (by simp)
theorem psLp:∀ (at_ bias:Int) (l:List Mark) (r c x a r2 c2 x2 a2:Int) (fd:Bool) (h:PsL at_ bias l r c x a r2 c2 x2 a2 fd),Lp XR 0 (ntOf XR FPSh) (lpKeep XR FPSh 0) (lpBody XR FPSh 0) 3 FUEL (stPs at_ bias 0 0 0 0 0 0 0 0 false l 0) (.exit 1,stPsx at_ bias r c x a r2 c2 x2 a2 fd l l.length):=fun _ _ _ _ _ _ _ _ _ _ _ _ h=>h
def vAt (at_:Int) (m:Mark):Bool:=decide (kOfM m = 2) && decide (aOfM m = at_)
theorem marksE:∀ (q:List Row) (hs:Points.smallR q) (l:List Mark) (e:Points.allMarks q = l),Ans XR 29 [.d (rowT.slD q)] (.d (markT.slD l)):=fun q hs l e=>by subst e;exact Points.marks q hs
theorem iaddrRowL:∀ (l:List Row) (k:Nat) (hk:k + 1 = l.length) (hl:l.length≤10000000),iaddrV XR 26 (.d (rowT.slD l)) (.d (.int .i64 (IntKind.wrap .i64 ((l.length:Int) - 1)))) = some (.d (.ref (l.flatMap rowT.enc) (k * 7))):=fun l k hk hl=>by
 rw [wrapId ((l.length:Int) - 1) (by omega) (by omega)]
 have e:(.d (.ref (l.flatMap rowT.enc) (k * 7)):V) = .d (.ref (l.flatMap rowT.enc) (((l.length:Int) - 1).toNat * 7)):=by rw [show ((l.length:Int) - 1).toNat = k by omega]
 rw [e]
 exact iaddrSl (te := 37) (z:=7) (by kernel_rfl) (by kernel_rfl) (by omega) (by omega) (flat_len _ 7 (Ty.enc_length rowT) l)
def endOfR (q:List Row):Int:=endR (rowT.nth q (q.length - 1))
theorem loadRowEnd:∀ (l:List Row) (h:List Ob) (k:Nat) (hk:k + 1 = l.length) (en:Int) (e:endOfR l = en),loadV XR h 3 (.d (.ref (l.flatMap rowT.enc) (k * 7 + 2))) = some (.d (.int .i64 en)):=fun l h k hk en e=>by
 have:=Pv.loadCell (X:=XR) (e:=rowT) (t := 3) (l:=l) (h:=h) (k:=k) (o:=2) (z1:=1) (by kernel_rfl) (by kernel_rfl) (by omega) (by decide)
 subst e
 unfold endOfR
 rw [show l.length - 1 = k by omega]
 exact this
abbrev rI (n:Int):V:=.d (.int .i64 n)
abbrev shwR (r c e:Int):V:=.d (.tup [.agg [.int .i64 r,.int .i64 c],.int .i64 e])
abbrev ptR2 (r c:Int):V:=.d (.agg [.int .i64 r,.int .i64 c])
theorem psV1 (q:List Row) (at_ en:Int) (k:Nat) (hq:k + 1 = q.length) (hq2:q.length≤10000000) (q0:¬ at_ < 0) (ee:endOfR q = en) (q1:¬ at_ > en) (hs:Points.smallR q) (l:List Mark) (e:Points.allMarks q = l) (r c x a r2 c2 x2 a2:Int) (fd:Bool) (h:PsL at_ 1 l r c x a r2 c2 x2 a2 fd):Ans XR FPSh [.d (rowT.slD q),rI at_,rI 1] (shwR r c 0):=by
 have hx0:((↑q.length:Int) == (0:Int)) = false:=decide_eq_false (by omega)
 have hx1:(decide (at_ < (0:Int))) = false:=decide_eq_false (by omega)
 have hx2:(decide (at_ > en)) = false:=decide_eq_false (by omega)
 exact pV 12 [(2,bf),(13,bf),(14,bf),(15,bf),(16,bf),(18,bf),(20,bf),(21,.v (V.d (D.ref (List.flatMap (Ty.enc rowT) q) (k * 7)))),(22,bf),(23,bf),(24,.v (zv en)),(25,bf),(27,bf),(28,bf),(29,.v (V.d (Ty.slD markT l))),(31,.l (Ex.exit 1) (stPsx at_ (1:Int) r c x a r2 c2 x2 a2 fd l (↑l.length:Int)))] (cE (@psLp (at_) ((1:Int)) (l) (r) (c) (x) (a) (r2) (c2) (x2) (a2) (fd) h) (cC (@marksE (q) hs (l) e) (cP hx2 (cP hx1 (cP hx1 (cP (@loadRowEnd (q) ([(zc [(zv 0),(zv 0)])]) (k) hq (en) ee) (cP hx1 (cP hx1 (cP (@iaddrRowL (q) (k) hq hq2) (cP hx1 (cP hx1 (cP hx1 (cP hx1 (cP hx1 (cP hx1 (cP hx0 nilE)))))))))))))))) (by kernel_rfl) rfl rfl
end Go.Proofs.Ytaobccodpdmieaa.Lay
namespace Go.Proofs.Ytaobccodpdmieaa.Points
open Go Pv G
abbrev tt:V:=.d (.bool true)
def one_T:Prop:=Ans X0 11 [] tt
theorem one:one_T:=by
 exact pV 12 [] nilE (by kernel_rfl) rfl rfl
end Go.Proofs.Ytaobccodpdmieaa.Points
namespace Go.Proofs.Ytaobccodpdmieaa.Lay
open Go Pv G Utf
def ptM (m:Mark):Int × Int:=(rOfM m,cOfM m)
def showP (at_ b:Int) (l:List Mark):Int × Int:=if b = 0∧(shS at_ l l.length).2.2 = true∧aOfM (shS at_ l l.length).1 = at_ then ptM (shS at_ l l.length).2.1 else ptM (shS at_ l l.length).1
theorem show1:∀ (q:List Row) (at_ en:Int) (k:Nat) (hq:k + 1 = q.length) (hq2:q.length≤10000000) (q0:¬ at_ < 0) (ee:endOfR q = en) (q1:¬ at_ > en) (hs:Points.smallR q) (l:List Mark) (el:Points.allMarks q = l) (hl:l.length≤100000000) (r c:Int) (e:showP at_ 1 l = (r,c)),Ans XR FPSh [.d (rowT.slD q),rI at_,rI 1] (shwR r c 0):=fun q at_ en k hq hq2 q0 ee q1 hs l el hl r c e=>by
 have hL:=psL at_ 1 l hl
 unfold showP at e
 rw [if_neg (fun h=>absurd h.1 (by decide))] at e
 injection e with e1 e2
 subst e1;subst e2
 exact psV1 q at_ en k hq hq2 q0 ee q1 hs l el _ _ _ _ _ _ _ _ _ hL
theorem ptEq:∀ (a b:Int),binV XR .eql 31 (.d (.agg [.int .i64 a,.int .i64 b])) (.d (.agg [.int .i64 a,.int .i64 b])) = some (.d (.bool true)):=fun a b=>by
 have e:binV XR .eql 31 (.d (.agg [.int .i64 a,.int .i64 b])) (.d (.agg [.int .i64 a,.int .i64 b])) = some (.d (.bool ((a == a) && ((b == b) && true)))):=by kernel_rfl
 rw [e];simp
def oneR_T:Prop:=Ans XR 11 [] (.d (.bool true))
theorem oneR:oneR_T:=Points.one
abbrev lawT:V:=.d (.bool true)
def nvLe (at_:Int) (m:Mark):Bool:=decide (¬ kOfM m = 2) && decide (aOfM m≤at_)
def orgM (at_:Int) (l:List Mark):Option Mark:=(l.filter (nvLe at_)).getLast?
theorem shS_org (at_:Int) (l:List Mark):∀ k,k≤l.length→(shS at_ l k).1 = (orgM at_ (l.take k)).getD (M4 0 0 0 0)
 | 0,_=>rfl
 | k + 1,h=>by
  have ih:=shS_org at_ l k (by omega)
  unfold orgM at ih ⊢
  rw [take_succ_nth (e:=markT) (show k < l.length by omega),List.filter_append]
  simp only [shS]
  by_cases q2:aOfM (markT.nth l k) > at_
  ·rw [if_pos q2,ih]
   have:nvLe at_ (markT.nth l k) = false:=by unfold nvLe;simp;omega
   simp [List.filter_cons,this]
  ·rw [if_neg q2]
   by_cases q:kOfM (markT.nth l k) = 2
   ·have:nvLe at_ (markT.nth l k) = false:=by unfold nvLe;simp [q]
    have e:∀ s:Mark × Mark × Bool,(if s.2.2 = true then s else if aOfM (markT.nth l k) = at_ then (s.1,markT.nth l k,true) else s).1 = s.1:=by
     intro s;split;rfl;split <;> rfl
    rw [if_pos q,e,ih]
    simp [List.filter_cons,this]
   ·rw [if_neg q]
    have:nvLe at_ (markT.nth l k) = true:=by unfold nvLe;simp [q];omega
    simp [List.filter_cons,this]
def shStep (at_:Int) (s:Mark × Mark × Bool) (m:Mark):Mark × Mark × Bool :=
 if aOfM m > at_ then s
 else if kOfM m = 2 then
  if s.2.2 = true then s
  else if aOfM m = at_ then (s.1,m,true) else s
 else (m,s.2)
theorem vir_step (at_:Int) (s:Mark × Mark × Bool) (m:Mark):(if s.2.2 = true then some s.2.1 else none).or ([m].find? (vAt at_)) = if (shStep at_ s m).2.2 = true then some (shStep at_ s m).2.1 else none:=by
 obtain ⟨o,v,fd⟩:=s
 unfold shStep
 by_cases q2:aOfM m > at_
 ·rw [if_pos q2]
  have:vAt at_ m = false:=by unfold vAt;simp;omega
  simp [List.find?_cons,this]
 ·rw [if_neg q2]
  by_cases q:kOfM m = 2
  ·rw [if_pos q]
   cases fd with
   | true=>simp
   | false =>
    by_cases q3:aOfM m = at_
    ·have:vAt at_ m = true:=by unfold vAt;simp [q,q3]
     simp [List.find?_cons,this,q3]
    ·have:vAt at_ m = false:=by unfold vAt;simp [q3]
     simp [List.find?_cons,this,q3]
  ·rw [if_neg q]
   have:vAt at_ m = false:=by unfold vAt;simp [q]
   simp [List.find?_cons,this]
theorem shS_vir (at_:Int) (l:List Mark):∀ k,k≤l.length→(l.take k).find? (vAt at_) = if (shS at_ l k).2.2 = true then some (shS at_ l k).2.1 else none
 | 0,_=>rfl
 | k + 1,h=>by
  have ih:=shS_vir at_ l k (by omega)
  rw [take_succ_nth (e:=markT) (show k < l.length by omega),List.find?_append,ih]
  exact vir_step at_ (shS at_ l k) (markT.nth l k)
def shownM (at_ b:Int) (l:List Mark) (o:Mark):Mark:=if b = 0∧aOfM o = at_ then (l.find? (vAt at_)).getD o else o
theorem showP_eq (at_ b:Int) (l:List Mark) (o:Mark) (h:orgM at_ l = some o):showP at_ b l = ptM (shownM at_ b l o):=by
 have h1:=shS_org at_ l l.length (Nat.le_refl _)
 have h2:=shS_vir at_ l l.length (Nat.le_refl _)
 rw [List.take_length,h] at h1
 rw [List.take_length] at h2
 simp only [Option.getD_some] at h1
 unfold showP shownM
 rw [h2,h1]
 generalize shS at_ l l.length = s
 obtain ⟨o2,v,fd⟩:=s
 by_cases q:b = 0∧aOfM o = at_
 ·rw [if_pos q]
  cases fd with
  | true=>rw [if_pos ⟨q.1,rfl,q.2⟩];rfl
  | false=>rw [if_neg (fun h=>by cases h.2.1)];rfl
 ·rw [if_neg q,if_neg (fun h=>q ⟨h.1,h.2.2⟩)]
theorem org_some {at_:Int} {l:List Mark} {m:Mark} (hm:m ∈ l) (h:nvLe at_ m = true):∃ o,orgM at_ l = some o:=by
 unfold orgM
 cases e:(l.filter (nvLe at_)).getLast? with
 | some o=>exact ⟨o,rfl⟩
 | none =>
  rw [List.getLast?_eq_none_iff] at e
  have:m ∈ l.filter (nvLe at_):=List.mem_filter.2 ⟨hm,h⟩
  rw [e] at this;cases this
theorem org_mem {at_:Int} {l:List Mark} {o:Mark} (h:orgM at_ l = some o):o ∈ l∧¬ kOfM o = 2∧aOfM o≤at_:=by
 have:=List.mem_of_getLast? h
 rw [List.mem_filter] at this
 refine ⟨this.1,?_⟩
 have h2:=this.2
 unfold nvLe at h2
 simpa using h2
def ptLt (a b:Mark):Prop:=rOfM a < rOfM b∨rOfM a = rOfM b∧cOfM a < cOfM b
theorem rmM_inc (i:Nat) (L:List Cell) (r:Row) (k0:Nat) (M:List Mark) (hM:M.Pairwise ptLt) (hi:∀ m ∈ M,rOfM m < i):∀ c,(Points.rmM i L r k0 M c).Pairwise ptLt∧∀ m ∈ Points.rmM i L r k0 M c,rOfM m < i∨rOfM m = i∧cOfM m < c
 | 0=>⟨hM,fun m hm=>.inl (hi m hm)⟩
 | c + 1=>by
  obtain ⟨h1,h2⟩:=rmM_inc i L r k0 M hM hi c
  have h3:∀ m ∈ Points.rmM i L r k0 M c,rOfM m < i∨rOfM m = i∧cOfM m < ((c + 1:Nat):Int):=fun m hm=>by
   rcases h2 m hm with h | h
   ·exact .inl h
   ·exact .inr ⟨h.1,by omega⟩
  simp only [Points.rmM]
  split
  ·exact ⟨h1,h3⟩
  ·split
   ·have e1:rOfM (Points.cm r i c) = i:=rfl
    have e2:cOfM (Points.cm r i c) = c:=rfl
    refine ⟨List.pairwise_append.2 ⟨h1,List.pairwise_singleton _ _,fun a ha b hb=>?_⟩,fun m hm=>?_⟩
    ·rw [List.mem_singleton] at hb
     subst hb
     unfold ptLt
     rw [e1,e2]
     exact h2 a ha
    ·rcases List.mem_append.1 hm with hm | hm
     ·exact h3 m hm
     ·rw [List.mem_singleton] at hm
      subst hm
      rw [e1,e2]
      exact .inr ⟨rfl,by omega⟩
   ·exact ⟨h1,h3⟩
theorem refFold_inc (q:List Row):∀ i,(Points.refFold q i).Pairwise ptLt∧∀ m ∈ Points.refFold q i,rOfM m < (i:Int)
 | 0=>⟨List.Pairwise.nil,fun m hm=>by cases hm⟩
 | i + 1=>by
  obtain ⟨h1,h2⟩:=refFold_inc q i
  obtain ⟨h3,h4⟩:=rmM_inc i (Points.lineOf q i) (rowT.nth q i) (Points.aheadOf q i) (Points.refFold q i) h1 h2 (Points.Row.cells (rowT.nth q i)).length
  show (Points.refStep q (Points.refFold q i) i).Pairwise ptLt∧∀ m ∈ Points.refStep q (Points.refFold q i) i,rOfM m < ((i + 1:Nat):Int)
  unfold Points.refStep
  split
  ·have e1:rOfM (Points.endMark q i) = i:=rfl
   have e2:cOfM (Points.endMark q i) = (Points.Row.cells (rowT.nth q i)).length:=rfl
   refine ⟨List.pairwise_append.2 ⟨h3,List.pairwise_singleton _ _,fun a ha b hb=>?_⟩,fun m hm=>?_⟩
   ·rw [List.mem_singleton] at hb
    subst hb
    unfold ptLt
    rw [e1,e2]
    exact h4 a ha
   ·rcases List.mem_append.1 hm with hm | hm
    ·have:=h4 m hm;omega
    ·rw [List.mem_singleton] at hm
     subst hm
     rw [e1];omega
  ·exact ⟨h3,fun m hm=>by have:=h4 m hm;omega⟩
theorem marks_inc (q:List Row):(Points.allMarks q).Pairwise ptLt:=by
 rw [Points.marks_same]
 exact (refFold_inc q q.length).1
theorem findFrom_at (l:List Mark) (p:Points.Point) (j:Nat) (hj:Points.isAt (markT.nth l j) p = true):∀ f k,k≤j→j < k + f→(∀ i,k≤i→i < j→Points.isAt (markT.nth l i) p = false)→Points.findFrom l p f k = j
 | 0,k,h1,h2,_=>by omega
 | f + 1,k,h1,h2,h=>by
  simp only [Points.findFrom]
  by_cases e:k = j
  ·subst e;rw [if_pos hj]
  ·rw [if_neg (by rw [h k (Nat.le_refl _) (by omega)];simp)]
   exact findFrom_at l p j hj f (k + 1) (by omega) (by omega) (fun i h3 h4=>h i (by omega) h4)
theorem find_mark (l:List Mark) (hl:l.Pairwise ptLt) (j:Nat) (hj:j < l.length) (p:Points.Point) (h1:p.1 = rOfM (markT.nth l j)) (h2:p.2.1 = cOfM (markT.nth l j)):Points.findTo l p = j:=by
 refine findFrom_at l p j ?_ l.length 0 (Nat.zero_le _) (by omega) (fun i _ hi=>?_)
 ·unfold Points.isAt
  rw [h1,h2]
  show (rOfM (markT.nth l j) == rOfM (markT.nth l j) && cOfM (markT.nth l j) == cOfM (markT.nth l j)) = true
  simp
 ·have h3:ptLt (markT.nth l i) (markT.nth l j):=by
   rw [nth_get (e:=markT) (show i < l.length by omega),nth_get (e:=markT) hj]
   exact List.pairwise_iff_getElem.1 hl i j (by omega) hj hi
  unfold Points.isAt
  rw [h1,h2]
  show (rOfM (markT.nth l i) == rOfM (markT.nth l j) && cOfM (markT.nth l i) == cOfM (markT.nth l j)) = false
  unfold ptLt at h3
  rw [Bool.and_eq_false_iff,beq_eq_false_iff_ne,beq_eq_false_iff_ne]
  omega
end Go.Proofs.Ytaobccodpdmieaa.Lay
