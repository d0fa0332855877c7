/- Lemmas for the law PointsStayLaw: texts of mine, merged. -/
import Derived.Test.YtaobccodpdmieaaChecked
import Derived.WalkKit
import Derived.Deep.LoopGhost
import Derived.Lib.Walk
import Derived.Below
import Derived.Laws.ResultCell
import Derived.Laws.Rows
import Derived.Test.YtaobccodpdmieaaMPointsStayLaw9
set_option linter.unusedVariables false
set_option linter.unusedSimpArgs false
set_option maxRecDepth 100000
set_option maxHeartbeats 4000000
namespace Go.Proofs.Ytaobccodpdmieaa.Lay
open Go Pv G Utf
def kdC (c:Cell):Int:=c.2.1
def isK (c:Cell):Bool:=decide (kdC c = 1) || decide (kdC c = 2) || decide (kdC c = 3)
def nvC (c:Cell):Bool:=decide (kdC c = 1) || decide (kdC c = 3)
def niC (c:Cell):Bool:=!(kdC c == 5)
def nvM (m:Mark):Bool:=decide (¬ kOfM m = 2)
abbrev Key:Type:=Int × Int
def keyM (m:Mark):Key:=(kOfM m,aOfM m)
def keyC (c:Cell):Key:=(kdC c,atC c)
def wrR (x:Row):Bool:=x.2.2.2.2.1
def nonI (L:List Row):List Cell:=L.flatMap fun x=>x.1.filter niC
theorem inAto_eq (A cells:List Cell):∀ k,k≤cells.length→Points.inAto A cells k = A ++ (cells.take k).filter niC
 | 0,_=>by simp [Points.inAto]
 | k + 1,h=>by
  have ih:=inAto_eq A cells k (by omega)
  rw [take_succ_nth (e:=cellT) (show k < cells.length by omega),List.filter_append,← List.append_assoc,← ih]
  show (if (Points.Cell.kind (cellT.nth cells k) == 5) = true then Points.inAto A cells k else Points.inAto A cells k ++ [cellT.nth cells k]) = _
  have e:niC (cellT.nth cells k) = !(Points.Cell.kind (cellT.nth cells k) == 5):=rfl
  by_cases q:(Points.Cell.kind (cellT.nth cells k) == 5) = true
  ·rw [if_pos q]
   rw [q] at e
   simp [List.filter_cons,e]
  ·rw [if_neg q]
   have q2:(Points.Cell.kind (cellT.nth cells k) == 5) = false:=by simpa using q
   rw [q2] at e
   simp [List.filter_cons,e]
theorem allTo_nonI (rows:List Row):∀ i,i≤rows.length→Points.allTo rows i = nonI (rows.take i)
 | 0,_=>rfl
 | i + 1,h=>by
  have ih:=allTo_nonI rows i (by omega)
  rw [take_succ_nth (e:=rowT) (show i < rows.length by omega)]
  show Points.rowA (Points.allTo rows i) (rowT.nth rows i) = _
  unfold Points.rowA
  rw [inAto_eq _ _ _ (Nat.le_refl _),List.take_length,ih]
  unfold nonI
  rw [List.flatMap_append]
  simp [Points.Row.cells]
theorem lineA_nonI (L:List Row):Points.lineA L = nonI L:=by
 unfold Points.lineA
 rw [allTo_nonI L _ (Nat.le_refl _),List.take_length]
theorem mTo_keys (A:List Cell) (W:List Points.Point):∀ k,k≤A.length →
  List.Sublist ((Points.mTo A W (Points.stopsTo A A.length) k).map keyM) (((A.take k).filter isK).map keyC) ∧
  ((Points.mTo A W (Points.stopsTo A A.length) k).filter nvM).map keyM = ((A.take k).filter nvC).map keyC
 | 0,_=>⟨by simp [Points.mTo],by simp [Points.mTo]⟩
 | k + 1,h=>by
  obtain ⟨ih1,ih2⟩:=mTo_keys A W k (by omega)
  rw [take_succ_nth (e:=cellT) (show k < A.length by omega),List.filter_append,List.filter_append,List.map_append,List.map_append,← ih2]
  have hm:Points.mTo A W (Points.stopsTo A A.length) (k + 1) = if Points.stopAt A k then Points.mTo A W (Points.stopsTo A A.length) k ++ [Points.mk A W k] else Points.mTo A W (Points.stopsTo A A.length) k:=by
   rw [← Points.stops_nth A k (by omega)];rfl
  rw [hm]
  generalize Points.mTo A W (Points.stopsTo A A.length) k = M at ih1 ih2
  have hk:keyM (Points.mk A W k) = keyC (cellT.nth A k):=rfl
  have hk2:kOfM (Points.mk A W k) = kdC (cellT.nth A k):=rfl
  have hs:Points.stopAt A k = (kdC (cellT.nth A k) == 1 || kdC (cellT.nth A k) == 3 || (kdC (cellT.nth A k) == 2 && (k == 0 || Points.Cell.at (cellT.nth A (k - 1)) != Points.Cell.at (cellT.nth A k)))):=rfl
  by_cases q1:kdC (cellT.nth A k) = 1
  ·have s1:Points.stopAt A k = true:=by rw [hs,q1];rfl
   have s2:isK (cellT.nth A k) = true:=by unfold isK;rw [q1];rfl
   have s3:nvC (cellT.nth A k) = true:=by unfold nvC;rw [q1];rfl
   have s4:nvM (Points.mk A W k) = true:=by unfold nvM;rw [hk2,q1];rfl
   rw [if_pos s1,List.filter_append]
   simp only [List.map_append,List.filter_cons,List.filter_nil,s2,s3,s4,if_true,List.map_cons,List.map_nil,hk]
   exact ⟨ih1.append (List.Sublist.refl _),trivial⟩
  by_cases q3:kdC (cellT.nth A k) = 3
  ·have s1:Points.stopAt A k = true:=by rw [hs,q3];rfl
   have s2:isK (cellT.nth A k) = true:=by unfold isK;rw [q3];rfl
   have s3:nvC (cellT.nth A k) = true:=by unfold nvC;rw [q3];rfl
   have s4:nvM (Points.mk A W k) = true:=by unfold nvM;rw [hk2,q3];rfl
   rw [if_pos s1,List.filter_append]
   simp only [List.map_append,List.filter_cons,List.filter_nil,s2,s3,s4,if_true,List.map_cons,List.map_nil,hk]
   exact ⟨ih1.append (List.Sublist.refl _),trivial⟩
  by_cases q2:kdC (cellT.nth A k) = 2
  ·have s2:isK (cellT.nth A k) = true:=by unfold isK;rw [q2];rfl
   have s3:nvC (cellT.nth A k) = false:=by unfold nvC;rw [q2];rfl
   have s4:nvM (Points.mk A W k) = false:=by unfold nvM;rw [hk2,q2];rfl
   cases hst:Points.stopAt A k with
   | true =>
    rw [if_pos rfl,List.filter_append]
    simp only [List.map_append,List.filter_cons,List.filter_nil,s2,s3,s4,if_true,List.map_cons,List.map_nil,hk]
    exact ⟨ih1.append (List.Sublist.refl _),by simp⟩
   | false =>
    rw [if_neg (by simp)]
    simp only [List.filter_cons,List.filter_nil,s2,s3,if_true,List.map_cons,List.map_nil]
    exact ⟨ih1.trans (List.sublist_append_left _ _),by simp⟩
  ·have s1:Points.stopAt A k = false:=by
    rw [hs]
    simp [q1,q2,q3]
   have s2:isK (cellT.nth A k) = false:=by unfold isK;simp [q1,q2,q3]
   have s3:nvC (cellT.nth A k) = false:=by unfold nvC;simp [q1,q3]
   rw [s1,if_neg (by simp)]
   simp only [List.filter_cons,List.filter_nil,s2,s3]
   exact ⟨by simpa using ih1,by simp⟩
def keysK (L:List Row):List Key:=((nonI L).filter isK).map keyC ++ [(0,endOfR L)]
def keysN (L:List Row):List Key:=((nonI L).filter nvC).map keyC ++ [(0,endOfR L)]
theorem lineMarks_keys (L:List Row) (i:Int):List.Sublist ((Points.lineMarks L i).map keyM) (keysK L)∧((Points.lineMarks L i).filter nvM).map keyM = keysN L:=by
 obtain ⟨h1,h2⟩:=mTo_keys (Points.lineA L) (Points.lineW L i) _ (Nat.le_refl _)
 rw [List.take_length,lineA_nonI] at h1 h2
 unfold Points.lineMarks Points.lineM keysK keysN
 rw [Points.stopsTo_length,lineA_nonI,List.filter_append,List.map_append,List.map_append,h2]
 refine ⟨h1.append ?_,?_⟩
 ·exact List.Sublist.refl _
 ·rfl
def LineR (L:List Row):Prop:=∃ x ws,L = x :: ws∧wrR x = false∧∀ w ∈ ws,wrR w = true
def linesM:Nat→List (List Row)→List Mark
 | _,[]=>[]
 | i,L :: Ls=>Points.lineMarks L i ++ linesM (i + L.length) Ls
theorem nth_pre_append {e:Ty} (a b:List e.ty) (k:Nat):e.nth (a ++ b) (a.length + k) = e.nth b k:=by
 simp only [Ty.nth,List.getD_eq_getElem?_getD]
 rw [List.getElem?_append_right (by omega)]
 congr 2;omega
theorem nth_app_left {e:Ty} (a b:List e.ty) (k:Nat) (h:k < a.length):e.nth (a ++ b) k = e.nth a k:=by
 simp only [Ty.nth,List.getD_eq_getElem?_getD]
 rw [List.getElem?_append_left h]
theorem run_line (pre L rest:List Row) (hL:LineR L) (hr:∀ y rs,rest = y :: rs→wrR y = false):Points.runN (pre ++ (L ++ rest)) pre.length = L.length:=by
 obtain ⟨x,ws,rfl,hx,hw⟩:=hL
 have hlen:(pre ++ ((x :: ws) ++ rest)).length = pre.length + (ws.length + 1) + rest.length:=by simp;omega
 have h1:=Points.runFrom_le (pre ++ ((x :: ws) ++ rest)) pre.length (pre ++ ((x :: ws) ++ rest)).length 1 (by omega)
 have h2:=Points.runFrom_ge (pre ++ ((x :: ws) ++ rest)) pre.length (ws.length + 1) (pre ++ ((x :: ws) ++ rest)).length 1 (by omega) (by omega) (fun t ht1 ht2=>by
  unfold Points.goesOn
  have e:rowT.nth (pre ++ ((x :: ws) ++ rest)) (pre.length + t) = rowT.nth ws (t - 1):=by
   rw [nth_pre_append (e:=rowT),nth_app_left (e:=rowT) _ _ _ (by simp;omega)]
   obtain ⟨t,rfl⟩:∃ u,t = u + 1:=⟨t - 1,by omega⟩
   rfl
  rw [decide_eq_true (by omega),Bool.true_and]
  show wrR (rowT.nth (pre ++ ((x :: ws) ++ rest)) (pre.length + t)) = true
  rw [e,nth_get (e:=rowT) (by omega)]
  exact hw _ (List.getElem_mem _))
 unfold Points.runN
 have h3:Points.runFrom (pre ++ ((x :: ws) ++ rest)) pre.length (pre ++ ((x :: ws) ++ rest)).length 1≤ws.length + 1:=by
  apply Classical.byContradiction
  intro h4
  have h5:=Points.runFrom_get (pre ++ ((x :: ws) ++ rest)) pre.length (pre ++ ((x :: ws) ++ rest)).length 1 (ws.length + 1) (by omega) (by omega)
  unfold Points.goesOn at h5
  rw [Bool.and_eq_true,decide_eq_true_eq] at h5
  have e:rowT.nth (pre ++ ((x :: ws) ++ rest)) (pre.length + (ws.length + 1)) = rowT.nth rest 0:=by
   rw [nth_pre_append (e:=rowT)]
   have:=nth_pre_append (e:=rowT) (x :: ws) rest 0
   simpa using this
  cases rest with
  | nil=>simp at h5
  | cons y rs =>
   have h6:=hr y rs rfl
   have h7:wrR (rowT.nth (pre ++ ((x :: ws) ++ (y :: rs))) (pre.length + (ws.length + 1))) = true:=h5.2
   rw [e] at h7
   have h8:rowT.nth (y :: rs) 0 = y:=rfl
   rw [h8,h6] at h7
   cases h7
 simp only [List.length_cons]
 omega
theorem part_line (pre L rest:List Row) (hL:LineR L) (hr:∀ y rs,rest = y :: rs→wrR y = false):Points.part (pre ++ (L ++ rest)) pre.length = L:=by
 unfold Points.part
 rw [run_line pre L rest hL hr]
 rw [List.take_length_add_append,List.drop_left,List.take_left]
theorem rest_head (Ls:List (List Row)) (h:∀ L ∈ Ls,LineR L):∀ y rs,Ls.flatten = y :: rs→wrR y = false:=by
 intro y rs e
 cases Ls with
 | nil=>cases e
 | cons L Ls =>
  obtain ⟨x,ws,rfl,hx,_⟩:=h L (by simp)
  rw [List.flatten_cons,List.cons_append] at e
  injection e with e1 _
  rw [← e1];exact hx
theorem marks_lines:∀ (Ls:List (List Row)) (pre:List Row) (M:List Mark) (f:Nat),(∀ L ∈ Ls,LineR L)→Ls.flatten.length≤f→Points.marksFrom (pre ++ Ls.flatten) f pre.length M = M ++ linesM pre.length Ls
 | [],pre,M,f,_,_=>by
  simp only [List.flatten_nil,List.append_nil,linesM]
  cases f with
  | zero=>rfl
  | succ f=>simp only [Points.marksFrom];rw [if_neg (by omega)]
 | L :: Ls,pre,M,f,h,hf=>by
  have hL:=h L (by simp)
  have hr:=rest_head Ls (fun K hK=>h K (by simp [hK]))
  have e1:=run_line pre L Ls.flatten hL hr
  have e2:=part_line pre L Ls.flatten hL hr
  have hpos:0 < L.length:=by obtain ⟨x,ws,rfl,_⟩:=hL;simp
  rw [List.flatten_cons] at hf ⊢
  rw [List.length_append] at hf
  obtain ⟨f,rfl⟩:∃ g,f = g + 1:=⟨f - 1,by omega⟩
  simp only [Points.marksFrom]
  rw [if_pos (by simp;omega),e1,e2]
  have ih:=marks_lines Ls (pre ++ L) (M ++ Points.lineMarks L pre.length) f (fun K hK=>h K (by simp [hK])) (by omega)
  rw [List.append_assoc,List.length_append] at ih
  rw [ih,List.append_assoc]
  rfl
theorem allMarks_lines (Ls:List (List Row)) (h:∀ L ∈ Ls,LineR L):Points.allMarks Ls.flatten = linesM 0 Ls:=by
 have:=marks_lines Ls [] [] Ls.flatten.length h (Nat.le_refl _)
 exact this
theorem linesM_keys:∀ (Ls:List (List Row)) (i:Nat),List.Sublist ((linesM i Ls).map keyM) (Ls.flatMap keysK)∧((linesM i Ls).filter nvM).map keyM = Ls.flatMap keysN
 | [],i=>⟨List.Sublist.refl _,rfl⟩
 | L :: Ls,i=>by
  obtain ⟨h1,h2⟩:=lineMarks_keys L i
  obtain ⟨h3,h4⟩:=linesM_keys Ls (i + L.length)
  simp only [linesM,List.map_append,List.filter_append,List.flatMap_cons,h2,h4]
  exact ⟨h1.append h3,trivial⟩
def cellsR (x:Row):List Cell:=x.1
theorem rowsR_cells (r:List Int) (fr to:Int) (L:List (List Cell)):∀ j,j≤L.length→(rowsR r fr to L j).map cellsR = L.drop (L.length - j)
 | 0,_=>by simp [rowsR]
 | j + 1,h=>by
  have ih:=rowsR_cells r fr to L j (by omega)
  rw [show rowsR r fr to L (j + 1) = rowR r fr (endOf to (rowsR r fr to L j)) L (L.length - 1 - j) :: rowsR r fr to L j from rfl,List.map_cons,ih]
  have hk:L.length - (j + 1) < L.length:=by omega
  rw [List.drop_eq_getElem_cons hk,show L.length - (j + 1) + 1 = L.length - j by omega]
  congr 1
  show rowsT.nth L (L.length - 1 - j) = _
  rw [show L.length - 1 - j = L.length - (j + 1) by omega,nth_get (e:=rowsT) hk]
theorem nonI_map (L:List Row):nonI L = (L.map cellsR).flatMap (fun c=>c.filter niC):=by
 unfold nonI
 rw [List.flatMap_map]
 rfl
theorem indR_ni (hg:Nat) (a:Int):(indR hg a).filter niC = []:=by
 unfold indR
 rw [List.filter_eq_nil_iff]
 intro c hc
 rw [List.mem_replicate] at hc
 rw [hc.2]
 have:niC (C4 32 5 1 a) = false:=rfl
 rw [this];simp
theorem rowG_cells (l:List Cell) (r1:Int) (hg:Nat):∀ f k,l.length - k≤f→(rowG l r1 hg f k).flatMap (fun c=>c.filter niC) = (l.drop k).filter niC
 | 0,k,h=>by
  rw [List.drop_eq_nil_of_le (by omega)];rfl
 | f + 1,k,h=>by
  rw [rowG_succ]
  by_cases q:k < l.length
  ·rw [if_pos q,List.flatMap_cons,List.filter_append,indR_ni,List.nil_append]
   have h1:=(takesC_le (l.drop k) r1).1 (by rw [List.length_drop];omega)
   rw [rowG_cells l r1 hg f (k + takesC (l.drop k) r1) (by omega),← List.filter_append,← List.drop_drop,List.take_append_drop]
  ·rw [if_neg q,List.drop_eq_nil_of_le (by omega)];rfl
theorem rowsOf_cells (l:List Cell) (wd:Int):(rowsOf l wd).flatMap (fun c=>c.filter niC) = l.filter niC:=by
 unfold rowsOf
 split
 ·simp
 ·split
  ·unfold rowsM
   rw [List.flatMap_cons,rowG_cells l _ _ l.length _ (by omega),← List.filter_append,List.take_append_drop]
  ·simp
theorem lineRows_nonI (r:List Int) (zl wl:List Rng) (tab wd:Int) (p:List Part) (fr to:Int):nonI (lineRows r zl wl tab wd p fr to) = (cellsOf zl wl tab p).filter niC:=by
 rw [nonI_map]
 unfold lineRows
 rw [rowsR_cells _ _ _ _ _ (Nat.le_refl _),Nat.sub_self,List.drop_zero,rowsOf_cells]
theorem ni_of {f:Cell→Bool} (hf:∀ c,f c = true→niC c = true) (l:List Cell):(l.filter niC).filter f = l.filter f:=by
 rw [List.filter_filter]
 congr 1
 funext c
 cases h:f c with
 | true=>rw [hf c h];rfl
 | false=>simp
theorem ni_isK (c:Cell) (h:isK c = true):niC c = true:=by
 unfold isK at h;unfold niC
 simp at h ⊢
 omega
theorem ni_nvC (c:Cell) (h:nvC c = true):niC c = true:=by
 unfold nvC at h;unfold niC
 simp at h ⊢
 omega
theorem rowsR_wr (r:List Int) (fr to:Int) (L:List (List Cell)):∀ j,j < L.length→∀ w ∈ rowsR r fr to L j,wrR w = true
 | 0,_=>by intro w hw;cases hw
 | j + 1,h=>by
  intro w hw
  rw [show rowsR r fr to L (j + 1) = rowR r fr (endOf to (rowsR r fr to L j)) L (L.length - 1 - j) :: rowsR r fr to L j from rfl] at hw
  rcases List.mem_cons.1 hw with hw | hw
  ·rw [hw]
   show decide (((L.length - 1 - j:Nat):Int) > 0) = true
   rw [decide_eq_true_eq];omega
  ·exact rowsR_wr r fr to L j (by omega) w hw
theorem lineRows_line (r:List Int) (zl wl:List Rng) (tab wd:Int) (p:List Part) (fr to:Int):LineR (lineRows r zl wl tab wd p fr to):=by
 have hpos:=rowsOf_pos (cellsOf zl wl tab p) wd
 unfold lineRows
 generalize rowsOf (cellsOf zl wl tab p) wd = L at hpos
 obtain ⟨q,hq⟩:∃ q,L.length = q + 1:=⟨L.length - 1,by omega⟩
 refine ⟨rowR r fr (endOf to (rowsR r fr to L q)) L (L.length - 1 - q),rowsR r fr to L q,?_,?_,rowsR_wr r fr to L q (by omega)⟩
 ·rw [show rowsR r fr to L L.length = rowsR r fr to L (q + 1) by rw [hq]];rfl
 show decide (((L.length - 1 - q:Nat):Int) > 0) = false
 rw [decide_eq_false_iff_not];omega
theorem lineRows_end (r:List Int) (zl wl:List Rng) (tab wd:Int) (p:List Part) (fr to:Int):endOfR (lineRows r zl wl tab wd p fr to) = to:=by
 obtain ⟨pre,x,e,h⟩:=lineRows_last r zl wl tab wd p fr to
 unfold endOfR
 rw [e,List.length_append,List.length_singleton,Nat.add_sub_cancel]
 have:=nth_pre_append (e:=rowT) pre [x] 0
 rw [Nat.add_zero] at this
 rw [this]
 exact h
def keysLK (zl wl:List Rng) (tab:Int) (l:Line):List Key:=((cellsOf zl wl tab l.1).filter isK).map keyC ++ [(0,l.2.2.1)]
def keysLN (zl wl:List Rng) (tab:Int) (l:Line):List Key:=((cellsOf zl wl tab l.1).filter nvC).map keyC ++ [(0,l.2.2.1)]
theorem keysK_line (r:List Int) (zl wl:List Rng) (tab wd:Int) (l:Line):keysK (rowsLine r zl wl tab wd l) = keysLK zl wl tab l:=by
 unfold keysK keysLK rowsLine
 rw [lineRows_nonI,ni_of ni_isK,lineRows_end]
theorem keysN_line (r:List Int) (zl wl:List Rng) (tab wd:Int) (l:Line):keysN (rowsLine r zl wl tab wd l) = keysLN zl wl tab l:=by
 unfold keysN keysLN rowsLine
 rw [lineRows_nonI,ni_of ni_nvC,lineRows_end]
theorem rows_keys (r:List Int) (il:List Inl) (hid:List Span) (zl wl:List Rng) (tab wd:Int) :
  List.Sublist ((Points.allMarks (rowsAll r il hid zl wl tab wd)).map keyM) ((allL r il hid).flatMap (keysLK zl wl tab)) ∧
  ((Points.allMarks (rowsAll r il hid zl wl tab wd)).filter nvM).map keyM = (allL r il hid).flatMap (keysLN zl wl tab):=by
 have e:rowsAll r il hid zl wl tab wd = ((allL r il hid).map (rowsLine r zl wl tab wd)).flatten:=by unfold rowsAll;rw [List.flatMap_def]
 have hL:∀ L ∈ (allL r il hid).map (rowsLine r zl wl tab wd),LineR L:=by
  intro L hL
  obtain ⟨l,_,rfl⟩:=List.mem_map.1 hL
  exact lineRows_line _ _ _ _ _ _ _ _
 obtain ⟨h1,h2⟩:=linesM_keys ((allL r il hid).map (rowsLine r zl wl tab wd)) 0
 rw [e,allMarks_lines _ hL,h2]
 rw [List.flatMap_map] at h1 ⊢
 simp only [keysK_line,keysN_line] at h1 ⊢
 exact ⟨h1,trivial⟩
theorem sumTo_nonI (q:List Row) (i:Nat):Points.sumTo q i≤(nonI q).length:=by
 by_cases h:i≤q.length
 ·rw [← Points.allTo_eq,allTo_nonI q i h]
  have:nonI q = nonI (q.take i) ++ nonI (q.drop i):=by unfold nonI;rw [← List.flatMap_append,List.take_append_drop]
  rw [this,List.length_append];omega
 ·have h2:∀ j,q.length≤j→Points.sumTo q j = Points.sumTo q q.length:=by
   intro j hj
   induction j with
   | zero=>rw [show q.length = 0 by omega]
   | succ j ih =>
    by_cases e:q.length = j + 1
    ·rw [e]
    ·rw [← ih (by omega)]
     show Points.sumTo q j + Points.cnt1 (rowT.nth q j) = Points.sumTo q j
     have:rowT.nth q j = rowT.dflt:=by
      simp only [Ty.nth,List.getD_eq_getElem?_getD]
      rw [List.getElem?_eq_none (by omega)];rfl
     rw [this];rfl
  rw [h2 i (by omega),← Points.allTo_eq,allTo_nonI q _ (Nat.le_refl _),List.take_length]
  exact Nat.le_refl _
theorem SmallV.nonI_le {r:List Int} {il:List Inl} {hid:List Span} {tab:Int} (h:SmallV r il hid tab) (zl wl:List Rng) (wd:Int):(nonI (rowsAll r il hid zl wl tab wd)).length≤5000000:=by
 have hlen:=allG_len r il hid r.length 0
 have b2:=h.r120
 have e:nonI (rowsAll r il hid zl wl tab wd) = (allL r il hid).flatMap (fun l=>(cellsOf zl wl tab l.1).filter niC):=by
  unfold nonI rowsAll
  rw [List.flatMap_assoc]
  congr 1
  funext l
  exact lineRows_nonI r zl wl tab wd l.1 l.2.1 l.2.2.1
 rw [e]
 have h1:=flat_le (fun l:Line=>(cellsOf zl wl tab l.1).filter niC) 40320 (allL r il hid) (fun l hl=>by
  obtain ⟨k,hk,rfl⟩:=allG_mem r il hid h.ok r.length 0 (by omega) l hl
  have h2:=(h.ln zl wl wd k hk).2
  exact Nat.le_trans (List.length_filter_le _ _) h2)
 unfold allL at h1 ⊢
 omega
theorem SmallV.smallR {r:List Int} {il:List Inl} {hid:List Span} {tab:Int} (h:SmallV r il hid tab) (zl wl:List Rng) (wd:Int):Points.smallR (rowsAll r il hid zl wl tab wd):=by
 have hv:=h.view zl wl wd
 refine ⟨hv.all,fun i=>?_,fun i=>?_⟩
 ·by_cases hi:i < (rowsAll r il hid zl wl tab wd).length
  ·show (cellsR (rowT.nth (rowsAll r il hid zl wl tab wd) i)).length≤100000
   rw [nth_get (e:=rowT) hi]
   have hm:=List.getElem_mem hi
   unfold rowsAll at hm
   obtain ⟨l,hl,hx⟩:=List.mem_flatMap.1 hm
   have hk:=hv.lines l hl
   have hx2:cellsR ((rowsAll r il hid zl wl tab wd)[i]) ∈ (lineRows r zl wl tab wd l.1 l.2.1 l.2.2.1).map cellsR:=List.mem_map_of_mem hx
   unfold lineRows at hx2
   rw [rowsR_cells _ _ _ _ _ (Nat.le_refl _),Nat.sub_self,List.drop_zero] at hx2
   exact (hk.hL.2 _ hx2).2.1
  ·have:rowT.nth (rowsAll r il hid zl wl tab wd) i = rowT.dflt:=by
    simp only [Ty.nth,List.getD_eq_getElem?_getD]
    rw [List.getElem?_eq_none (by omega)];rfl
   rw [this]
   exact Nat.zero_le _
 ·have h1:=sumTo_nonI (rowsAll r il hid zl wl tab wd) i
  have h2:=h.nonI_le zl wl wd
  omega
theorem SmallD.view {s:Str} {il:List Inl} {fl:List Span} {tab wd:Int} (h:SmallD s il fl tab wd 120):SmallV (Cmp.dec s) (outI il) (hidL (outF fl)) tab:=by
 have hd:=Cmp.dec_le s
 have hlen:=h.len
 exact small_view (Cmp.dec s).length (Cmp.dec s) rfl (by omega) il fl tab h.t1 h.t2 h.il60 h.ei h.ef
def keysRn (x pa:Int):Nat→Nat→List Key
 | _,0=>[]
 | k,n + 1=>(x,atR x pa k) :: keysRn x pa (k + 1) n
def okK (x:Int):Prop:=x = 1∨x = 2∨x = 3
theorem isK_kind {c:Cell} (h:okK (kdC c)):isK c = true:=by
 unfold isK
 rcases h with h | h | h <;> simp [h]
theorem filt_four (n:Nat) (a:Int):(List.replicate n (C4 32 4 1 a)).filter isK = []:=by
 rw [List.filter_eq_nil_iff]
 intro c hc
 rw [List.mem_replicate] at hc
 rw [hc.2]
 have:isK (C4 32 4 1 a) = false:=rfl
 rw [this];simp
theorem cellR_keys (x pa:Int) (k:Nat) (z s:Int) (hx:okK x):((cellR x pa k z s).filter isK).map keyC = [(x,atR x pa k)]:=by
 unfold cellR
 split
 ·rw [List.filter_cons,if_pos (isK_kind (show okK (kdC (C4 z x 1 (atR x pa k))) from hx)),filt_four];rfl
 ·rw [List.filter_cons,if_pos (isK_kind (show okK (kdC (C4 z x s (atR x pa k))) from hx))];rfl
theorem cellsL_keys (x pa:Int) (hx:okK x):∀ (rs ss:List Int) (k:Nat),rs.length≤ss.length→((cellsL x pa k rs ss).filter isK).map keyC = keysRn x pa k rs.length
 | [],ss,k,_=>by simp [cellsL,keysRn]
 | z :: rs,[],k,h=>by simp at h
 | z :: rs,s :: ss,k,h=>by
  simp only [cellsL,List.filter_append,List.map_append,cellR_keys x pa k z s hx,List.length_cons]
  rw [cellsL_keys x pa hx rs ss (k + 1) (by simpa using h)]
  rfl
def keysP (p:Part):List Key:=keysRn p.1 p.2.1 0 (rnOf p).length
def PK (l:List Part):Prop:=∀ p ∈ l,okK (kdP p)
theorem cellsA_keys:∀ (l:List Part) (ss:List Int),PK l→(runesA l).length≤ss.length→((cellsA l ss).filter isK).map keyC = l.flatMap keysP
 | [],ss,_,_=>by simp [cellsA]
 | p :: l,ss,h,hs=>by
  have e:runesA (p :: l) = rnOf p ++ runesA l:=rfl
  rw [e,List.length_append] at hs
  simp only [cellsA,List.filter_append,List.map_append,List.flatMap_cons]
  rw [cellsL_keys p.1 p.2.1 (h p (by simp)) (rnOf p) ss 0 (by omega),cellsA_keys l _ (fun q hq=>h q (by simp [hq])) (by rw [List.length_drop];omega)]
  rfl
theorem cellsOf_keys (zl wl:List Rng) (tab:Int) (l:List Part) (h:PK l):((cellsOf zl wl tab l).filter isK).map keyC = l.flatMap keysP :=
 cellsA_keys l _ h (by rw [sizesL_len];exact Nat.le_refl _)
def nk (k:Key):Bool:=decide (¬ k.1 = 2)
theorem nv_of_k (l:List Cell):((l.filter nvC).map keyC) = ((l.filter isK).map keyC).filter nk:=by
 rw [List.filter_map,List.filter_filter]
 congr 1
 apply List.filter_congr
 intro c _
 show nvC c = (decide (¬ kdC c = 2) && isK c)
 unfold nvC isK
 generalize kdC c = x
 by_cases h1:x = 1
 ·subst h1;rfl
 ·by_cases h2:x = 2
  ·subst h2;rfl
  ·by_cases h3:x = 3
   ·subst h3;rfl
   ·simp [h1,h2,h3]
theorem keysLN_of (zl wl:List Rng) (tab:Int) (l:Line):keysLN zl wl tab l = (keysLK zl wl tab l).filter nk:=by
 unfold keysLN keysLK
 rw [List.filter_append,nv_of_k]
 congr 1
def vK (il:List Inl) (k:Nat):List Key:=((il.filter (inW (k:Int) (k:Int))).map (partI (k:Int))).flatMap keysP
def keysG (r:List Int) (il:List Inl) (hid:List Span):Nat→Nat→List Key
 | 0,k=>vK il k
 | f + 1,k =>
  if r.length≤k∨shB r hid (k:Int) = true then vK il k
  else if 0≤(hidAt hid (k:Int)).2 then vK il k ++ (3,(k:Int)) :: keysG r il hid f (hidAt hid (k:Int)).2.toNat
  else vK il k ++ (1,(k:Int)) :: keysG r il hid f (k + 1)
theorem keysRn_succ (x pa:Int):∀ n k,keysRn x pa k (n + 1) = keysRn x pa k n ++ [(x,atR x pa (k + n))]
 | 0,k=>rfl
 | n + 1,k=>by
  show (x,atR x pa k) :: keysRn x pa (k + 1) (n + 1) = (x,atR x pa k) :: keysRn x pa (k + 1) n ++ [(x,atR x pa (k + (n + 1)))]
  rw [keysRn_succ x pa n (k + 1),List.cons_append,show k + 1 + n = k + (n + 1) by omega]
theorem addP_keys (l:List Part) (z:Int) (k:Nat):(addP l z (k:Int)).flatMap keysP = l.flatMap keysP ++ [(1,(k:Int))]:=by
 rcases addP_cases l z (k:Int) with e | ⟨d,p,e1,e2,e3,e4⟩
 ·rw [e,List.flatMap_append]
  congr 1
 ·rw [e4,e1,List.flatMap_append,List.flatMap_append,List.append_assoc]
  congr 1
  show keysP (P3 1 p.2.1 (p.2.2.1 ++ [z])) ++ [] = keysP p ++ [] ++ [(1,(k:Int))]
  have r1:rnOf (P3 1 p.2.1 (p.2.2.1 ++ [z])) = p.2.2.1 ++ [z]:=rfl
  have r2:rnOf p = p.2.2.1:=by
   unfold rnOf
   exact if_neg (fun h=>absurd (e2.symm.trans h) (by decide))
  unfold keysP
  rw [r1,r2,List.length_append,List.length_singleton,List.append_nil,List.append_nil,keysRn_succ,e2]
  congr 2
  show ((1:Int),atR 1 p.2.1 (0 + p.2.2.1.length)) = (1,(k:Int))
  rw [← e3,Nat.zero_add]
  rfl
theorem withI_keys (il:List Inl) (k:Nat) (parts:List Part):(withI il k parts).flatMap keysP = parts.flatMap keysP ++ vK il k:=by
 unfold withI vK
 rw [List.flatMap_append]
theorem goA_keys (r:List Int) (il:List Inl) (hid:List Span):∀ (f k:Nat) (parts:List Part),(goA r il hid f k parts).1.flatMap keysP = parts.flatMap keysP ++ keysG r il hid f k
 | 0,k,parts=>withI_keys il k parts
 | f + 1,k,parts=>by
  unfold goA keysG
  split
  ·exact withI_keys il k parts
  ·split
   ·rw [goA_keys r il hid f,List.flatMap_append,withI_keys]
    have:[P3 3 (k:Int) []].flatMap keysP = [(3,(k:Int))]:=rfl
    rw [this];simp
   ·rw [goA_keys r il hid f,addP_keys,withI_keys];simp
theorem PK.ins {il:List Inl} {k:Nat} {parts:List Part} (h:PK parts):PK (withI il k parts):=by
 intro p hp
 unfold withI at hp
 rcases List.mem_append.1 hp with hp | hp
 ·exact h p hp
 ·obtain ⟨x,_,rfl⟩:=List.mem_map.1 hp
  exact .inr (.inl rfl)
theorem PK.add {parts:List Part} (h:PK parts) (z:Int) (k:Int):PK (addP parts z k):=by
 rcases addP_cases parts z k with e | ⟨d,p,e1,e2,e3,e4⟩
 ·rw [e]
  intro q hq
  rcases List.mem_append.1 hq with hq | hq
  ·exact h q hq
  ·rw [List.mem_singleton] at hq;rw [hq];exact .inl rfl
 ·rw [e4]
  intro q hq
  rcases List.mem_append.1 hq with hq | hq
  ·exact h q (by rw [e1];exact List.mem_append_left _ hq)
  ·rw [List.mem_singleton] at hq;rw [hq];exact .inl rfl
theorem goA_PK (r:List Int) (il:List Inl) (hid:List Span):∀ (f k:Nat) (parts:List Part),PK parts→PK (goA r il hid f k parts).1
 | 0,k,parts,h=>h.ins
 | f + 1,k,parts,h=>by
  unfold goA
  split
  ·exact h.ins
  ·split
   ·refine goA_PK r il hid f _ _ (fun p hp=>?_)
    rcases List.mem_append.1 hp with hp | hp
    ·exact h.ins p hp
    ·rw [List.mem_singleton] at hp;rw [hp];exact .inr (.inr rfl)
   ·exact goA_PK r il hid f _ _ (h.ins.add _ _)
theorem lineAt_keys (r:List Int) (il:List Inl) (hid:List Span) (zl wl:List Rng) (tab:Int) (fr:Nat):((cellsOf zl wl tab (lineAt r il hid fr).1).filter isK).map keyC = keysG r il hid r.length fr:=by
 unfold lineAt
 rw [cellsOf_keys zl wl tab _ (goA_PK r il hid r.length fr [] (fun p hp=>by cases hp))]
 exact goA_keys r il hid r.length fr []
def leK (a b:Key):Prop:=a.2 < b.2∨(a.2 = b.2∧a.1 = 2)
theorem keysRn_virt (pa:Int):∀ n k,∀ x ∈ keysRn 2 pa k n,x = (2,pa)
 | 0,k=>by simp [keysRn]
 | n + 1,k=>by
  intro x hx
  rcases List.mem_cons.1 hx with hx | hx
  ·rw [hx];rfl
  ·exact keysRn_virt pa n (k + 1) x hx
theorem vK_all (il:List Inl) (k:Nat):∀ x ∈ vK il k,x = (2,(k:Int)):=by
 intro x hx
 unfold vK at hx
 obtain ⟨p,hp,hx⟩:=List.mem_flatMap.1 hx
 obtain ⟨y,_,rfl⟩:=List.mem_map.1 hp
 exact keysRn_virt (k:Int) _ _ x hx
theorem pw_all {α:Type} (R:α→α→Prop) (l:List α) (h:∀ x ∈ l,∀ y ∈ l,R x y):l.Pairwise R:=by
 induction l with
 | nil=>exact List.Pairwise.nil
 | cons a l ih=>exact List.Pairwise.cons (fun b hb=>h a (by simp) b (by simp [hb])) (ih (fun x hx y hy=>h x (by simp [hx]) y (by simp [hy])))
theorem vK_pw (il:List Inl) (k:Nat):(vK il k).Pairwise leK:=pw_all _ _ (fun x hx y hy=>by rw [vK_all il k x hx,vK_all il k y hy];exact .inr ⟨rfl,rfl⟩)
def upK (x:Key) (to:Int):Prop:=x.2 < to∨(x.2 = to∧x.1 = 2)
theorem keysG_ok (r:List Int) (il:List Inl) (hid:List Span) (hok:HidOk r.length hid):∀ (f k:Nat) (parts:List Part),k≤r.length→(keysG r il hid f k).Pairwise leK∧∀ x ∈ keysG r il hid f k,(k:Int)≤x.2∧upK x ((goA r il hid f k parts).2:Int)
 | 0,k,parts,h=>⟨vK_pw il k,fun x hx=>by rw [vK_all il k x hx];exact ⟨Int.le_refl _,.inr ⟨rfl,rfl⟩⟩⟩
 | f + 1,k,parts,h=>by
  have hb:∀ (b:Nat) (kd:Int) (parts2:List Part),k < b→b≤r.length →
    (vK il k ++ (kd,(k:Int)) :: keysG r il hid f b).Pairwise leK∧∀ x ∈ vK il k ++ (kd,(k:Int)) :: keysG r il hid f b,(k:Int)≤x.2∧upK x ((goA r il hid f b parts2).2:Int):=by
   intro b kd parts2 hkb hbl
   obtain ⟨i1,i2⟩:=keysG_ok r il hid hok f b parts2 hbl
   have hg:=(goA_ge r il hid hok f b parts2 hbl).1
   refine ⟨List.pairwise_append.2 ⟨vK_pw il k,List.Pairwise.cons (fun y hy=>?_) i1,fun a ha c hc=>?_⟩,fun x hx=>?_⟩
   ·have:=(i2 y hy).1
    left
    show (k:Int) < y.2
    omega
   ·rw [vK_all il k a ha]
    rcases List.mem_cons.1 hc with hc | hc
    ·rw [hc];exact .inr ⟨rfl,rfl⟩
    ·have:=(i2 c hc).1
     left
     show (k:Int) < c.2
     omega
   ·rcases List.mem_append.1 hx with hx | hx
    ·rw [vK_all il k x hx]
     exact ⟨Int.le_refl _,.inl (by show (k:Int) < _;omega)⟩
    ·rcases List.mem_cons.1 hx with hx | hx
     ·rw [hx];exact ⟨Int.le_refl _,.inl (by show (k:Int) < _;omega)⟩
     ·have:=i2 x hx;exact ⟨by omega,this.2⟩
  unfold goA keysG
  split
  ·exact ⟨vK_pw il k,fun x hx=>by rw [vK_all il k x hx];exact ⟨Int.le_refl _,.inr ⟨rfl,rfl⟩⟩⟩
  ·rename_i h1
   split
   ·rename_i h2
    obtain ⟨h3,y,hy,h4,_⟩:=hidAt_gt h2 (by omega)
    have h5:(hidAt hid (k:Int)).2≤r.length:=by rw [h4];exact hok y hy
    exact hb _ 3 _ (by omega) (by omega)
   ·have h6:k < r.length:=by
     apply Classical.byContradiction
     intro h7;exact h1 (.inl (by omega))
    exact hb _ 1 _ (by omega) (by omega)
def keysLn (r:List Int) (il:List Inl) (hid:List Span) (fr:Nat):List Key:=keysG r il hid r.length fr ++ [(0,((lineAt r il hid fr).2:Int))]
theorem keysLn_ok (r:List Int) (il:List Inl) (hid:List Span) (hok:HidOk r.length hid) (fr:Nat) (h:fr≤r.length):(keysLn r il hid fr).Pairwise leK∧∀ x ∈ keysLn r il hid fr,(fr:Int)≤x.2∧x.2≤((lineAt r il hid fr).2:Int):=by
 obtain ⟨h1,h2⟩:=keysG_ok r il hid hok r.length fr [] h
 have hg:=(lineAt_ge r il hid hok fr h).1
 unfold lineAt at hg
 unfold keysLn lineAt
 refine ⟨List.pairwise_append.2 ⟨h1,List.pairwise_singleton _ _,fun a ha b hb=>?_⟩,fun x hx=>?_⟩
 ·rw [List.mem_singleton] at hb
  rw [hb]
  exact (h2 a ha).2
 ·rcases List.mem_append.1 hx with hx | hx
  ·have h3:=h2 x hx
   refine ⟨h3.1,?_⟩
   rcases h3.2 with h4 | h4 <;> omega
  ·rw [List.mem_singleton] at hx
   rw [hx]
   exact ⟨by show (fr:Int)≤_;omega,Int.le_refl _⟩
def keysAll (r:List Int) (il:List Inl) (hid:List Span):Nat→Nat→List Key
 | 0,fr=>keysLn r il hid fr
 | f + 1,fr=>keysLn r il hid fr ++ if (lineAt r il hid fr).2 < r.length then keysAll r il hid f ((lineAt r il hid fr).2 + 1) else []
theorem allG_keys (r:List Int) (il:List Inl) (hid:List Span) (zl wl:List Rng) (tab:Int):∀ f fr,(allG r il hid f fr).flatMap (keysLK zl wl tab) = keysAll r il hid f fr
 | 0,fr=>by
  show keysLK zl wl tab (L3 (lineAt r il hid fr).1 fr (lineAt r il hid fr).2) ++ [] = keysLn r il hid fr
  unfold keysLK keysLn
  rw [List.append_nil]
  show ((cellsOf zl wl tab (lineAt r il hid fr).1).filter isK).map keyC ++ [((0:Int),((lineAt r il hid fr).2:Int))] = _
  rw [lineAt_keys]
 | f + 1,fr=>by
  rw [allG_succ,List.flatMap_cons]
  unfold keysAll
  congr 1
  ·unfold keysLK keysLn
   show ((cellsOf zl wl tab (lineAt r il hid fr).1).filter isK).map keyC ++ [((0:Int),((lineAt r il hid fr).2:Int))] = _
   rw [lineAt_keys]
  ·split
   ·exact allG_keys r il hid zl wl tab f _
   ·rfl
theorem keysAll_ok (r:List Int) (il:List Inl) (hid:List Span) (hok:HidOk r.length hid):∀ f fr,fr≤r.length→(keysAll r il hid f fr).Pairwise leK∧∀ x ∈ keysAll r il hid f fr,(fr:Int)≤x.2
 | 0,fr,h=>by
  obtain ⟨h1,h2⟩:=keysLn_ok r il hid hok fr h
  exact ⟨h1,fun x hx=>(h2 x hx).1⟩
 | f + 1,fr,h=>by
  obtain ⟨h1,h2⟩:=keysLn_ok r il hid hok fr h
  have hg:=lineAt_ge r il hid hok fr h
  unfold keysAll
  split
  ·rename_i h3
   obtain ⟨i1,i2⟩:=keysAll_ok r il hid hok f ((lineAt r il hid fr).2 + 1) (by omega)
   refine ⟨List.pairwise_append.2 ⟨h1,i1,fun a ha b hb=>?_⟩,fun x hx=>?_⟩
   ·have:=(h2 a ha).2
    have:=i2 b hb
    left
    omega
   ·rcases List.mem_append.1 hx with hx | hx
    ·exact (h2 x hx).1
    ·have:=i2 x hx;omega
  ·rw [List.append_nil]
   exact ⟨h1,fun x hx=>(h2 x hx).1⟩
def nxP (hid:List Span) (k:Nat):Nat:=if 0≤(hidAt hid (k:Int)).2 then (hidAt hid (k:Int)).2.toNat else k + 1
theorem nxP_gt (hid:List Span) (k:Nat):k < nxP hid k:=by
 unfold nxP
 split
 ·rename_i h
  have:=(hidAt_gt h (by omega)).1
  omega
 ·omega
theorem nxP_le {n:Nat} {hid:List Span} (hok:HidOk n hid) {k:Nat} (h:k < n):nxP hid k≤n:=by
 unfold nxP
 split
 ·rename_i h2
  obtain ⟨h3,y,hy,h4,_⟩:=hidAt_gt h2 (by omega)
  have h5:(hidAt hid (k:Int)).2≤n:=by rw [h4];exact hok y hy
  omega
 ·omega
def visA (n:Nat) (hid:List Span):Nat→Nat→List Int
 | 0,k=>[(k:Int)]
 | f + 1,k=>(k:Int) :: if k < n then visA n hid f (nxP hid k) else []
theorem visA_fuel (n:Nat) (hid:List Span):∀ f g k,n - k≤f→n - k≤g→visA n hid f k = visA n hid g k
 | 0,0,k,_,_=>rfl
 | 0,g + 1,k,h,_=>by show _ = (k:Int) :: _;rw [if_neg (by omega)];rfl
 | f + 1,0,k,_,h=>by show (k:Int) :: _ = _;rw [if_neg (by omega)];rfl
 | f + 1,g + 1,k,h1,h2=>by
  have:=nxP_gt hid k
  show (k:Int) :: _ = (k:Int) :: _
  rw [visA_fuel n hid f g (nxP hid k) (by omega) (by omega)]
theorem shB_no {r:List Int} {hid:List Span} {k:Nat} (h:shB r hid (k:Int) = true):k < r.length∧¬ 0≤(hidAt hid (k:Int)).2:=by
 unfold shB at h
 simp only [Bool.and_eq_true,decide_eq_true_eq] at h
 exact ⟨by omega,by omega⟩
theorem vK_nk (il:List Inl) (k:Nat):(vK il k).filter nk = []:=by
 rw [List.filter_eq_nil_iff]
 intro x hx
 rw [vK_all il k x hx]
 have:nk ((2:Int),(k:Int)) = false:=rfl
 rw [this];simp
def placesK (l:List Key):List Int:=(l.filter nk).map (fun x=>x.2)
theorem placesK_app (a b:List Key):placesK (a ++ b) = placesK a ++ placesK b:=by unfold placesK;rw [List.filter_append,List.map_append]
theorem placesK_v (il:List Inl) (k:Nat):placesK (vK il k) = []:=by unfold placesK;rw [vK_nk];rfl
def behind (n:Nat) (hid:List Span) (to:Nat):List Int:=if to < n then visA n hid (n - (to + 1)) (to + 1) else []
theorem keysG_vis (r:List Int) (il:List Inl) (hid:List Span) (hok:HidOk r.length hid):∀ (f k:Nat) (parts:List Part),r.length - k≤f→k≤r.length →
  visA r.length hid (r.length - k) k = placesK (keysG r il hid f k) ++ ((goA r il hid f k parts).2:Int) :: behind r.length hid (goA r il hid f k parts).2
 | 0,k,parts,h1,h2=>by
  obtain rfl:k = r.length:=by omega
  show visA r.length hid (r.length - r.length) r.length = placesK (vK il r.length) ++ (r.length:Int) :: behind r.length hid r.length
  rw [placesK_v]
  unfold behind
  rw [if_neg (by omega),Nat.sub_self];rfl
 | f + 1,k,parts,h1,h2=>by
  unfold keysG goA
  split
  ·rename_i h3
   rw [placesK_v]
   show visA r.length hid (r.length - k) k = (k:Int) :: behind r.length hid k
   unfold behind
   by_cases h4:k < r.length
   ·rw [if_pos h4]
    have h5:shB r hid (k:Int) = true:=by rcases h3 with h3 | h3;omega;exact h3
    have h6:=(shB_no h5).2
    obtain ⟨g,hg⟩:∃ g,r.length - k = g + 1:=⟨r.length - k - 1,by omega⟩
    rw [hg]
    show (k:Int) :: (if k < r.length then visA r.length hid g (nxP hid k) else []) = _
    have h7:nxP hid k = k + 1:=by unfold nxP;rw [if_neg h6]
    rw [if_pos h4,h7,show g = r.length - (k + 1) by omega]
   ·rw [if_neg h4,show r.length - k = 0 by omega];rfl
  ·rename_i h3
   have h4:k < r.length:=by
    apply Classical.byContradiction
    intro h7;exact h3 (.inl (by omega))
   have hn:=nxP_le hok h4
   have hg:=nxP_gt hid k
   have e:visA r.length hid (r.length - k) k = (k:Int) :: visA r.length hid (r.length - nxP hid k) (nxP hid k):=by
    obtain ⟨g,hg2⟩:∃ g,r.length - k = g + 1:=⟨r.length - k - 1,by omega⟩
    rw [hg2]
    show (k:Int) :: (if k < r.length then visA r.length hid g (nxP hid k) else []) = _
    rw [if_pos h4,visA_fuel r.length hid g (r.length - nxP hid k) (nxP hid k) (by omega) (by omega)]
   rw [e]
   split
   ·rename_i h5
    have h7:nxP hid k = (hidAt hid (k:Int)).2.toNat:=by unfold nxP;rw [if_pos h5]
    rw [h7] at hn hg ⊢
    rw [keysG_vis r il hid hok f _ (withI il k parts ++ [P3 3 (k:Int) []]) (by omega) hn,placesK_app,placesK_v]
    rfl
   ·rename_i h5
    have h7:nxP hid k = k + 1:=by unfold nxP;rw [if_neg h5]
    rw [h7] at hn hg ⊢
    rw [keysG_vis r il hid hok f _ (addP (withI il k parts) (i32T.nth r k) (k:Int)) (by omega) hn,placesK_app,placesK_v]
    rfl
theorem keysAll_vis (r:List Int) (il:List Inl) (hid:List Span) (hok:HidOk r.length hid):∀ f fr,r.length - fr≤f→fr≤r.length→placesK (keysAll r il hid f fr) = visA r.length hid (r.length - fr) fr
 | 0,fr,h1,h2=>by
  have hg:=lineAt_ge r il hid hok fr h2
  have e:=keysG_vis r il hid hok r.length fr [] (by omega) h2
  unfold keysAll keysLn
  rw [placesK_app,e]
  congr 1
  show [((lineAt r il hid fr).2:Int)] = ((lineAt r il hid fr).2:Int) :: behind r.length hid (lineAt r il hid fr).2
  unfold behind
  rw [if_neg (by omega)]
 | f + 1,fr,h1,h2=>by
  have hg:=lineAt_ge r il hid hok fr h2
  have e:=keysG_vis r il hid hok r.length fr [] (by omega) h2
  unfold keysAll keysLn
  rw [placesK_app,placesK_app,e,List.append_assoc]
  congr 1
  show [((lineAt r il hid fr).2:Int)] ++ _ = ((lineAt r il hid fr).2:Int) :: behind r.length hid (lineAt r il hid fr).2
  unfold behind
  rw [List.singleton_append]
  congr 1
  split
  ·exact keysAll_vis r il hid hok f _ (by omega) (by omega)
  ·rfl
def visD (n:Nat) (hid:List Span):List Int:=visA n hid n 0
theorem visA_ge (n:Nat) (hid:List Span):∀ f k,∀ x ∈ visA n hid f k,(k:Int)≤x
 | 0,k=>by intro x hx;rw [show visA n hid 0 k = [(k:Int)] from rfl,List.mem_singleton] at hx;omega
 | f + 1,k=>by
  intro x hx
  rcases List.mem_cons.1 hx with hx | hx
  ·omega
  ·split at hx
   ·have:=visA_ge n hid f _ x hx
    have:=nxP_gt hid k
    omega
   ·cases hx
theorem visA_inc (n:Nat) (hid:List Span):∀ f k,(visA n hid f k).Pairwise (fun a b=>a < b)
 | 0,k=>List.pairwise_singleton _ _
 | f + 1,k=>by
  refine List.Pairwise.cons (fun y hy=>?_) ?_
  ·split at hy
   ·have:=visA_ge n hid f _ y hy
    have:=nxP_gt hid k
    omega
   ·cases hy
  ·split
   ·exact visA_inc n hid f _
   ·exact List.Pairwise.nil
def frS (y:Span):Int:=y.1
def Vis (hid:List Span) (a:Int):Prop:=∀ y ∈ hid,¬ (frS y < a∧a < toS y)
structure HidD (n:Nat) (hid:List Span):Prop where
 ok:HidOk n hid
 pos:∀ y ∈ hid,(0:Int)≤frS y∧frS y < toS y
 ord:hid.Pairwise (fun x y=>toS x≤frS y)
theorem HidD.uniq {n:Nat} {hid:List Span} (h:HidD n hid) {x y:Span} (hx:x ∈ hid) (hy:y ∈ hid) {a:Int} (h1:frS x≤a) (h2:a < toS x) (h3:frS y≤a) (h4:a < toS y):x = y:=by
 obtain ⟨i,hi,rfl⟩:=List.mem_iff_getElem.1 hx
 obtain ⟨j,hj,rfl⟩:=List.mem_iff_getElem.1 hy
 have ho:=List.pairwise_iff_getElem.1 h.ord
 rcases Nat.lt_trichotomy i j with hij | hij | hij
 ·have h5:toS hid[i] ≤ frS hid[j]:=ho i j hi hj hij
  have:toS hid[i] ≤ a:=Int.le_trans h5 h3
  exact absurd h2 (by omega)
 ·subst hij;rfl
 ·have h5:toS hid[j] ≤ frS hid[i]:=ho j i hj hi hij
  have:toS hid[j] ≤ a:=Int.le_trans h5 h1
  exact absurd h4 (by omega)
theorem inS_iff (a:Int) (y:Span):inS a y = true ↔ frS y≤a∧a < toS y:=by
 unfold inS
 rw [Bool.and_eq_true,decide_eq_true_eq,decide_eq_true_eq]
 exact Iff.rfl
theorem hidAt_in {n:Nat} {hid:List Span} (h:HidD n hid) {y:Span} (hy:y ∈ hid) {a:Int} (h1:frS y≤a) (h2:a < toS y):hidAt hid a = (frS y,toS y):=by
 unfold hidAt
 cases e:hid.find? (inS a) with
 | none =>
  rw [List.find?_eq_none] at e
  exact absurd ((inS_iff a y).2 ⟨h1,h2⟩) (e y hy)
 | some z =>
  have h3:=(inS_iff a z).1 (List.find?_some e)
  have h4:=List.mem_of_find?_eq_some e
  rw [h.uniq hy h4 h1 h2 h3.1 h3.2];rfl
theorem Vis.next {n:Nat} {hid:List Span} (h:HidD n hid) {k:Nat} (hk:Vis hid (k:Int)):Vis hid (nxP hid k:Int):=by
 intro y hy ⟨h1,h2⟩
 have hp:=h.pos y hy
 unfold nxP at h1 h2
 split at h1
 ·rename_i h3
  rw [if_pos h3] at h2
  obtain ⟨h4,z,hz,h5,h6⟩:=hidAt_gt h3 (by omega)
  have h7:=(inS_iff _ _).1 h6
  have h8:(hidAt hid (k:Int)).2 = toS z:=by rw [h5];rfl
  have h9:(((hidAt hid (k:Int)).2.toNat:Nat):Int) = toS z:=by rw [← h8];omega
  rw [h9] at h1 h2
  have ho:=List.pairwise_iff_getElem.1 h.ord
  obtain ⟨i,hi,rfl⟩:=List.mem_iff_getElem.1 hy
  obtain ⟨j,hj,rfl⟩:=List.mem_iff_getElem.1 hz
  have hz2:=h.pos _ (List.getElem_mem hj)
  rcases Nat.lt_trichotomy i j with hij | hij | hij
  ·have h10:toS hid[i] ≤ frS hid[j]:=ho i j hi hj hij
   omega
  ·subst hij;omega
  ·have h10:toS hid[j] ≤ frS hid[i]:=ho j i hj hi hij
   omega
 ·rename_i h3
  rw [if_neg h3] at h2
  have h4:=hidAt_in h hy (a:=(k:Int)) (by omega) (by omega)
  rw [h4] at h3
  exact h3 (by show (0:Int)≤toS y;omega)
theorem visA_want {n:Nat} {hid:List Span} (h:HidD n hid):∀ f (k:Nat),n - k≤f→k≤n→Vis hid (k:Int)→∀ a:Int,(k:Int)≤a→a≤n →
  ∃ v ∈ visA n hid f k,v≤a∧(∀ w ∈ visA n hid f k,w≤a→w≤v)∧Vis hid v∧(v = a∨∃ y ∈ hid,frS y = v∧v < a∧a < toS y)
 | 0,k,h1,h2,hv,a,h3,h4=>by
  refine ⟨(k:Int),by rw [show visA n hid 0 k = [(k:Int)] from rfl];simp,h3,fun w hw _=>?_,hv,.inl (by omega)⟩
  rw [show visA n hid 0 k = [(k:Int)] from rfl,List.mem_singleton] at hw
  omega
 | f + 1,k,h1,h2,hv,a,h3,h4=>by
  by_cases hk:k < n
  ·by_cases ha:a < nxP hid k
   ·refine ⟨(k:Int),List.mem_cons_self,h3,fun w hw hwa=>?_,hv,?_⟩
    ·rcases List.mem_cons.1 hw with hw | hw
     ·omega
     ·rw [if_pos hk] at hw
      have:=visA_ge n hid f _ w hw
      omega
    ·by_cases e:(k:Int) = a
     ·exact .inl e
     ·right
      unfold nxP at ha
      split at ha
      ·rename_i h5
       obtain ⟨h6,z,hz,h7,h8⟩:=hidAt_gt h5 (by omega)
       have h9:=(inS_iff _ _).1 h8
       have h10:(hidAt hid (k:Int)).2 = toS z:=by rw [h7];rfl
       have h11:(((hidAt hid (k:Int)).2.toNat:Nat):Int) = toS z:=by rw [← h10];omega
       have h12:=hv z hz
       refine ⟨z,hz,by omega,by omega,by omega⟩
      ·omega
   ·have hn:=nxP_le h.ok hk
    have hg:=nxP_gt hid k
    obtain ⟨v,hv1,hv2,hv3,hv4,hv5⟩:=visA_want h f (nxP hid k) (by omega) hn (hv.next h) a (by omega) h4
    refine ⟨v,List.mem_cons_of_mem _ (by rw [if_pos hk];exact hv1),hv2,fun w hw hwa=>?_,hv4,hv5⟩
    rcases List.mem_cons.1 hw with hw | hw
    ·have:=visA_ge n hid f _ v hv1
     omega
    ·rw [if_pos hk] at hw
     exact hv3 w hw hwa
  ·refine ⟨(k:Int),List.mem_cons_self,h3,fun w hw _=>?_,hv,.inl (by omega)⟩
   rcases List.mem_cons.1 hw with hw | hw
   ·omega
   ·rw [if_neg hk] at hw;cases hw
theorem visD_want {n:Nat} {hid:List Span} (h:HidD n hid) (a:Int) (h0:0≤a) (h1:a≤n) :
  ∃ v ∈ visD n hid,v≤a∧(∀ w ∈ visD n hid,w≤a→w≤v)∧Vis hid v∧(v = a∨∃ y ∈ hid,frS y = v∧v < a∧a < toS y) :=
 visA_want h n 0 (by omega) (by omega) (fun y hy h2=>by have:=h.pos y hy;omega) a (by omega) h1
def leF (x y:Span):Prop:=frS x≤frS y
theorem ltS_yes {x y:Span} (h:ltS x.1 x.2.1 y = true):frS x≤frS y:=by
 unfold ltS at h
 have h2:frS x < frS y∨frS x = frS y∧toS x < toS y:=by
  have:(decide (frS x < frS y) || (decide (frS x = frS y) && decide (toS x < toS y))) = true:=h
  simpa using this
 omega
theorem ltS_no {x y:Span} (h:¬ ltS x.1 x.2.1 y = true):frS y≤frS x:=by
 unfold ltS at h
 have h2:¬ (frS x < frS y∨frS x = frS y∧toS x < toS y):=by
  intro h3
  apply h
  show (decide (frS x < frS y) || (decide (frS x = frS y) && decide (toS x < toS y))) = true
  simpa using h3
 omega
theorem insF_pw (x:Span):∀ l:List Span,l.Pairwise leF→(insB (ltS x.1 x.2.1) x l).Pairwise leF
 | [],_=>List.pairwise_singleton _ _
 | y :: l,h=>by
  obtain ⟨h1,h2⟩:=List.pairwise_cons.1 h
  unfold insB
  split
  ·rename_i q
   have:=ltS_yes q
   refine List.Pairwise.cons (fun z hz=>?_) h
   show frS x≤frS z
   rcases List.mem_cons.1 hz with hz | hz
   ·rw [hz];exact this
   ·have h3:frS y≤frS z:=h1 z hz
    omega
  ·rename_i q
   have:=ltS_no q
   refine List.Pairwise.cons (fun z hz=>?_) (insF_pw x l h2)
   rcases mem_insB _ _ _ z hz with hz | hz
   ·rw [hz];exact this
   ·exact h1 z hz
theorem foldF_pw:∀ (l out:List Span),out.Pairwise leF→(l.foldl putF out).Pairwise leF
 | [],out,h=>h
 | x :: l,out,h=>foldF_pw l _ (insF_pw x out h)
theorem hidR_ord:∀ (f:Nat) (l:List Span),l.length≤f→l.Pairwise leF→(∀ y ∈ l,0≤frS y∧frS y < toS y) →
  (hidR f l).Pairwise (fun x y=>toS x≤frS y)∧(∀ y ∈ hidR f l,0≤frS y∧frS y < toS y)∧∀ lo:Int,(∀ y ∈ l,lo≤frS y)→∀ y ∈ hidR f l,lo≤frS y
 | f,[],_,_,hp=>by
  have e:hidR f ([]:List Span) = []:=hidR_small f [] (by simp)
  rw [e]
  exact ⟨List.Pairwise.nil,hp,fun lo h=>h⟩
 | f,[x],_,_,hp=>by
  have e:hidR f [x] = [x]:=hidR_small f [x] (by simp)
  rw [e]
  exact ⟨List.pairwise_singleton _ _,hp,fun lo h=>h⟩
 | 0,x :: y :: r,hf,_,_=>by simp at hf
 | f + 1,x :: y :: r,hf,hs,hp=>by
  rw [hidR_two]
  obtain ⟨s1,s2⟩:=List.pairwise_cons.1 hs
  obtain ⟨s3,s4⟩:=List.pairwise_cons.1 s2
  have hx:=hp x (by simp)
  have hy:=hp y (by simp)
  have hxy:frS x≤frS y:=s1 y (by simp)
  split
  ·have e1:frS (S2 x.1 (mxI x.2.1 y.2.1)) = frS x:=rfl
   have e2:toS (S2 x.1 (mxI x.2.1 y.2.1)) = mxI (toS x) (toS y):=rfl
   have hm:toS x≤mxI (toS x) (toS y):=by unfold mxI;split <;> omega
   obtain ⟨i1,i2,i3⟩:=hidR_ord f (S2 x.1 (mxI x.2.1 y.2.1) :: r) (by simp at hf ⊢;omega) (List.Pairwise.cons (fun z hz=>by
    show frS (S2 x.1 (mxI x.2.1 y.2.1))≤frS z
    rw [e1]
    exact s1 z (by simp [hz])) s4) (fun z hz=>by
    rcases List.mem_cons.1 hz with hz | hz
    ·rw [hz,e1,e2];omega
    ·exact hp z (by simp [hz]))
   refine ⟨i1,i2,fun lo h=>i3 lo (fun z hz=>?_)⟩
   rcases List.mem_cons.1 hz with hz | hz
   ·rw [hz,e1];exact h x (by simp)
   ·exact h z (by simp [hz])
  ·rename_i q
   have q2:toS x≤frS y:=by
    apply Classical.byContradiction
    intro q3
    apply q
    show (decide (frS x < toS y) && decide (frS y < toS x)) = true
    rw [Bool.and_eq_true,decide_eq_true_eq,decide_eq_true_eq]
    omega
   obtain ⟨i1,i2,i3⟩:=hidR_ord f (y :: r) (by simp at hf ⊢;omega) s2 (fun z hz=>hp z (by simp [hz]))
   refine ⟨List.Pairwise.cons (fun z hz=>?_) i1,fun z hz=>?_,fun lo h z hz=>?_⟩
   ·refine i3 (toS x) (fun w hw=>?_) z hz
    rcases List.mem_cons.1 hw with hw | hw
    ·rw [hw];exact q2
    ·have:frS y≤frS w:=s3 w hw
     omega
   ·rcases List.mem_cons.1 hz with hz | hz
    ·rw [hz];exact hx
    ·exact i2 z hz
   ·rcases List.mem_cons.1 hz with hz | hz
    ·rw [hz];exact h x (by simp)
    ·exact i3 lo (fun w hw=>h w (by simp [hw])) z hz
theorem folds_D (n:Nat) (fl:List Span) (h:errF n fl = 0):HidD n (hidL (outF fl)):=by
 have h1:∀ y ∈ fl,0≤frS y∧frS y < toS y:=by
  intro y hy
  obtain ⟨k,hk,rfl⟩:=List.mem_iff_getElem.1 hy
  have h2:=firstErr_zero h k hk
  unfold wrF at h2
  rw [nth_get (e:=spanT) hk] at h2
  simp only at h2
  split at h2
  ·cases h2
  ·rename_i h3
   have h4:¬ (frS fl[k] < 0∨frS fl[k] ≥ toS fl[k] ∨ toS fl[k] > n):=h3
   omega
 obtain ⟨i1,i2,_⟩:=hidR_ord (outF fl).length (outF fl) (Nat.le_refl _) (foldF_pw fl [] List.Pairwise.nil) (fun y hy=>by
  rcases mem_foldF fl [] y hy with h | h
  ·cases h
  ·exact h1 y h)
 exact ⟨folds_ok n fl h,i2,i1⟩
structure DocM (n:Nat) (hid:List Span) (l:List Mark):Prop where
 hidD:HidD n hid
 ord:(l.map keyM).Pairwise leK
 vis:(l.filter nvM).map aOfM = visD n hid
 inc:l.Pairwise ptLt
theorem SmallD.docM {s:Str} {il:List Inl} {fl:List Span} {tab wd:Int} (h:SmallD s il fl tab wd 120):DocM (Cmp.dec s).length (hidL (outF fl)) (Points.allMarks (docRows s il fl tab wd)):=by
 have hD:=folds_D _ fl h.ef
 obtain ⟨h1,h2⟩:=rows_keys (Cmp.dec s) (outI il) (hidL (outF fl)) zP wP tab wd
 have hk:(allL (Cmp.dec s) (outI il) (hidL (outF fl))).flatMap (keysLK zP wP tab) = keysAll (Cmp.dec s) (outI il) (hidL (outF fl)) (Cmp.dec s).length 0:=allG_keys _ _ _ _ _ _ _ _
 have hn:(allL (Cmp.dec s) (outI il) (hidL (outF fl))).flatMap (keysLN zP wP tab) = (keysAll (Cmp.dec s) (outI il) (hidL (outF fl)) (Cmp.dec s).length 0).filter nk:=by
  rw [← hk,List.filter_flatMap]
  congr 1
  funext l
  exact keysLN_of zP wP tab l
 refine ⟨hD,?_,?_,marks_inc _⟩
 ·rw [hk] at h1
  exact (keysAll_ok (Cmp.dec s) (outI il) (hidL (outF fl)) hD.ok (Cmp.dec s).length 0 (Nat.zero_le _)).1.sublist h1
 ·have h3:((Points.allMarks (docRows s il fl tab wd)).filter nvM).map aOfM = ((((Points.allMarks (docRows s il fl tab wd)).filter nvM).map keyM).map (fun x=>x.2)):=by
   rw [List.map_map];rfl
  rw [h3]
  show (((Points.allMarks (rowsAll (Cmp.dec s) (outI il) (hidL (outF fl)) zP wP tab wd)).filter nvM).map keyM).map (fun x=>x.2) = _
  rw [h2,hn]
  exact keysAll_vis (Cmp.dec s) (outI il) (hidL (outF fl)) hD.ok (Cmp.dec s).length 0 (by omega) (Nat.zero_le _)
theorem last_max (F:List Mark) (hF:F.Pairwise (fun a b=>aOfM a < aOfM b)) {o:Mark} (ho:F.getLast? = some o):∀ m ∈ F,aOfM m < aOfM o∨m = o:=by
 obtain ⟨pre,rfl⟩:=List.getLast?_eq_some_iff.1 ho
 intro m hm
 rw [List.pairwise_append] at hF
 rcases List.mem_append.1 hm with hm | hm
 ·exact .inl (hF.2.2 m hm o (by simp))
 ·rw [List.mem_singleton] at hm;exact .inr hm
theorem filter_nvLe (at_:Int) (l:List Mark):l.filter (nvLe at_) = (l.filter nvM).filter (fun m=>decide (aOfM m≤at_)):=by
 rw [List.filter_filter]
 congr 1
 funext m
 unfold nvLe nvM
 exact Bool.and_comm _ _
theorem DocM.org {n:Nat} {hid:List Span} {l:List Mark} (h:DocM n hid l) (a:Int) (h0:0≤a) (h1:a≤n) :
  ∃ o,orgM a l = some o∧aOfM o≤a∧Vis hid (aOfM o)∧(aOfM o = a∨∃ y ∈ hid,frS y = aOfM o∧aOfM o < a∧a < toS y):=by
 obtain ⟨v,hv1,hv2,hv3,hv4,hv5⟩:=visD_want h.hidD a h0 h1
 have hinc:(l.filter nvM).Pairwise (fun a b=>aOfM a < aOfM b):=by
  have:=visA_inc n hid n 0
  rw [show visA n hid n 0 = visD n hid from rfl,← h.vis,List.pairwise_map] at this
  exact this
 rw [← h.vis] at hv1
 obtain ⟨m,hm,e⟩:=List.mem_map.1 hv1
 have hm2:=List.mem_filter.1 hm
 have hnv:nvLe a m = true:=by
  have h3:=hm2.2
  unfold nvM at h3
  unfold nvLe
  rw [h3,Bool.true_and,decide_eq_true_eq,e];exact hv2
 obtain ⟨o,ho⟩:=org_some hm2.1 hnv
 obtain ⟨o1,o2,o3⟩:=org_mem ho
 have hoN:o ∈ l.filter nvM:=List.mem_filter.2 ⟨o1,by unfold nvM;rw [decide_eq_true_eq];exact o2⟩
 have h4:aOfM o≤v:=hv3 _ (by rw [← h.vis];exact List.mem_map_of_mem hoN) o3
 have h5:v≤aOfM o:=by
  unfold orgM at ho
  rw [filter_nvLe] at ho
  rcases last_max _ (hinc.sublist List.filter_sublist) ho m (List.mem_filter.2 ⟨hm,by rw [decide_eq_true_eq,e];exact hv2⟩) with h6 | h6
  ·omega
  ·rw [← h6,e];exact Int.le_refl _
 have h6:aOfM o = v:=by omega
 refine ⟨o,ho,?_⟩
 rw [h6]
 exact ⟨hv2,hv4,hv5⟩
theorem docRows_last {s:Str} {il:List Inl} {fl:List Span} {tab wd:Int} (h:SmallD s il fl tab wd 120):0 < (docRows s il fl tab wd).length∧endOfR (docRows s il fl tab wd) = ((Cmp.dec s).length:Int):=by
 have hv:=h.view
 obtain ⟨pre,x,e,hx⟩:=rowsAll_last (Cmp.dec s) (outI il) (hidL (outF fl)) hv.ok zP wP tab wd
 have e2:docRows s il fl tab wd = pre ++ [x]:=e
 rw [e2]
 refine ⟨by simp,?_⟩
 unfold endOfR
 rw [List.length_append,List.length_singleton,Nat.add_sub_cancel]
 have:=nth_pre_append (e:=rowT) pre [x] 0
 rw [Nat.add_zero] at this
 rw [this]
 exact hx
theorem SmallD.rows {s:Str} {il:List Inl} {fl:List Span} {tab wd:Int} (h:SmallD s il fl tab wd 120):Points.smallR (docRows s il fl tab wd)∧(Points.allMarks (docRows s il fl tab wd)).length≤100000000:=by
 have h1:=h.view.smallR zP wP wd
 have h2:=Points.allMarks_len h1
 exact ⟨h1,by show (Points.allMarks (rowsAll (Cmp.dec s) (outI il) (hidL (outF fl)) zP wP tab wd)).length≤100000000;omega⟩
abbrev FOv:Nat := 31
abbrev setO (n:Int) (l:List Span) (w:Int):Ob:=.cells [.d (.int .i64 n),.d (spanT.slD l),.d (.int .i64 w)]
abbrev stOv (n:Int) (l:List Span) (w at_:Int) (hid:List Span) (k:Int):St:=⟨[(1,.d (.int .i64 at_)),(4,.obj 1 0),(8,.d (spanT.slD hid)),(9,.d (.int .i64 (hid.length:Int))),(10,.d (.int .i64 k))],[setO n l w,spO 0 0],[]⟩
abbrev stOvx (n:Int) (l:List Span) (w at_:Int) (hid:List Span) (k:Int):St:=⟨[(1,.d (.int .i64 at_)),(4,.obj 1 0),(8,.d (spanT.slD hid)),(9,.d (.int .i64 (hid.length:Int))),(10,.d (.int .i64 k)),(11,.d (.bool false))],[setO n l w,spO 0 0],[]⟩
abbrev stOvr (n:Int) (l:List Span) (w a b:Int):St:=⟨[(4,.obj 1 0)],[setO n l w,spO a b,spO a b],[]⟩
theorem oqA (n:Int) (l:List Span) (w at_:Int) (hid:List Span) (k:Nat) (hl:hid.length≤1000) (hk:k < hid.length) (a b:Int) (e:spanT.nth hid k = S2 a b) (q:¬ at_ > a):RdC XR 0 (ntOf XR FOv) (lpKeep XR FOv 0) (lpBody XR FOv 0) 2 (stOv n l w at_ hid k) (stOv n l w at_ hid ((k:Int) + 1)):=by
 have hx0:(decide ((↑k:Int) < (↑hid.length:Int))) = true:=decide_eq_true (by omega)
 have hx1:(decide (at_ > a)) = false:=decide_eq_false (by omega)
 exact (pC (st':={ s:=[(1,(zv at_)),(4,(zo 1 0)),(8,(zs spanT hid)),(9,(zv (↑hid.length:Int))),(10,(zv (zw ((↑k:Int) + (1:Int)))))],h:=[(zc [(zv n),(zs spanT l),(zv w)]),(zc [(zv 0),(zv 0)])],og:=[] }) 12 [(1,bt),(2,.v (V.d (D.ref (List.flatMap (Ty.enc spanT) hid) (k * 2)))),(3,.v (V.d (D.agg [(zi a),(zi b)]))),(6,bf),(7,bf),(8,bf),(9,bf),(10,bf)] (cP hx1 (cP hx1 (cP hx1 (cP hx1 (cP hx1 (cP (@loadSpanE (hid) ([(zc [(zv n),(zs spanT l),(zv w)]),(zc [(zv 0),(zv 0)])]) (k) hk (a) (b) e) (cP (@iaddrSpanN (hid) (k) hk) (cP hx0 nilE)))))))) (by kernel_rfl)).to (by simp (disch:=omega) [wrapId, *])
theorem oqB (n:Int) (l:List Span) (w at_:Int) (hid:List Span) (k:Nat) (hl:hid.length≤1000) (hk:k < hid.length) (a b:Int) (e:spanT.nth hid k = S2 a b) (q:at_ > a) (q2:¬ at_ < b):RdC XR 0 (ntOf XR FOv) (lpKeep XR FOv 0) (lpBody XR FOv 0) 2 (stOv n l w at_ hid k) (stOv n l w at_ hid ((k:Int) + 1)):=by
 have hx0:(decide ((↑k:Int) < (↑hid.length:Int))) = true:=decide_eq_true (by omega)
 have hx1:(decide (at_ > a)) = true:=decide_eq_true (by omega)
 have hx2:(decide (at_ < b)) = false:=decide_eq_false (by omega)
 exact (pC (st':={ s:=[(1,(zv at_)),(4,(zo 1 0)),(8,(zs spanT hid)),(9,(zv (↑hid.length:Int))),(10,(zv (zw ((↑k:Int) + (1:Int)))))],h:=[(zc [(zv n),(zs spanT l),(zv w)]),(zc [(zv 0),(zv 0)])],og:=[] }) 12 [(1,bt),(2,.v (V.d (D.ref (List.flatMap (Ty.enc spanT) hid) (k * 2)))),(3,.v (V.d (D.agg [(zi a),(zi b)]))),(6,bt),(7,bt),(8,bt),(10,bt),(12,bt),(13,bf)] (cP hx2 (cP hx1 (cP hx1 (cP hx1 (cP hx1 (cP hx1 (cP (@loadSpanE (hid) ([(zc [(zv n),(zs spanT l),(zv w)]),(zc [(zv 0),(zv 0)])]) (k) hk (a) (b) e) (cP (@iaddrSpanN (hid) (k) hk) (cP hx0 nilE))))))))) (by kernel_rfl)).to (by simp (disch:=omega) [wrapId, *])
theorem oqR (n:Int) (l:List Span) (w at_:Int) (hid:List Span) (k:Nat) (hl:hid.length≤1000) (hk:k < hid.length) (a b:Int) (e:spanT.nth hid k = S2 a b) (q:at_ > a) (q2:at_ < b):Rd XR 0 (ntOf XR FOv) (lpBody XR FOv 0) (stOv n l w at_ hid k) (.ret,stOvr n l w a b):=by
 have hx0:(decide ((↑k:Int) < (↑hid.length:Int))) = true:=decide_eq_true (by omega)
 have hx1:(decide (at_ > a)) = true:=decide_eq_true (by omega)
 have hx2:(decide (at_ < b)) = true:=decide_eq_true (by omega)
 exact pR 12 [(1,bt),(2,.v (V.d (D.ref (List.flatMap (Ty.enc spanT) hid) (k * 2)))),(3,.v (V.d (D.agg [(zi a),(zi b)]))),(6,bt),(7,bt),(8,bt),(10,bt),(12,bt),(13,bt)] (cP hx2 (cP hx1 (cP hx1 (cP hx1 (cP hx1 (cP hx1 (cP (@loadSpanE (hid) ([(zc [(zv n),(zs spanT l),(zv w)]),(zc [(zv 0),(zv 0)])]) (k) hk (a) (b) e) (cP (@iaddrSpanN (hid) (k) hk) (cP hx0 nilE))))))))) (by kernel_rfl)
theorem oqX (n:Int) (l:List Span) (w at_:Int) (hid:List Span):Rd XR 0 (ntOf XR FOv) (lpBody XR FOv 0) (stOv n l w at_ hid hid.length) (.exit 0,stOvx n l w at_ hid hid.length):=by
 have hx0:(decide ((↑hid.length:Int) < (↑hid.length:Int))) = false:=decide_eq_false (by omega)
 exact (pR (r:=((Ex.exit 0),{ s:=[(1,(zv at_)),(4,(zo 1 0)),(8,(zs spanT hid)),(9,(zv (↑hid.length:Int))),(10,(zv (↑hid.length:Int))),(11,(zb (decide ((↑hid.length:Int) < (↑hid.length:Int)))))],h:=[(zc [(zv n),(zs spanT l),(zv w)]),(zc [(zv 0),(zv 0)])],og:=[] })) 12 [(1,bf)] (cP hx0 nilE) (by kernel_rfl)).to (by simp (disch:=omega) [wrapId, *])
def inQ (at_:Int) (y:Span):Bool:=decide (at_ > frS y) && decide (at_ < toS y)
def ovAt (hid:List Span) (at_:Int):Int × Int:=match hid.find? (inQ at_) with | some y=>(frS y,toS y) | none=>(-1,0)
def OvL (n:Int) (l:List Span) (w at_:Int) (hid:List Span) (x:Ex × St):Prop:=Lp XR 0 (ntOf XR FOv) (lpKeep XR FOv 0) (lpBody XR FOv 0) 2 FUEL (stOv n l w at_ hid 0) x
def OvX (n:Int) (l:List Span) (w at_:Int) (hid:List Span):Prop:=OvL n l w at_ hid (.exit 0,stOvx n l w at_ hid hid.length)
def OvR (n:Int) (l:List Span) (w at_:Int) (hid:List Span) (a b:Int):Prop:=OvL n l w at_ hid (.ret,stOvr n l w a b)
theorem oqRound (n:Int) (l:List Span) (w at_:Int) (hid:List Span) (hl:hid.length≤1000) (k:Nat) (hk:k < hid.length) (h:inQ at_ (spanT.nth hid k) = false):RdC XR 0 (ntOf XR FOv) (lpKeep XR FOv 0) (lpBody XR FOv 0) 2 (stOv n l w at_ hid k) (stOv n l w at_ hid ((k + 1:Nat):Int)):=by
 obtain ⟨a,b,e⟩:∃ a b,spanT.nth hid k = S2 a b:=⟨_,_,rfl⟩
 rw [e] at h
 have h2:(decide (at_ > a) && decide (at_ < b)) = false:=h
 by_cases q:at_ > a
 ·have q2:¬ at_ < b:=by intro q2;simp [q,q2] at h2
  exact oqB n l w at_ hid k hl hk a b e q q2
 ·exact oqA n l w at_ hid k hl hk a b e q
theorem oqLp (n:Int) (l:List Span) (w at_:Int) (hid:List Span) (hl:hid.length≤1000) (a b:Int) (e:ovAt hid at_ = (a,b)):(OvX n l w at_ hid∧a = -1∧b = 0)∨OvR n l w at_ hid a b:=by
 unfold ovAt at e
 cases h:hid.any (inQ at_) with
 | false =>
  have hn:hid.find? (inQ at_) = none:=by
   rw [List.find?_eq_none]
   intro x hx h2
   rw [List.any_eq_false] at h
   exact h x hx h2
  rw [hn] at e
  injection e with e1 e2
  exact .inl ⟨Lp.run (fun k=>stOv n l w at_ hid k) hid.length (by omega) (by kernel_rfl) (fun k hk=>oqRound n l w at_ hid hl k hk (anyNo (e:=spanT) (inQ at_) h hk)) (oqX n l w at_ hid) (by simp),e1.symm,e2.symm⟩
 | true =>
  obtain ⟨k,hk,h1,h2⟩:=anyYes (e:=spanT) (inQ at_) h
  have hn:hid.find? (inQ at_) = some (spanT.nth hid k):=by
   rw [List.find?_eq_some_iff_getElem]
   refine ⟨h1,k,hk,(nth_get (e:=spanT) hk).symm,fun j hj=>?_⟩
   have:=h2 j hj
   rw [nth_get (e:=spanT) (by omega)] at this
   rw [this];rfl
  rw [hn] at e
  obtain ⟨a2,b2,e2⟩:∃ a b,spanT.nth hid k = S2 a b:=⟨_,_,rfl⟩
  rw [e2] at e h1
  injection e with e3 e4
  have h4:(decide (at_ > a2) && decide (at_ < b2)) = true:=h1
  rw [Bool.and_eq_true,decide_eq_true_eq,decide_eq_true_eq] at h4
  have e5:a2 = a:=e3
  have e6:b2 = b:=e4
  subst e5;subst e6
  exact .inr (Lp.run (fun k=>stOv n l w at_ hid k) k (by omega) (by kernel_rfl) (fun j hj=>oqRound n l w at_ hid hl j (by omega) (h2 j hj)) (oqR n l w at_ hid k hl hk _ _ e2 h4.1 h4.2) (by simp))
theorem oqXp:∀ (n:Int) (l:List Span) (w at_:Int) (hid:List Span) (h:OvX n l w at_ hid),Lp XR 0 (ntOf XR FOv) (lpKeep XR FOv 0) (lpBody XR FOv 0) 2 FUEL (stOv n l w at_ hid 0) (.exit 0,stOvx n l w at_ hid hid.length):=fun _ _ _ _ _ h=>h
theorem oqRp:∀ (n:Int) (l:List Span) (w at_:Int) (hid:List Span) (a b:Int) (h:OvR n l w at_ hid a b),Lp XR 0 (ntOf XR FOv) (lpKeep XR FOv 0) (lpBody XR FOv 0) 2 FUEL (stOv n l w at_ hid 0) (.ret,stOvr n l w a b):=fun _ _ _ _ _ _ _ h=>h
abbrev spR (a b:Int):V:=.d (.agg [.int .i64 a,.int .i64 b])
theorem oqN (n:Int) (l:List Span) (w at_:Int) (hl:l.length≤1000) (hs3:List Span) (eh:hidL l = hs3) (h:OvX n l w at_ hs3):Ans XR FOv [.d (.agg [.int .i64 n,spanT.slD l,.int .i64 w]),rI at_] (spR (-1) 0):=by
 exact pV 12 [(1,.v (V.d (Ty.slD spanT hs3))),(3,.l (Ex.exit 0) (stOvx n l w at_ hs3 (↑hs3.length:Int)))] (cE (@oqXp (n) (l) (w) (at_) (hs3) h) (cC (@hid (n) (l) (w) hl (hs3) eh) nilE)) (by kernel_rfl) rfl rfl
theorem oqY (n:Int) (l:List Span) (w at_:Int) (hl:l.length≤1000) (hs3:List Span) (eh:hidL l = hs3) (a b:Int) (h:OvR n l w at_ hs3 a b):Ans XR FOv [.d (.agg [.int .i64 n,spanT.slD l,.int .i64 w]),rI at_] (spR a b):=by
 exact pV 12 [(1,.v (V.d (Ty.slD spanT hs3))),(3,.l (Ex.ret) (stOvr n l w a b))] (cE (@oqRp (n) (l) (w) (at_) (hs3) (a) (b) h) (cC (@hid (n) (l) (w) hl (hs3) eh) nilE)) (by kernel_rfl) rfl rfl
theorem overE:∀ (n:Int) (l:List Span) (w at_:Int) (hl:l.length≤1000) (hs3:List Span) (eh:hidL l = hs3) (hh:hs3.length≤1000) (a b:Int) (eo:ovAt hs3 at_ = (a,b)),Ans XR FOv [.d (.agg [.int .i64 n,spanT.slD l,.int .i64 w]),rI at_] (spR a b):=fun n l w at_ hl hid eh hh a b eo=>by
 rcases oqLp n l w at_ hid hh a b eo with ⟨h,rfl,rfl⟩ | h
 ·exact oqN n l w at_ hl hid eh h
 ·exact oqY n l w at_ hl hid eh a b h
abbrev FOvL:Nat := 15
theorem ovl (s:Str) (il:List Inl) (fl:List Span) (tab wd at_:Int) (hs:s.length≤1000) (hil:il.length≤60) (ht:∀ x ∈ il,x.2.2.2.2.1.length≤100000) (hfl:fl.length≤60) (r:List Int) (er:Cmp.dec s = r) (hrl:r.length≤1000) (e:errI r.length il = 0) (il2:List Inl) (e2:outI il = il2) (f:errF r.length fl = 0) (fl2:List Span) (f2:outF fl = fl2) (hfl2:fl2.length≤1000) (hs2:List Span) (f3:hidL fl2 = hs2) (hh:hs2.length≤1000) (zl wl:List Rng) (ez:zP = zl) (ew:wP = wl) (a b:Int) (eo:ovAt hs2 at_ = (a,b)):Ans XR FOvL [.d (.agg (docL s il fl tab wd)),rI at_] (spR a b):=by
 exact pV 12 [(1,.v (V.d (D.agg (viewL r (↑r.length:Int) il2 (0:Int) hs2 zl wl tab wd)))),(6,.v (V.d (D.agg [(zi (↑r.length:Int)),(Ty.slD spanT fl2),(zi 0)]))),(7,.v (spR a b))] (cC (@overE ((↑r.length:Int)) (fl2) ((0:Int)) (at_) hfl2 (hs2) f3 hh (a) (b) eo) (cC (@newF0 r.length (by omega) (fl) hfl f (fl2) f2) (cC (@of23G (s) hs (il) hil ht (fl) hfl (tab) (wd) (r) er hrl e (il2) e2 f (fl2) f2 hfl2 (hs2) f3 (zl) (wl) ez ew) nilE))) (by kernel_rfl) rfl rfl
theorem SmallD.ov {s:Str} {il:List Inl} {fl:List Span} {tab wd:Int} (h:SmallD s il fl tab wd 120) (at_:Int):Ans XR FOvL [.d (.agg (docL s il fl tab wd)),rI at_] (spR (ovAt (hidL (outF fl)) at_).1 (ovAt (hidL (outF fl)) at_).2):=by
 have hd:=Cmp.dec_le s
 have hlen:=h.len
 have h1:=h.il60
 have h2:=h.fl60
 have hf:(outF fl).length≤60:=by rw [outF_len];exact h2
 have hh:(hidL (outF fl)).length≤60:=Nat.le_trans (hidR_len _ _) hf
 exact ovl s il fl tab wd at_ (by omega) h1 (longI_no h.short) h2 _ rfl (by omega) h.ei _ rfl h.ef _ rfl (by omega) _ rfl (by omega) zP wP rfl rfl _ _ rfl
abbrev ptT (r c:Int):Points.Point:=(r,c,())
def isPt (l:List Mark) (r c:Int):Bool:=decide (0≤Points.findTo l (ptT r c))
def plAt (l:List Mark) (r c:Int):Int:=aOfM (markT.nth l (Points.findTo l (ptT r c)).toNat)
theorem isE:∀ (q:List Row) (hs:Points.smallR q) (l:List Mark) (el:Points.allMarks q = l) (hl:l.length≤90000000) (r c:Int) (h:isPt l r c = true),Ans XR 21 [.d (rowT.slD q),ptR2 r c] (.d (.bool true)):=fun q hs l el hl r c h=>by
 subst el
 have:=Points.is q (ptT r c) hs (by omega)
 rw [show decide (Points.findTo (Points.allMarks q) (ptT r c) ≥ 0) = true from h] at this
 exact this
theorem findFrom_lt' (l:List Mark) (p:Points.Point):Points.findTo l p < l.length∨Points.findTo l p = -1:=by
 have:∀ f k,k + f = l.length→Points.findFrom l p f k < l.length∨Points.findFrom l p f k = -1:=by
  intro f
  induction f with
  | zero=>intro k _;exact .inr rfl
  | succ f ih =>
   intro k hk
   simp only [Points.findFrom]
   split
   ·left;omega
   ·exact ih (k + 1) (by omega)
 exact this l.length 0 (by omega)
theorem placeE:∀ (q:List Row) (hs:Points.smallR q) (l:List Mark) (el:Points.allMarks q = l) (hl:l.length≤90000000) (r c:Int) (h:isPt l r c = true) (n:Int) (en:plAt l r c = n),Ans XR 18 [.d (rowT.slD q),ptR2 r c] (.d (.tup [.int .i64 n,.int .i64 0])):=fun q hs l el hl r c h n en=>by
 subst el;subst en
 have h0:0≤Points.findTo (Points.allMarks q) (ptT r c):=of_decide_eq_true h
 have h1:=findFrom_lt' (Points.allMarks q) (ptT r c)
 exact Points.placeYes q (ptT r c) hs (by omega) h0 (by omega)
theorem ovAt_none {n:Nat} {hid:List Span} {a:Int} (h:Vis hid a):ovAt hid a = (-1,0):=by
 unfold ovAt
 have:hid.find? (inQ a) = none:=by
  rw [List.find?_eq_none]
  intro y hy h2
  unfold inQ at h2
  rw [Bool.and_eq_true,decide_eq_true_eq,decide_eq_true_eq] at h2
  exact h y hy ⟨by omega,h2.2⟩
 rw [this]
theorem ovAt_some {n:Nat} {hid:List Span} (hD:HidD n hid) {a:Int} {y:Span} (hy:y ∈ hid) (h1:frS y < a) (h2:a < toS y):ovAt hid a = (frS y,toS y):=by
 unfold ovAt
 cases e:hid.find? (inQ a) with
 | none =>
  rw [List.find?_eq_none] at e
  exfalso
  apply e y hy
  unfold inQ
  rw [Bool.and_eq_true,decide_eq_true_eq,decide_eq_true_eq]
  exact ⟨by omega,h2⟩
 | some z =>
  have h3:=List.find?_some e
  have h4:=List.mem_of_find?_eq_some e
  unfold inQ at h3
  rw [Bool.and_eq_true,decide_eq_true_eq,decide_eq_true_eq] at h3
  rw [hD.uniq hy h4 (a:=a) (by omega) h2 (by omega) h3.2]
def wantP (hid:List Span) (a:Int):Int:=if (ovAt hid a).1 ≥ 0 then (ovAt hid a).1 else a
theorem DocM.want {n:Nat} {hid:List Span} {l:List Mark} (h:DocM n hid l) (a:Int) (h0:0≤a) (h1:a≤n):∃ o,orgM a l = some o∧aOfM o = wantP hid a∧(aOfM o = a∨((ovAt hid a).1 ≥ 0∧aOfM o < a))∧(aOfM o = a→¬ (ovAt hid a).1 ≥ 0):=by
 obtain ⟨o,ho,h2,h3,h4⟩:=h.org a h0 h1
 refine ⟨o,ho,?_⟩
 unfold wantP
 rcases h4 with h4 | ⟨y,hy,h5,h6,h7⟩
 ·rw [h4] at h3
  rw [ovAt_none (n:=n) h3]
  exact ⟨by rw [if_neg (by show ¬ (-1:Int) ≥ 0;omega)];exact h4,.inl h4,fun _=>by show ¬ (-1:Int) ≥ 0;omega⟩
 ·have hp:=h.hidD.pos y hy
  rw [ovAt_some h.hidD hy (by omega) h7]
  exact ⟨by rw [if_pos (show frS y ≥ 0 from hp.1)];exact h5.symm,.inr ⟨hp.1,h6⟩,fun h8=>absurd h8 (by omega)⟩
theorem shownM_mem {a b:Int} {l:List Mark} {o:Mark} (ho:orgM a l = some o):shownM a b l o ∈ l∧aOfM (shownM a b l o) = aOfM o:=by
 have hm:=org_mem ho
 unfold shownM
 split
 ·rename_i h
  cases e:l.find? (vAt a) with
  | none=>exact ⟨hm.1,rfl⟩
  | some m =>
   have h1:=List.find?_some e
   unfold vAt at h1
   rw [Bool.and_eq_true,decide_eq_true_eq,decide_eq_true_eq] at h1
   exact ⟨List.mem_of_find?_eq_some e,by show aOfM m = aOfM o;omega⟩
 ·exact ⟨hm.1,rfl⟩
theorem mark_pt {l:List Mark} (hl:l.Pairwise ptLt) {m:Mark} (hm:m ∈ l):isPt l (rOfM m) (cOfM m) = true∧plAt l (rOfM m) (cOfM m) = aOfM m:=by
 obtain ⟨j,hj,e⟩:=List.mem_iff_getElem.1 hm
 have e2:markT.nth l j = m:=by rw [nth_get (e:=markT) hj];exact e
 have h:=find_mark l hl j hj (ptT (rOfM m) (cOfM m)) (by rw [e2]) (by rw [e2])
 unfold isPt plAt
 rw [h]
 exact ⟨by rw [decide_eq_true_eq];omega,by rw [Int.toNat_natCast,e2]⟩
theorem SmallD.many {s:Str} {il:List Inl} {fl:List Span} {tab wd:Int} (h:SmallD s il fl tab wd 120):(Points.allMarks (docRows s il fl tab wd)).length≤90000000:=by
 have h2:=Points.allMarks_len h.rows.1
 omega
theorem rmM_ge (i:Nat) (L:List Cell) (r:Row) (k0:Nat) (M:List Mark) (hM:∀ m ∈ M,0≤rOfM m):∀ c,∀ m ∈ Points.rmM i L r k0 M c,0≤rOfM m
 | 0=>hM
 | c + 1=>by
  have h1:=rmM_ge i L r k0 M hM c
  simp only [Points.rmM]
  split
  ·exact h1
  ·split
   ·intro m hm
    rcases List.mem_append.1 hm with hm | hm
    ·exact h1 m hm
    ·rw [List.mem_singleton] at hm
     subst hm
     show (0:Int)≤(i:Int)
     omega
   ·exact h1
theorem refFold_ge (q:List Row):∀ i,∀ m ∈ Points.refFold q i,0≤rOfM m
 | 0=>by intro m hm;cases hm
 | i + 1=>by
  have h1:=refFold_ge q i
  have h3:=rmM_ge i (Points.lineOf q i) (rowT.nth q i) (Points.aheadOf q i) (Points.refFold q i) h1 (Points.Row.cells (rowT.nth q i)).length
  show ∀ m ∈ Points.refStep q (Points.refFold q i) i,0≤rOfM m
  unfold Points.refStep
  split
  ·intro m hm
   rcases List.mem_append.1 hm with hm | hm
   ·exact h3 m hm
   ·rw [List.mem_singleton] at hm
    subst hm
    show (0:Int)≤(i:Int)
    omega
  ·exact h3
theorem marks_ge (q:List Row):∀ m ∈ Points.allMarks q,0≤rOfM m:=by
 rw [Points.marks_same]
 exact refFold_ge q q.length
theorem DocM.before {n:Nat} {hid:List Span} {l:List Mark} (h:DocM n hid l) {m m':Mark} (hm:m ∈ l) (hm':m' ∈ l) (hlt:aOfM m < aOfM m' ∨ (aOfM m = aOfM m' ∧ kOfM m = 2∧¬ kOfM m' = 2)):ptLt m m':=by
 obtain ⟨i,hi,rfl⟩:=List.mem_iff_getElem.1 hm
 obtain ⟨j,hj,rfl⟩:=List.mem_iff_getElem.1 hm'
 have h1:=List.pairwise_iff_getElem.1 h.inc
 have h2:=List.pairwise_iff_getElem.1 (List.pairwise_map.1 h.ord)
 rcases Nat.lt_trichotomy i j with hij | hij | hij
 ·exact h1 i j hi hj hij
 ·subst hij
  rcases hlt with h3 | ⟨_,h4,h5⟩
  ·omega
  ·exact absurd h4 h5
 ·exfalso
  have h3:aOfM l[j] < aOfM l[i] ∨ (aOfM l[j] = aOfM l[i] ∧ kOfM l[j] = 2):=h2 j i hj hi hij
  rcases hlt with h4 | ⟨h4,h5,h6⟩
  ·rcases h3 with h3 | h3 <;> omega
  ·rcases h3 with h3 | h3
   ·omega
   ·exact h6 h3.2
theorem DocM.same {n:Nat} {hid:List Span} {l:List Mark} (h:DocM n hid l) {m m':Mark} (hm:m ∈ l) (hm':m' ∈ l) (e:aOfM m = aOfM m') (h1:¬ kOfM m = 2) (h2:¬ kOfM m' = 2):m = m':=by
 obtain ⟨i,hi,rfl⟩:=List.mem_iff_getElem.1 hm
 obtain ⟨j,hj,rfl⟩:=List.mem_iff_getElem.1 hm'
 have h3:=List.pairwise_iff_getElem.1 (List.pairwise_map.1 h.ord)
 rcases Nat.lt_trichotomy i j with hij | hij | hij
 ·have h4:aOfM l[i] < aOfM l[j] ∨ (aOfM l[i] = aOfM l[j] ∧ kOfM l[i] = 2):=h3 i j hi hj hij
  rcases h4 with h4 | h4
  ·omega
  ·exact absurd h4.2 h1
 ·subst hij;rfl
 ·have h4:aOfM l[j] < aOfM l[i] ∨ (aOfM l[j] = aOfM l[i] ∧ kOfM l[j] = 2):=h3 j i hj hi hij
  rcases h4 with h4 | h4
  ·omega
  ·exact absurd h4.2 h2
def ptLess (a b:Int × Int):Prop:=a.1 < b.1∨a.1 = b.1∧a.2 < b.2
def LastOk (hid:List Span) (l:List Mark) (k:Nat) (p:Int × Int):Prop:=p = (-1,0)∨∃ m ∈ l,p = ptM m∧aOfM m < (k:Int)∧Vis hid (aOfM m)
theorem DocM.rise {n:Nat} {hid:List Span} {q:List Row} (h:DocM n hid (Points.allMarks q)) (b:Int) (k:Nat) (hk:(k:Int)≤n) (p:Int × Int) (hp:LastOk hid (Points.allMarks q) k p) :
  ¬ ptLess (showP (k:Int) b (Points.allMarks q)) p∧((ovAt hid (k:Int)).1 < 0→¬ (showP (k:Int) b (Points.allMarks q)) = p∧LastOk hid (Points.allMarks q) (k + 1) (showP (k:Int) b (Points.allMarks q))):=by
 obtain ⟨o,ho,h2,h3,h4⟩:=h.org (k:Int) (by omega) hk
 obtain ⟨o1,o2,o3⟩:=org_mem ho
 obtain ⟨m1,m2⟩:=shownM_mem (b:=b) ho
 have hge:=marks_ge q _ m1
 rw [showP_eq (k:Int) b _ o ho]
 have hun:(ovAt hid (k:Int)).1 < 0→aOfM o = (k:Int):=by
  intro hov
  rcases h4 with h4 | ⟨y,hy,h5,h6,h7⟩
  ·exact h4
  ·rw [ovAt_some h.hidD hy (by omega) h7] at hov
   have:=(h.hidD.pos y hy).1
   exact absurd hov (by show ¬ frS y < 0;omega)
 have hnext:(ovAt hid (k:Int)).1 < 0→LastOk hid (Points.allMarks q) (k + 1) (ptM (shownM (k:Int) b (Points.allMarks q) o)):=by
  intro hov
  have:=hun hov
  exact .inr ⟨_,m1,rfl,by rw [m2];omega,by rw [m2];exact h3⟩
 rcases hp with rfl | ⟨m,hm,rfl,ha,hv⟩
 ·refine ⟨fun h5=>?_,fun hov=>⟨fun h5=>?_,hnext hov⟩⟩
  ·unfold ptLess ptM at h5
   simp only at h5
   omega
  ·unfold ptM at h5
   injection h5 with h6 h7
   omega
 ·have key:aOfM m < aOfM o→ptLt m (shownM (k:Int) b (Points.allMarks q) o):=fun h5=>h.before hm m1 (.inl (by rw [m2];exact h5))
  have fin:ptLt m (shownM (k:Int) b (Points.allMarks q) o)→¬ ptLess (ptM (shownM (k:Int) b (Points.allMarks q) o)) (ptM m)∧¬ ptM (shownM (k:Int) b (Points.allMarks q) o) = ptM m:=by
   intro h5
   unfold ptLt at h5
   constructor
   ·intro h6
    unfold ptLess ptM at h6
    simp only at h6
    omega
   ·intro h6
    unfold ptM at h6
    injection h6 with h7 h8
    omega
  rcases h4 with h4 | ⟨y,hy,h5,h6,h7⟩
  ·have h8:=fin (key (by omega))
   exact ⟨h8.1,fun hov=>⟨h8.2,hnext hov⟩⟩
  ·have h8:aOfM m≤aOfM o:=by
    apply Classical.byContradiction
    intro h9
    exact hv y hy ⟨by omega,by omega⟩
   have hno:¬ (ovAt hid (k:Int)).1 < 0:=by
    intro hov
    have:=hun hov
    omega
   refine ⟨?_,fun hov=>absurd hov hno⟩
   by_cases h9:aOfM m < aOfM o
   ·exact (fin (key h9)).1
   ·have h10:aOfM m = aOfM o:=by omega
    have h11:shownM (k:Int) b (Points.allMarks q) o = o:=by
     unfold shownM
     rw [if_neg (fun h12=>by omega)]
    by_cases h12:kOfM m = 2
    ·refine (fin (h.before hm m1 (.inr ⟨by rw [m2];exact h10,h12,?_⟩))).1
     rw [h11];exact o2
    ·rw [h11,h.same hm o1 h10 h12 o2]
     intro h13
     unfold ptLess ptM at h13
     simp only at h13
     omega
end Go.Proofs.Ytaobccodpdmieaa.Lay
namespace Go.Proofs.Ytaobccodpdmieaa.Points
open Go Pv G
abbrev FPk:Nat := 35
abbrev fBh:Nat := 36
abbrev fAh:Nat := 38
def ptR (p:Point):Int:=p.1
def ptC (p:Point):Int:=p.2.1
def mR (m:Mark):Int:=m.1
def mC (m:Mark):Int:=m.2.1
def mK (m:Mark):Int:=m.2.2.1
def mA (m:Mark):Int:=m.2.2.2.1
theorem loadMarkF:∀ (l:List Mark) (h:List Ob) (k:Nat) (hk:k < l.length),loadV X0 h 77 (.d (.ref (l.flatMap markT.enc) (k * 4))) = some (.d (.agg [.int .i64 (mR (markT.nth l k)),.int .i64 (mC (markT.nth l k)),.int .i64 (mK (markT.nth l k)),.int .i64 (mA (markT.nth l k))])):=fun l h k hk=>loadMark l h k hk
abbrev boxP (p:Point):Ob:=.cells [.d (.int .i64 (ptR p)),.d (.int .i64 (ptC p))]
abbrev boxM (m:Mark):Ob:=.cells [.d (.int .i64 (mR m)),.d (.int .i64 (mC m)),.d (.int .i64 (mK m)),.d (.int .i64 (mA m))]
abbrev zeroM:Ob:=.cells [.d (.int .i64 0),.d (.int .i64 0),.d (.int .i64 0),.d (.int .i64 0)]
abbrev stPk (F:Nat) (l:List Mark) (p:Point) (b:Mark) (i:Nat):St:=⟨[(2,.d (.fn F)),(4,.obj 0 0),(6,.obj 1 0),(7,.obj 2 0),(13,.d (markT.slD l)),(14,.d (.int .i64 l.length)),(15,.d (.int .i64 i))],[boxP p,zeroM,boxM b],[]⟩
abbrev stPkx (F:Nat) (l:List Mark) (p:Point) (b:Mark) (i:Nat):St:=⟨[(2,.d (.fn F)),(4,.obj 0 0),(6,.obj 1 0),(7,.obj 2 0),(13,.d (markT.slD l)),(14,.d (.int .i64 l.length)),(15,.d (.int .i64 i)),(16,.d (.bool false))],[boxP p,zeroM,boxM b],[]⟩
def isBh (m:Mark) (p:Point):Prop:=ptR p < mR m∨(mR m = ptR p∧ptC p < mC m)
def isAh (m:Mark) (p:Point):Prop:=mR m < ptR p∨(mR m = ptR p∧mC m < ptC p)
instance (m:Mark) (p:Point):Decidable (isBh m p):=by unfold isBh;infer_instance
instance (m:Mark) (p:Point):Decidable (isAh m p):=by unfold isAh;infer_instance
abbrev zeroP:Ob:=.cells [.d (.int .i64 0),.d (.int .i64 0)]
abbrev stR1 (l:List Mark) (p:Point) (i:Nat):St:=⟨[(4,.obj 0 0),(6,.obj 1 0),(7,.d (markT.slD l)),(36,.d (markT.slD l)),(37,.d (.int .i64 l.length)),(38,.d (.int .i64 i))],[boxP p,zeroP],[]⟩
abbrev stR1x (l:List Mark) (p:Point) (i:Nat):St:=⟨[(4,.obj 0 0),(6,.obj 1 0),(7,.d (markT.slD l)),(36,.d (markT.slD l)),(37,.d (.int .i64 l.length)),(38,.d (.int .i64 i)),(39,.d (.bool false))],[boxP p,zeroP],[]⟩
theorem pkB1 (l:List Mark) (p:Point) (b:Mark) (i:Nat) (hl:l.length < 100000000) (hi:i < l.length) (hm:ptR p < mR (markT.nth l i)∨(mR (markT.nth l i) = ptR p∧ptC p < mC (markT.nth l i))):RdC X0 0 (ntOf X0 FPk) (lpKeep X0 FPk 0) (lpBody X0 FPk 0) 3 (stPk fBh l p b i) (stPk fBh l p b (i + 1)):=by
 have h0:(decide ((↑i:Int) < (↑l.length:Int))) = true:=by (((try simp only [eq_self,and_true,true_and,Bool.and_true,Bool.true_and,Bool.not_eq_true',Bool.not_eq_false',Bool.and_eq_true,Bool.and_eq_false_iff,decide_eq_true_eq,decide_eq_false_iff_not,beq_iff_eq,beq_eq_false_iff_ne,bne_iff_ne,bne_eq_false_iff_eq,ne_eq,not_and,Int.toNat_natCast] at *);(try simp only [Row.cells,Row.wrapped,Row.end_,Cell.kind,Cell.at] at *);(try simp (disch:=omega) only [wrapId,toNatAdd,toNatSucc,isAt,reduceCtorEq,or_false,and_true,Bool.and_true,Bool.and_eq_true,Bool.and_eq_false_iff,beq_iff_eq,beq_eq_false_iff_ne,ne_eq,Int.toNat_natCast] at *)) <;> first | omega | assumption | (refine ⟨?_,?_⟩ <;> assumption))
 rcases Bool.eq_false_or_eq_true (decide ((mR (Ty.nth markT l (Int.toNat (↑i:Int)))) > (ptR p))) with h1 | h1
 ·exact (pC (st':={ s:=[(2,(V.d (D.fn 36))),(4,(zo 0 0)),(6,(zo 1 0)),(7,(zo 2 0)),(13,(zs markT l)),(14,(zv (↑l.length:Int))),(15,(zv (zw ((↑i:Int) + (1:Int)))))],h:=[(zc [(zv (ptR p)),(zv (ptC p))]),(zc [(zv 0),(zv 0),(zv 0),(zv 0)]),(zc [(zv (mR b)),(zv (mC b)),(zv (mK b)),(zv (mA b))])],og:=[] }) 12 [(1,bt),(2,.v (V.d (D.ref (List.flatMap (Ty.enc markT) l) ((Int.toNat (↑i:Int)) * 4)))),(3,.v (V.d (D.agg [(zi (mR (Ty.nth markT l (Int.toNat (↑i:Int))))),(zi (mC (Ty.nth markT l (Int.toNat (↑i:Int))))),(zi (mK (Ty.nth markT l (Int.toNat (↑i:Int))))),(zi (mA (Ty.nth markT l (Int.toNat (↑i:Int)))))]))),(10,bt),(11,bt),(12,bt),(13,bt),(14,bt),(15,bt),(16,bt),(17,bt),(18,bt)] (cP h1 (cP h1 (cP h1 (cP h1 (cP h1 (cP h1 (cP h1 (cP h1 (cP h1 (cP (@loadMarkF (l) ([(zc [(zv (ptR p)),(zv (ptC p))]),(zc [(zv 0),(zv 0),(zv 0),(zv 0)]),(zc [(zv (mR b)),(zv (mC b)),(zv (mK b)),(zv (mA b))])]) (Int.toNat (↑i:Int)) (by omega)) (cP (@iaddrMark (l) ((↑i:Int)) (by omega) (by omega)) (cP h0 nilE)))))))))))) (by kernel_rfl)).to (by simp (disch:=omega) [wrapId, *])
 ·have h2:((mR (Ty.nth markT l (Int.toNat (↑i:Int)))) == (ptR p)) = true:=by (((try simp only [eq_self,and_true,true_and,Bool.and_true,Bool.true_and,Bool.not_eq_true',Bool.not_eq_false',Bool.and_eq_true,Bool.and_eq_false_iff,decide_eq_true_eq,decide_eq_false_iff_not,beq_iff_eq,beq_eq_false_iff_ne,bne_iff_ne,bne_eq_false_iff_eq,ne_eq,not_and,Int.toNat_natCast] at *);(try simp only [Row.cells,Row.wrapped,Row.end_,Cell.kind,Cell.at] at *);(try simp (disch:=omega) only [wrapId,toNatAdd,toNatSucc,isAt,reduceCtorEq,or_false,and_true,Bool.and_true,Bool.and_eq_true,Bool.and_eq_false_iff,beq_iff_eq,beq_eq_false_iff_ne,ne_eq,Int.toNat_natCast] at *)) <;> first | omega | assumption | (refine ⟨?_,?_⟩ <;> assumption))
  have h3:(!(decide ((mC (Ty.nth markT l (Int.toNat (↑i:Int)))) > (ptC p)))) = false:=by (((try simp only [eq_self,and_true,true_and,Bool.and_true,Bool.true_and,Bool.not_eq_true',Bool.not_eq_false',Bool.and_eq_true,Bool.and_eq_false_iff,decide_eq_true_eq,decide_eq_false_iff_not,beq_iff_eq,beq_eq_false_iff_ne,bne_iff_ne,bne_eq_false_iff_eq,ne_eq,not_and,Int.toNat_natCast] at *);(try simp only [Row.cells,Row.wrapped,Row.end_,Cell.kind,Cell.at] at *);(try simp (disch:=omega) only [wrapId,toNatAdd,toNatSucc,isAt,reduceCtorEq,or_false,and_true,Bool.and_true,Bool.and_eq_true,Bool.and_eq_false_iff,beq_iff_eq,beq_eq_false_iff_ne,ne_eq,Int.toNat_natCast] at *)) <;> first | omega | assumption | (refine ⟨?_,?_⟩ <;> assumption))
  exact (pC (st':={ s:=[(2,(V.d (D.fn 36))),(4,(zo 0 0)),(6,(zo 1 0)),(7,(zo 2 0)),(13,(zs markT l)),(14,(zv (↑l.length:Int))),(15,(zv (zw ((↑i:Int) + (1:Int)))))],h:=[(zc [(zv (ptR p)),(zv (ptC p))]),(zc [(zv 0),(zv 0),(zv 0),(zv 0)]),(zc [(zv (mR b)),(zv (mC b)),(zv (mK b)),(zv (mA b))])],og:=[] }) 12 [(1,bt),(2,.v (V.d (D.ref (List.flatMap (Ty.enc markT) l) ((Int.toNat (↑i:Int)) * 4)))),(3,.v (V.d (D.agg [(zi (mR (Ty.nth markT l (Int.toNat (↑i:Int))))),(zi (mC (Ty.nth markT l (Int.toNat (↑i:Int))))),(zi (mK (Ty.nth markT l (Int.toNat (↑i:Int))))),(zi (mA (Ty.nth markT l (Int.toNat (↑i:Int)))))]))),(10,bf),(11,bf),(12,bf),(14,bf),(15,bf),(17,bf),(19,bf),(20,bt),(21,bt),(22,bt),(24,bt),(25,bt),(27,bt),(29,bf),(30,bt),(31,bf),(32,bf)] (cP h3 (cP h1 (cP h2 (cP h1 (cP h2 (cP h2 (cP h2 (cP h2 (cP h2 (cP h2 (cP h1 (cP h1 (cP h1 (cP h1 (cP h1 (cP h1 (cP h1 (cP (@loadMarkF (l) ([(zc [(zv (ptR p)),(zv (ptC p))]),(zc [(zv 0),(zv 0),(zv 0),(zv 0)]),(zc [(zv (mR b)),(zv (mC b)),(zv (mK b)),(zv (mA b))])]) (Int.toNat (↑i:Int)) (by omega)) (cP (@iaddrMark (l) ((↑i:Int)) (by omega) (by omega)) (cP h0 nilE)))))))))))))))))))) (by kernel_rfl)).to (by simp (disch:=omega) [wrapId, *])
theorem pkB2 (l:List Mark) (p:Point) (b:Mark) (i:Nat) (hl:l.length < 100000000) (hi:i < l.length) (hm:¬ (ptR p < mR (markT.nth l i)∨(mR (markT.nth l i) = ptR p∧ptC p < mC (markT.nth l i)))):RdC X0 0 (ntOf X0 FPk) (lpKeep X0 FPk 0) (lpBody X0 FPk 0) 3 (stPk fBh l p b i) (stPk fBh l p (markT.nth l i) (i + 1)):=by
 have h0:(decide ((↑i:Int) < (↑l.length:Int))) = true:=by (((try simp only [eq_self,and_true,true_and,Bool.and_true,Bool.true_and,Bool.not_eq_true',Bool.not_eq_false',Bool.and_eq_true,Bool.and_eq_false_iff,decide_eq_true_eq,decide_eq_false_iff_not,beq_iff_eq,beq_eq_false_iff_ne,bne_iff_ne,bne_eq_false_iff_eq,ne_eq,not_and,Int.toNat_natCast] at *);(try simp only [Row.cells,Row.wrapped,Row.end_,Cell.kind,Cell.at] at *);(try simp (disch:=omega) only [wrapId,toNatAdd,toNatSucc,isAt,reduceCtorEq,or_false,and_true,Bool.and_true,Bool.and_eq_true,Bool.and_eq_false_iff,beq_iff_eq,beq_eq_false_iff_ne,ne_eq,Int.toNat_natCast] at *)) <;> first | omega | assumption | (refine ⟨?_,?_⟩ <;> assumption))
 have h1:(decide ((mR (Ty.nth markT l (Int.toNat (↑i:Int)))) > (ptR p))) = false:=by (((try simp only [eq_self,and_true,true_and,Bool.and_true,Bool.true_and,Bool.not_eq_true',Bool.not_eq_false',Bool.and_eq_true,Bool.and_eq_false_iff,decide_eq_true_eq,decide_eq_false_iff_not,beq_iff_eq,beq_eq_false_iff_ne,bne_iff_ne,bne_eq_false_iff_eq,ne_eq,not_and,Int.toNat_natCast] at *);(try simp only [Row.cells,Row.wrapped,Row.end_,Cell.kind,Cell.at] at *);(try simp (disch:=omega) only [wrapId,toNatAdd,toNatSucc,isAt,reduceCtorEq,or_false,and_true,Bool.and_true,Bool.and_eq_true,Bool.and_eq_false_iff,beq_iff_eq,beq_eq_false_iff_ne,ne_eq,Int.toNat_natCast] at *)) <;> first | omega | assumption | (refine ⟨?_,?_⟩ <;> assumption))
 rcases Bool.eq_false_or_eq_true ((mR (Ty.nth markT l (Int.toNat (↑i:Int)))) == (ptR p)) with h2 | h2
 ·have h3:(!(decide ((mC (Ty.nth markT l (Int.toNat (↑i:Int)))) > (ptC p)))) = true:=by (((try simp only [eq_self,and_true,true_and,Bool.and_true,Bool.true_and,Bool.not_eq_true',Bool.not_eq_false',Bool.and_eq_true,Bool.and_eq_false_iff,decide_eq_true_eq,decide_eq_false_iff_not,beq_iff_eq,beq_eq_false_iff_ne,bne_iff_ne,bne_eq_false_iff_eq,ne_eq,not_and,Int.toNat_natCast] at *);(try simp only [Row.cells,Row.wrapped,Row.end_,Cell.kind,Cell.at] at *);(try simp (disch:=omega) only [wrapId,toNatAdd,toNatSucc,isAt,reduceCtorEq,or_false,and_true,Bool.and_true,Bool.and_eq_true,Bool.and_eq_false_iff,beq_iff_eq,beq_eq_false_iff_ne,ne_eq,Int.toNat_natCast] at *)) <;> first | omega | assumption | (refine ⟨?_,?_⟩ <;> assumption))
  exact (pC (st':={ s:=[(2,(V.d (D.fn 36))),(4,(zo 0 0)),(6,(zo 1 0)),(7,(zo 2 0)),(13,(zs markT l)),(14,(zv (↑l.length:Int))),(15,(zv (zw ((↑i:Int) + (1:Int)))))],h:=[(zc [(zv (ptR p)),(zv (ptC p))]),(zc [(zv 0),(zv 0),(zv 0),(zv 0)]),(zc [(zv (mR (Ty.nth markT l (Int.toNat (↑i:Int))))),(zv (mC (Ty.nth markT l (Int.toNat (↑i:Int))))),(zv (mK (Ty.nth markT l (Int.toNat (↑i:Int))))),(zv (mA (Ty.nth markT l (Int.toNat (↑i:Int)))))])],og:=[] }) 12 [(1,bt),(2,.v (V.d (D.ref (List.flatMap (Ty.enc markT) l) ((Int.toNat (↑i:Int)) * 4)))),(3,.v (V.d (D.agg [(zi (mR (Ty.nth markT l (Int.toNat (↑i:Int))))),(zi (mC (Ty.nth markT l (Int.toNat (↑i:Int))))),(zi (mK (Ty.nth markT l (Int.toNat (↑i:Int))))),(zi (mA (Ty.nth markT l (Int.toNat (↑i:Int)))))]))),(10,bf),(11,bf),(12,bf),(14,bf),(15,bf),(17,bf),(19,bf),(20,bt),(21,bt),(22,bt),(24,bt),(25,bt),(27,bt),(29,bf),(30,bt),(31,bf),(32,bt)] (cP h3 (cP h1 (cP h2 (cP h1 (cP h2 (cP h2 (cP h2 (cP h2 (cP h2 (cP h2 (cP h1 (cP h1 (cP h1 (cP h1 (cP h1 (cP h1 (cP h1 (cP (@loadMarkF (l) ([(zc [(zv (ptR p)),(zv (ptC p))]),(zc [(zv 0),(zv 0),(zv 0),(zv 0)]),(zc [(zv (mR b)),(zv (mC b)),(zv (mK b)),(zv (mA b))])]) (Int.toNat (↑i:Int)) (by omega)) (cP (@iaddrMark (l) ((↑i:Int)) (by omega) (by omega)) (cP h0 nilE)))))))))))))))))))) (by kernel_rfl)).to (by simp (disch:=omega) [wrapId, *])
 ·exact (pC (st':={ s:=[(2,(V.d (D.fn 36))),(4,(zo 0 0)),(6,(zo 1 0)),(7,(zo 2 0)),(13,(zs markT l)),(14,(zv (↑l.length:Int))),(15,(zv (zw ((↑i:Int) + (1:Int)))))],h:=[(zc [(zv (ptR p)),(zv (ptC p))]),(zc [(zv 0),(zv 0),(zv 0),(zv 0)]),(zc [(zv (mR (Ty.nth markT l (Int.toNat (↑i:Int))))),(zv (mC (Ty.nth markT l (Int.toNat (↑i:Int))))),(zv (mK (Ty.nth markT l (Int.toNat (↑i:Int))))),(zv (mA (Ty.nth markT l (Int.toNat (↑i:Int)))))])],og:=[] }) 12 [(1,bt),(2,.v (V.d (D.ref (List.flatMap (Ty.enc markT) l) ((Int.toNat (↑i:Int)) * 4)))),(3,.v (V.d (D.agg [(zi (mR (Ty.nth markT l (Int.toNat (↑i:Int))))),(zi (mC (Ty.nth markT l (Int.toNat (↑i:Int))))),(zi (mK (Ty.nth markT l (Int.toNat (↑i:Int))))),(zi (mA (Ty.nth markT l (Int.toNat (↑i:Int)))))]))),(10,bf),(11,bf),(12,bf),(14,bf),(15,bf),(17,bf),(19,bf),(20,bf),(21,bf),(22,bf),(23,bf),(24,bf),(25,bf),(26,bf),(27,bf),(28,bf)] (cP h1 (cP h2 (cP h1 (cP h2 (cP h2 (cP h2 (cP h2 (cP h2 (cP h2 (cP h1 (cP h1 (cP h1 (cP h1 (cP h1 (cP h1 (cP h1 (cP (@loadMarkF (l) ([(zc [(zv (ptR p)),(zv (ptC p))]),(zc [(zv 0),(zv 0),(zv 0),(zv 0)]),(zc [(zv (mR b)),(zv (mC b)),(zv (mK b)),(zv (mA b))])]) (Int.toNat (↑i:Int)) (by omega)) (cP (@iaddrMark (l) ((↑i:Int)) (by omega) (by omega)) (cP h0 nilE))))))))))))))))))) (by kernel_rfl)).to (by simp (disch:=omega) [wrapId, *])
theorem pkA1 (l:List Mark) (p:Point) (b:Mark) (i:Nat) (hl:l.length < 100000000) (hi:i < l.length) (hm:mR (markT.nth l i) < ptR p∨(mR (markT.nth l i) = ptR p∧mC (markT.nth l i) < ptC p)):RdC X0 0 (ntOf X0 FPk) (lpKeep X0 FPk 0) (lpBody X0 FPk 0) 3 (stPk fAh l p b i) (stPk fAh l p b (i + 1)):=by
 have h0:(decide ((↑i:Int) < (↑l.length:Int))) = true:=by (((try simp only [eq_self,and_true,true_and,Bool.and_true,Bool.true_and,Bool.not_eq_true',Bool.not_eq_false',Bool.and_eq_true,Bool.and_eq_false_iff,decide_eq_true_eq,decide_eq_false_iff_not,beq_iff_eq,beq_eq_false_iff_ne,bne_iff_ne,bne_eq_false_iff_eq,ne_eq,not_and,Int.toNat_natCast] at *);(try simp only [Row.cells,Row.wrapped,Row.end_,Cell.kind,Cell.at] at *);(try simp (disch:=omega) only [wrapId,toNatAdd,toNatSucc,isAt,reduceCtorEq,or_false,and_true,Bool.and_true,Bool.and_eq_true,Bool.and_eq_false_iff,beq_iff_eq,beq_eq_false_iff_ne,ne_eq,Int.toNat_natCast] at *)) <;> first | omega | assumption | (refine ⟨?_,?_⟩ <;> assumption))
 rcases Bool.eq_false_or_eq_true (decide ((mR (Ty.nth markT l (Int.toNat (↑i:Int)))) < (ptR p))) with h1 | h1
 ·exact (pC (st':={ s:=[(2,(V.d (D.fn 38))),(4,(zo 0 0)),(6,(zo 1 0)),(7,(zo 2 0)),(13,(zs markT l)),(14,(zv (↑l.length:Int))),(15,(zv (zw ((↑i:Int) + (1:Int)))))],h:=[(zc [(zv (ptR p)),(zv (ptC p))]),(zc [(zv 0),(zv 0),(zv 0),(zv 0)]),(zc [(zv (mR b)),(zv (mC b)),(zv (mK b)),(zv (mA b))])],og:=[] }) 12 [(1,bt),(2,.v (V.d (D.ref (List.flatMap (Ty.enc markT) l) ((Int.toNat (↑i:Int)) * 4)))),(3,.v (V.d (D.agg [(zi (mR (Ty.nth markT l (Int.toNat (↑i:Int))))),(zi (mC (Ty.nth markT l (Int.toNat (↑i:Int))))),(zi (mK (Ty.nth markT l (Int.toNat (↑i:Int))))),(zi (mA (Ty.nth markT l (Int.toNat (↑i:Int)))))]))),(10,bt),(11,bt),(12,bt),(13,bt),(14,bt),(15,bt),(16,bt),(17,bt),(18,bt)] (cP h1 (cP h1 (cP h1 (cP h1 (cP h1 (cP h1 (cP h1 (cP h1 (cP h1 (cP (@loadMarkF (l) ([(zc [(zv (ptR p)),(zv (ptC p))]),(zc [(zv 0),(zv 0),(zv 0),(zv 0)]),(zc [(zv (mR b)),(zv (mC b)),(zv (mK b)),(zv (mA b))])]) (Int.toNat (↑i:Int)) (by omega)) (cP (@iaddrMark (l) ((↑i:Int)) (by omega) (by omega)) (cP h0 nilE)))))))))))) (by kernel_rfl)).to (by simp (disch:=omega) [wrapId, *])
 ·have h2:((mR (Ty.nth markT l (Int.toNat (↑i:Int)))) == (ptR p)) = true:=by (((try simp only [eq_self,and_true,true_and,Bool.and_true,Bool.true_and,Bool.not_eq_true',Bool.not_eq_false',Bool.and_eq_true,Bool.and_eq_false_iff,decide_eq_true_eq,decide_eq_false_iff_not,beq_iff_eq,beq_eq_false_iff_ne,bne_iff_ne,bne_eq_false_iff_eq,ne_eq,not_and,Int.toNat_natCast] at *);(try simp only [Row.cells,Row.wrapped,Row.end_,Cell.kind,Cell.at] at *);(try simp (disch:=omega) only [wrapId,toNatAdd,toNatSucc,isAt,reduceCtorEq,or_false,and_true,Bool.and_true,Bool.and_eq_true,Bool.and_eq_false_iff,beq_iff_eq,beq_eq_false_iff_ne,ne_eq,Int.toNat_natCast] at *)) <;> first | omega | assumption | (refine ⟨?_,?_⟩ <;> assumption))
  have h3:(!(decide ((mC (Ty.nth markT l (Int.toNat (↑i:Int)))) < (ptC p)))) = false:=by (((try simp only [eq_self,and_true,true_and,Bool.and_true,Bool.true_and,Bool.not_eq_true',Bool.not_eq_false',Bool.and_eq_true,Bool.and_eq_false_iff,decide_eq_true_eq,decide_eq_false_iff_not,beq_iff_eq,beq_eq_false_iff_ne,bne_iff_ne,bne_eq_false_iff_eq,ne_eq,not_and,Int.toNat_natCast] at *);(try simp only [Row.cells,Row.wrapped,Row.end_,Cell.kind,Cell.at] at *);(try simp (disch:=omega) only [wrapId,toNatAdd,toNatSucc,isAt,reduceCtorEq,or_false,and_true,Bool.and_true,Bool.and_eq_true,Bool.and_eq_false_iff,beq_iff_eq,beq_eq_false_iff_ne,ne_eq,Int.toNat_natCast] at *)) <;> first | omega | assumption | (refine ⟨?_,?_⟩ <;> assumption))
  exact (pC (st':={ s:=[(2,(V.d (D.fn 38))),(4,(zo 0 0)),(6,(zo 1 0)),(7,(zo 2 0)),(13,(zs markT l)),(14,(zv (↑l.length:Int))),(15,(zv (zw ((↑i:Int) + (1:Int)))))],h:=[(zc [(zv (ptR p)),(zv (ptC p))]),(zc [(zv 0),(zv 0),(zv 0),(zv 0)]),(zc [(zv (mR b)),(zv (mC b)),(zv (mK b)),(zv (mA b))])],og:=[] }) 12 [(1,bt),(2,.v (V.d (D.ref (List.flatMap (Ty.enc markT) l) ((Int.toNat (↑i:Int)) * 4)))),(3,.v (V.d (D.agg [(zi (mR (Ty.nth markT l (Int.toNat (↑i:Int))))),(zi (mC (Ty.nth markT l (Int.toNat (↑i:Int))))),(zi (mK (Ty.nth markT l (Int.toNat (↑i:Int))))),(zi (mA (Ty.nth markT l (Int.toNat (↑i:Int)))))]))),(10,bf),(11,bf),(12,bf),(14,bf),(15,bf),(17,bf),(19,bf),(20,bt),(21,bt),(22,bt),(24,bt),(25,bt),(27,bt),(29,bf),(30,bt),(31,bf),(32,bf)] (cP h3 (cP h1 (cP h2 (cP h1 (cP h2 (cP h2 (cP h2 (cP h2 (cP h2 (cP h2 (cP h1 (cP h1 (cP h1 (cP h1 (cP h1 (cP h1 (cP h1 (cP (@loadMarkF (l) ([(zc [(zv (ptR p)),(zv (ptC p))]),(zc [(zv 0),(zv 0),(zv 0),(zv 0)]),(zc [(zv (mR b)),(zv (mC b)),(zv (mK b)),(zv (mA b))])]) (Int.toNat (↑i:Int)) (by omega)) (cP (@iaddrMark (l) ((↑i:Int)) (by omega) (by omega)) (cP h0 nilE)))))))))))))))))))) (by kernel_rfl)).to (by simp (disch:=omega) [wrapId, *])
theorem pkA2 (l:List Mark) (p:Point) (b:Mark) (i:Nat) (hl:l.length < 100000000) (hi:i < l.length) (hm:¬ (mR (markT.nth l i) < ptR p∨(mR (markT.nth l i) = ptR p∧mC (markT.nth l i) < ptC p))):RdC X0 0 (ntOf X0 FPk) (lpKeep X0 FPk 0) (lpBody X0 FPk 0) 3 (stPk fAh l p b i) (stPk fAh l p (markT.nth l i) (i + 1)):=by
 have h0:(decide ((↑i:Int) < (↑l.length:Int))) = true:=by (((try simp only [eq_self,and_true,true_and,Bool.and_true,Bool.true_and,Bool.not_eq_true',Bool.not_eq_false',Bool.and_eq_true,Bool.and_eq_false_iff,decide_eq_true_eq,decide_eq_false_iff_not,beq_iff_eq,beq_eq_false_iff_ne,bne_iff_ne,bne_eq_false_iff_eq,ne_eq,not_and,Int.toNat_natCast] at *);(try simp only [Row.cells,Row.wrapped,Row.end_,Cell.kind,Cell.at] at *);(try simp (disch:=omega) only [wrapId,toNatAdd,toNatSucc,isAt,reduceCtorEq,or_false,and_true,Bool.and_true,Bool.and_eq_true,Bool.and_eq_false_iff,beq_iff_eq,beq_eq_false_iff_ne,ne_eq,Int.toNat_natCast] at *)) <;> first | omega | assumption | (refine ⟨?_,?_⟩ <;> assumption))
 have h1:(decide ((mR (Ty.nth markT l (Int.toNat (↑i:Int)))) < (ptR p))) = false:=by (((try simp only [eq_self,and_true,true_and,Bool.and_true,Bool.true_and,Bool.not_eq_true',Bool.not_eq_false',Bool.and_eq_true,Bool.and_eq_false_iff,decide_eq_true_eq,decide_eq_false_iff_not,beq_iff_eq,beq_eq_false_iff_ne,bne_iff_ne,bne_eq_false_iff_eq,ne_eq,not_and,Int.toNat_natCast] at *);(try simp only [Row.cells,Row.wrapped,Row.end_,Cell.kind,Cell.at] at *);(try simp (disch:=omega) only [wrapId,toNatAdd,toNatSucc,isAt,reduceCtorEq,or_false,and_true,Bool.and_true,Bool.and_eq_true,Bool.and_eq_false_iff,beq_iff_eq,beq_eq_false_iff_ne,ne_eq,Int.toNat_natCast] at *)) <;> first | omega | assumption | (refine ⟨?_,?_⟩ <;> assumption))
 rcases Bool.eq_false_or_eq_true ((mR (Ty.nth markT l (Int.toNat (↑i:Int)))) == (ptR p)) with h2 | h2
 ·have h3:(!(decide ((mC (Ty.nth markT l (Int.toNat (↑i:Int)))) < (ptC p)))) = true:=by (((try simp only [eq_self,and_true,true_and,Bool.and_true,Bool.true_and,Bool.not_eq_true',Bool.not_eq_false',Bool.and_eq_true,Bool.and_eq_false_iff,decide_eq_true_eq,decide_eq_false_iff_not,beq_iff_eq,beq_eq_false_iff_ne,bne_iff_ne,bne_eq_false_iff_eq,ne_eq,not_and,Int.toNat_natCast] at *);(try simp only [Row.cells,Row.wrapped,Row.end_,Cell.kind,Cell.at] at *);(try simp (disch:=omega) only [wrapId,toNatAdd,toNatSucc,isAt,reduceCtorEq,or_false,and_true,Bool.and_true,Bool.and_eq_true,Bool.and_eq_false_iff,beq_iff_eq,beq_eq_false_iff_ne,ne_eq,Int.toNat_natCast] at *)) <;> first | omega | assumption | (refine ⟨?_,?_⟩ <;> assumption))
  exact (pC (st':={ s:=[(2,(V.d (D.fn 38))),(4,(zo 0 0)),(6,(zo 1 0)),(7,(zo 2 0)),(13,(zs markT l)),(14,(zv (↑l.length:Int))),(15,(zv (zw ((↑i:Int) + (1:Int)))))],h:=[(zc [(zv (ptR p)),(zv (ptC p))]),(zc [(zv 0),(zv 0),(zv 0),(zv 0)]),(zc [(zv (mR (Ty.nth markT l (Int.toNat (↑i:Int))))),(zv (mC (Ty.nth markT l (Int.toNat (↑i:Int))))),(zv (mK (Ty.nth markT l (Int.toNat (↑i:Int))))),(zv (mA (Ty.nth markT l (Int.toNat (↑i:Int)))))])],og:=[] }) 12 [(1,bt),(2,.v (V.d (D.ref (List.flatMap (Ty.enc markT) l) ((Int.toNat (↑i:Int)) * 4)))),(3,.v (V.d (D.agg [(zi (mR (Ty.nth markT l (Int.toNat (↑i:Int))))),(zi (mC (Ty.nth markT l (Int.toNat (↑i:Int))))),(zi (mK (Ty.nth markT l (Int.toNat (↑i:Int))))),(zi (mA (Ty.nth markT l (Int.toNat (↑i:Int)))))]))),(10,bf),(11,bf),(12,bf),(14,bf),(15,bf),(17,bf),(19,bf),(20,bt),(21,bt),(22,bt),(24,bt),(25,bt),(27,bt),(29,bf),(30,bt),(31,bf),(32,bt)] (cP h3 (cP h1 (cP h2 (cP h1 (cP h2 (cP h2 (cP h2 (cP h2 (cP h2 (cP h2 (cP h1 (cP h1 (cP h1 (cP h1 (cP h1 (cP h1 (cP h1 (cP (@loadMarkF (l) ([(zc [(zv (ptR p)),(zv (ptC p))]),(zc [(zv 0),(zv 0),(zv 0),(zv 0)]),(zc [(zv (mR b)),(zv (mC b)),(zv (mK b)),(zv (mA b))])]) (Int.toNat (↑i:Int)) (by omega)) (cP (@iaddrMark (l) ((↑i:Int)) (by omega) (by omega)) (cP h0 nilE)))))))))))))))))))) (by kernel_rfl)).to (by simp (disch:=omega) [wrapId, *])
 ·exact (pC (st':={ s:=[(2,(V.d (D.fn 38))),(4,(zo 0 0)),(6,(zo 1 0)),(7,(zo 2 0)),(13,(zs markT l)),(14,(zv (↑l.length:Int))),(15,(zv (zw ((↑i:Int) + (1:Int)))))],h:=[(zc [(zv (ptR p)),(zv (ptC p))]),(zc [(zv 0),(zv 0),(zv 0),(zv 0)]),(zc [(zv (mR (Ty.nth markT l (Int.toNat (↑i:Int))))),(zv (mC (Ty.nth markT l (Int.toNat (↑i:Int))))),(zv (mK (Ty.nth markT l (Int.toNat (↑i:Int))))),(zv (mA (Ty.nth markT l (Int.toNat (↑i:Int)))))])],og:=[] }) 12 [(1,bt),(2,.v (V.d (D.ref (List.flatMap (Ty.enc markT) l) ((Int.toNat (↑i:Int)) * 4)))),(3,.v (V.d (D.agg [(zi (mR (Ty.nth markT l (Int.toNat (↑i:Int))))),(zi (mC (Ty.nth markT l (Int.toNat (↑i:Int))))),(zi (mK (Ty.nth markT l (Int.toNat (↑i:Int))))),(zi (mA (Ty.nth markT l (Int.toNat (↑i:Int)))))]))),(10,bf),(11,bf),(12,bf),(14,bf),(15,bf),(17,bf),(19,bf),(20,bf),(21,bf),(22,bf),(23,bf),(24,bf),(25,bf),(26,bf),(27,bf),(28,bf)] (cP h1 (cP h2 (cP h1 (cP h2 (cP h2 (cP h2 (cP h2 (cP h2 (cP h2 (cP h1 (cP h1 (cP h1 (cP h1 (cP h1 (cP h1 (cP h1 (cP (@loadMarkF (l) ([(zc [(zv (ptR p)),(zv (ptC p))]),(zc [(zv 0),(zv 0),(zv 0),(zv 0)]),(zc [(zv (mR b)),(zv (mC b)),(zv (mK b)),(zv (mA b))])]) (Int.toNat (↑i:Int)) (by omega)) (cP (@iaddrMark (l) ((↑i:Int)) (by omega) (by omega)) (cP h0 nilE))))))))))))))))))) (by kernel_rfl)).to (by simp (disch:=omega) [wrapId, *])
theorem pkBE (l:List Mark) (p:Point) (b:Mark):Rd X0 0 (ntOf X0 FPk) (lpBody X0 FPk 0) (stPk fBh l p b l.length) (.exit 0,stPkx fBh l p b l.length):=by
 have h0:(decide ((↑l.length:Int) < (↑l.length:Int))) = false:=by (((try simp only [eq_self,and_true,true_and,Bool.and_true,Bool.true_and,Bool.not_eq_true',Bool.not_eq_false',Bool.and_eq_true,Bool.and_eq_false_iff,decide_eq_true_eq,decide_eq_false_iff_not,beq_iff_eq,beq_eq_false_iff_ne,bne_iff_ne,bne_eq_false_iff_eq,ne_eq,not_and,Int.toNat_natCast] at *);(try simp only [Row.cells,Row.wrapped,Row.end_,Cell.kind,Cell.at] at *);(try simp (disch:=omega) only [wrapId,toNatAdd,toNatSucc,isAt,reduceCtorEq,or_false,and_true,Bool.and_true,Bool.and_eq_true,Bool.and_eq_false_iff,beq_iff_eq,beq_eq_false_iff_ne,ne_eq,Int.toNat_natCast] at *)) <;> first | omega | assumption | (refine ⟨?_,?_⟩ <;> assumption))
 exact (pR (r:=((Ex.exit 0),{ s:=[(2,(V.d (D.fn 36))),(4,(zo 0 0)),(6,(zo 1 0)),(7,(zo 2 0)),(13,(zs markT l)),(14,(zv (↑l.length:Int))),(15,(zv (↑l.length:Int))),(16,(zb (decide ((↑l.length:Int) < (↑l.length:Int)))))],h:=[(zc [(zv (ptR p)),(zv (ptC p))]),(zc [(zv 0),(zv 0),(zv 0),(zv 0)]),(zc [(zv (mR b)),(zv (mC b)),(zv (mK b)),(zv (mA b))])],og:=[] })) 12 [(1,bf)] (cP h0 nilE) (by kernel_rfl)).to (by simp (disch:=omega) [wrapId, *])
theorem pkAE (l:List Mark) (p:Point) (b:Mark):Rd X0 0 (ntOf X0 FPk) (lpBody X0 FPk 0) (stPk fAh l p b l.length) (.exit 0,stPkx fAh l p b l.length):=by
 have h0:(decide ((↑l.length:Int) < (↑l.length:Int))) = false:=by (((try simp only [eq_self,and_true,true_and,Bool.and_true,Bool.true_and,Bool.not_eq_true',Bool.not_eq_false',Bool.and_eq_true,Bool.and_eq_false_iff,decide_eq_true_eq,decide_eq_false_iff_not,beq_iff_eq,beq_eq_false_iff_ne,bne_iff_ne,bne_eq_false_iff_eq,ne_eq,not_and,Int.toNat_natCast] at *);(try simp only [Row.cells,Row.wrapped,Row.end_,Cell.kind,Cell.at] at *);(try simp (disch:=omega) only [wrapId,toNatAdd,toNatSucc,isAt,reduceCtorEq,or_false,and_true,Bool.and_true,Bool.and_eq_true,Bool.and_eq_false_iff,beq_iff_eq,beq_eq_false_iff_ne,ne_eq,Int.toNat_natCast] at *)) <;> first | omega | assumption | (refine ⟨?_,?_⟩ <;> assumption))
 exact (pR (r:=((Ex.exit 0),{ s:=[(2,(V.d (D.fn 38))),(4,(zo 0 0)),(6,(zo 1 0)),(7,(zo 2 0)),(13,(zs markT l)),(14,(zv (↑l.length:Int))),(15,(zv (↑l.length:Int))),(16,(zb (decide ((↑l.length:Int) < (↑l.length:Int)))))],h:=[(zc [(zv (ptR p)),(zv (ptC p))]),(zc [(zv 0),(zv 0),(zv 0),(zv 0)]),(zc [(zv (mR b)),(zv (mC b)),(zv (mK b)),(zv (mA b))])],og:=[] })) 12 [(1,bf)] (cP h0 nilE) (by kernel_rfl)).to (by simp (disch:=omega) [wrapId, *])
def pkB (l:List Mark) (p:Point):Nat→Nat→Mark→Mark
 | 0,_,b=>b
 | f + 1,i,b=>pkB l p f (i + 1) (if isBh (markT.nth l i) p then b else markT.nth l i)
def pkA (l:List Mark) (p:Point):Nat→Nat→Mark→Mark
 | 0,_,b=>b
 | f + 1,i,b=>pkA l p f (i + 1) (if isAh (markT.nth l i) p then b else markT.nth l i)
theorem pkBC (l:List Mark) (p:Point) (hl:l.length < 100000000):∀ f i b m,f + i = l.length→f < m→LpC X0 0 (ntOf X0 FPk) (lpKeep X0 FPk 0) (lpBody X0 FPk 0) 3 m (stPk fBh l p b i) (.exit 0,stPkx fBh l p (pkB l p f i b) l.length):=by
 intro f
 induction f with
 | zero =>
  intro i b m hi hm
  obtain ⟨m,rfl⟩:∃ x,m = x + 1:=⟨m - 1,by omega⟩
  obtain rfl:i = l.length:=by omega
  exact LpC.last (pkBE l p b) (by simp)
 | succ f ih =>
  intro i b m hi hm
  obtain ⟨m,rfl⟩:∃ x,m = x + 1:=⟨m - 1,by omega⟩
  simp only [pkB]
  by_cases h:isBh (markT.nth l i) p
  ·rw [if_pos h]
   exact LpC.next (pkB1 l p b i hl (by omega) h) (ih (i + 1) b m (by omega) (by omega))
  ·rw [if_neg h]
   exact LpC.next (pkB2 l p b i hl (by omega) h) (ih (i + 1) _ m (by omega) (by omega))
theorem pkAC (l:List Mark) (p:Point) (hl:l.length < 100000000):∀ f i b m,f + i = l.length→f < m→LpC X0 0 (ntOf X0 FPk) (lpKeep X0 FPk 0) (lpBody X0 FPk 0) 3 m (stPk fAh l p b i) (.exit 0,stPkx fAh l p (pkA l p f i b) l.length):=by
 intro f
 induction f with
 | zero =>
  intro i b m hi hm
  obtain ⟨m,rfl⟩:∃ x,m = x + 1:=⟨m - 1,by omega⟩
  obtain rfl:i = l.length:=by omega
  exact LpC.last (pkAE l p b) (by simp)
 | succ f ih =>
  intro i b m hi hm
  obtain ⟨m,rfl⟩:∃ x,m = x + 1:=⟨m - 1,by omega⟩
  simp only [pkA]
  by_cases h:isAh (markT.nth l i) p
  ·rw [if_pos h]
   exact LpC.next (pkA1 l p b i hl (by omega) h) (ih (i + 1) b m (by omega) (by omega))
  ·rw [if_neg h]
   exact LpC.next (pkA2 l p b i hl (by omega) h) (ih (i + 1) _ m (by omega) (by omega))
def pickBm (l:List Mark) (p:Point):Mark:=pkB l p l.length 0 (markT.nth l 0)
def pickAm (l:List Mark) (p:Point):Mark:=pkA l p l.length 0 (markT.nth l 0)
theorem pkBL:∀ (l:List Mark) (p:Point) (hl:l.length < 100000000),Lp X0 0 (ntOf X0 FPk) (lpKeep X0 FPk 0) (lpBody X0 FPk 0) 3 FUEL (stPk fBh l p (markT.nth l 0) 0) (.exit 0,stPkx fBh l p (pickBm l p) l.length):=fun l p hl=>LpC.start (m:=1152921504606846975) (pkBC l p hl l.length 0 _ _ (by omega) (by omega)) (by kernel_rfl)
theorem pkAL:∀ (l:List Mark) (p:Point) (hl:l.length < 100000000),Lp X0 0 (ntOf X0 FPk) (lpKeep X0 FPk 0) (lpBody X0 FPk 0) 3 FUEL (stPk fAh l p (markT.nth l 0) 0) (.exit 0,stPkx fAh l p (pickAm l p) l.length):=fun l p hl=>LpC.start (m:=1152921504606846975) (pkAC l p hl l.length 0 _ _ (by omega) (by omega)) (by kernel_rfl)
abbrev ptD (p:Point):D:=.agg [.int .i64 (ptR p),.int .i64 (ptC p)]
abbrev mkD (m:Mark):D:=.agg [.int .i64 (mR m),.int .i64 (mC m),.int .i64 (mK m),.int .i64 (mA m)]
theorem loadMark0:∀ (l:List Mark) (h:List Ob) (hk:1≤l.length),loadV X0 h 77 (.d (.ref (l.flatMap markT.enc) 0)) = some (.d (mkD (markT.nth l 0))):=fun l h hk=>loadMarkF l h 0 (by omega)
abbrev FCl:Nat := 23
theorem pickB (l:List Mark) (p:Point) (hp:1≤l.length) (hl:l.length < 100000000):Ans X0 FPk [.d (markT.slD l),.d (ptD p),.d (.fn fBh)] (.d (mkD (pickBm l p))):=by
 exact pV 12 [(0,.v (V.d (D.ref (List.flatMap (Ty.enc markT) l) ((Int.toNat (0:Int)) * 4)))),(1,.v (V.d (mkD (Ty.nth markT l 0)))),(3,.l (Ex.exit 0) (stPkx fBh l p (pickBm l p) l.length))] (cE (@pkBL (l) (p) hl) (cP (@loadMark0 (l) ([(zc [(zv (ptR p)),(zv (ptC p))]),(zc [(zv 0),(zv 0),(zv 0),(zv 0)])]) hp) (cP (@iaddrMark (l) ((0:Int)) (by omega) (by omega)) nilE))) (by kernel_rfl) rfl rfl
theorem pickA (l:List Mark) (p:Point) (hp:1≤l.length) (hl:l.length < 100000000):Ans X0 FPk [.d (markT.slD l),.d (ptD p),.d (.fn fAh)] (.d (mkD (pickAm l p))):=by
 exact pV 12 [(0,.v (V.d (D.ref (List.flatMap (Ty.enc markT) l) ((Int.toNat (0:Int)) * 4)))),(1,.v (V.d (mkD (Ty.nth markT l 0)))),(3,.l (Ex.exit 0) (stPkx fAh l p (pickAm l p) l.length))] (cE (@pkAL (l) (p) hl) (cP (@loadMark0 (l) ([(zc [(zv (ptR p)),(zv (ptC p))]),(zc [(zv 0),(zv 0),(zv 0),(zv 0)])]) hp) (cP (@iaddrMark (l) ((0:Int)) (by omega) (by omega)) nilE))) (by kernel_rfl) rfl rfl
theorem clip0 (rows:List Row) (p:Point) (hs:smallR rows) (hr:1≤rows.length) (hr2:rows.length≤10000000) (hm:1≤(allMarks rows).length) (hl:(allMarks rows).length < 100000000):Ans X0 FCl [.d (rowT.slD rows),.d (ptD p),.d (.int .i64 0)] (.d (.tup [.agg [.int .i64 (mR (pickBm (allMarks rows) p)),.int .i64 (mC (pickBm (allMarks rows) p))],.int .i64 0])):=by
 have h0:((↑rows.length:Int) == (0:Int)) = false:=by (((try simp only [eq_self,and_true,true_and,Bool.and_true,Bool.true_and,Bool.not_eq_true',Bool.not_eq_false',Bool.and_eq_true,Bool.and_eq_false_iff,decide_eq_true_eq,decide_eq_false_iff_not,beq_iff_eq,beq_eq_false_iff_ne,bne_iff_ne,bne_eq_false_iff_eq,ne_eq,not_and,Int.toNat_natCast] at *);(try simp only [Row.cells,Row.wrapped,Row.end_,Cell.kind,Cell.at] at *);(try simp (disch:=omega) only [wrapId,toNatAdd,toNatSucc,isAt,reduceCtorEq,or_false,and_true,Bool.and_true,Bool.and_eq_true,Bool.and_eq_false_iff,beq_iff_eq,beq_eq_false_iff_ne,ne_eq,Int.toNat_natCast] at *)) <;> first | omega | assumption | (refine ⟨?_,?_⟩ <;> assumption))
 exact pV 12 [(2,bf),(9,.v (V.d (Ty.slD markT (allMarks rows)))),(13,.v (V.d (mkD (pickBm (allMarks rows) p))))] (cC (@pickB (allMarks rows) (p) hm hl) (cC (@marks (rows) hs) (cP h0 nilE))) (by kernel_rfl) rfl rfl
end Go.Proofs.Ytaobccodpdmieaa.Points
namespace Go.Proofs.Ytaobccodpdmieaa.Pv.G
open Go Pv
theorem Ans.uniq {X:Ctx} {f:FuncId} {a:List V} {v u:V} (h:Ans X f a v) (k:Ans X f a u):v = u:=by
 obtain ⟨K,h⟩:=h
 obtain ⟨L,k⟩:=k
 have h1:=h (K + L) (by omega)
 have h2:=k (K + L) (by omega)
 exact Option.some.inj (h1.symm.trans h2)
open Classical in
noncomputable def upF (X:Ctx) (f:FuncId) (ds:List D):Option V :=
 if h:∃ y:V,y.pure = true∧Ans X f (ds.map V.d) y then some (Classical.choose h) else none
noncomputable def up (X:Ctx) (off:FuncId→Bool) (extra:FuncId→Option (List D→Option V)):Ctx :=
 ⟨X.P,X.glob,fun f=>if off f = true then none else match extra f with
  | some F=>some F
  | none=>some (upF X f),fun _=>false,X.ints,fun _=>none,X.own⟩
theorem toDs_map (ds:List D):toDs (ds.map V.d) = some ds:=by
 induction ds with
 | nil=>rfl
 | cons d ds ih=>simp only [List.map_cons,toDs,V.toD,ih]
theorem pure_map (ds:List D):(ds.map V.d).all V.pure = true:=by
 induction ds with
 | nil=>rfl
 | cons d ds ih=>simp only [List.map_cons,List.all_cons,ih];rfl
theorem ansOfExt {X:Ctx} {f:FuncId} {F:List D→Option V} {ds:List D} {v:V} (hF:X.ext f = some F) (hv:F ds = some v) (hp:v.pure = true):Ans X f (ds.map V.d) v :=
 ⟨1,fun k hk=>by
  obtain ⟨k,rfl⟩:∃ x,k = x + 1:=⟨k - 1,by omega⟩
  show (match runP X (callN X FUEL k) FUEL f (ds.map V.d) with | some (v,_)=>if v.pure then some v else none | none=>none) = some v
  unfold runP
  rw [hF]
  simp only [toDs_map,hv,Option.map_some,hp,if_true]⟩
theorem ansUp {X:Ctx} {off:FuncId→Bool} {extra:FuncId→Option (List D→Option V)} {f:FuncId} {ds:List D} {v:V} (ho:off f = false) (he:extra f = none) (hv:v.pure = true) (h:Ans X f (ds.map V.d) v):Ans (up X off extra) f (ds.map V.d) v:=by
 refine ansOfExt (F:=upF X f) ?_ ?_ hv
 ·simp only [up,ho,he,Bool.false_eq_true,if_false]
 ·unfold upF
  have hx:∃ y:V,y.pure = true∧Ans X f (ds.map V.d) y:=⟨v,hv,h⟩
  rw [dif_pos hx,(Classical.choose_spec hx).2.uniq h]
theorem RepV.ctx {X Y:Ctx} (hP:X.P = Y.P) {w:World} {g:Gh} {p:Own} {v:Value} {x:V} (r:RepV X w g p v x):RepV Y w g p v x:=by
 induction r with
 | d p v x r=>exact .d p v x r
 | tail p E cells n b c cur z vals hz hz0 hb hn hm hcur hcl he ho hp hv hr=>exact .tail p E cells n b c cur z vals (by rw [← hP];exact hz) hz0 hb hn hm hcur hcl he ho hp hv hr
 | tail0 p E=>exact .tail0 p E
 | full p b o cells n r=>exact .full p b o cells n r
 | obj p id off b r=>exact .obj p id off b r
 | osl p id off n c b r hn=>exact .osl p id off n c b r hn
 | clo p fn va vb a b hla hlb _ _ iha ihb=>exact .clo p fn va vb a b hla hlb iha ihb
 | agg p vals vs hl _ ih=>exact .agg p vals vs hl ih
 | tup p vals vs hl _ ih=>exact .tup p vals vs hl ih
 | mp p id b r=>exact .mp p id b r
 | it p id b r=>exact .it p id b r
theorem iaddrV_ctx {X Y:Ctx} (h:X.P = Y.P) (t:TypeId) (x i:V):iaddrV X t x i = iaddrV Y t x i:=by
 unfold iaddrV indexAddrOp
 rw [h]
theorem loadV_ctx {X Y:Ctx} (h:X.P = Y.P) (hp:List Ob) (t:TypeId) (p:V):loadV X hp t p = loadV Y hp t p:=by
 unfold loadV loadOp
 rw [h]
theorem binV_ctx {X Y:Ctx} (h:X.P = Y.P) (op:BinOp) (t:TypeId) (x y:V):binV X op t x y = binV Y op t x y:=by
 unfold binV valOp
 simp only
 unfold pureOp
 rw [h]
theorem ptv_of {X:Ctx} {w:World} {g:Gh} {vals:List Value} {ds:List D} (h:PtD w g.e vals ds):PtV X w g vals (ds.map V.d):=by
 refine ⟨by simp [h.1],fun j v x h1 h2=>?_⟩
 rw [List.getElem?_map] at h2
 cases hd:ds[j]? with
 | none=>rw [hd] at h2;cases h2
 | some d=>rw [hd] at h2;cases h2;exact .d _ _ _ (h.2 j v d h1 hd)
def ExtOk1 (X:Ctx) (f:FuncId) (F:List D→Option V):Prop :=
 ∀ ds y,F ds = some y→∀ (w:World) (g:Gh) (vargs:List Value),Fresh g w→GlobOk X w g→PtD w g.e vargs ds→∀ p,IsPos p →
  ∃ fn,X.P.funcs[f]? = some fn∧(fn.name == "runtime.NumGoroutine") = false∧((∃ c,fn.body = some c)∧Calls X.P f ⟨vargs⟩ w fun E w' => ∃ v g',E = .returned v∧Keep g w g' w' ∧ RepV X w' g' p v y)
theorem extOk_up {X:Ctx} {off:FuncId→Bool} {extra:FuncId→Option (List D→Option V)} (hfz:∀ t,X.frz t = X.frz t) (hx:ExtOk X) (hxp:ExtPure X) (hxi:ExtIOk X) (he:∀ f F,extra f = some F→ExtOk1 X f F):ExtOk (up X off extra):=by
 intro f F hF ds y hy w g vargs hf hg hp p hpos
 have hg':GlobOk X w g:=hg
 simp only [up] at hF
 split at hF
 ·cases hF
 ·split at hF
  ·rename_i F' hF'
   cases hF
   obtain ⟨fn,k1,k2,k3,k4⟩:=he f _ hF' ds y hy w g vargs hf hg' hp p hpos
   exact ⟨fn,k1,k2,k3,k4.mono fun E w' ⟨v,g',a,b,c⟩=>⟨v,g',a,b,RepV.ctx (X:=X) (Y:=up X off extra) rfl c⟩⟩
  ·cases hF
   unfold upF at hy
   split at hy
   ·rename_i h
    cases hy
    obtain ⟨h1,K,h2⟩:=Classical.choose_spec h
    obtain ⟨fn,k1,k2,k3,k4⟩:=(callN_ok hfz hx hxp hxi FUEL K).1 f (ds.map V.d) _ (h2 K (Nat.le_refl K)) (pure_map ds) w g vargs hf hg' (ptv_of hp) p hpos
    exact ⟨fn,k1,k2,k3,k4.mono fun E w' ⟨v,g',a,b,c⟩=>⟨v,g',a,b,RepV.ctx (X:=X) (Y:=up X off extra) rfl c⟩⟩
   ·cases hy
theorem extPure_up {X:Ctx} {off:FuncId→Bool} {extra:FuncId→Option (List D→Option V)} (he:∀ f F,extra f = some F→∀ ds y,F ds = some y→y.pure = true):ExtPure (up X off extra):=by
 intro f F hF ds y hy
 simp only [up] at hF
 split at hF
 ·cases hF
 ·split at hF
  ·rename_i F' hF'
   cases hF
   exact he f _ hF' ds y hy
  ·cases hF
   unfold upF at hy
   split at hy
   ·rename_i h
    cases hy
    exact (Classical.choose_spec h).1
   ·cases hy
theorem extIOk_up {X:Ctx} {off:FuncId→Bool} {extra:FuncId→Option (List D→Option V)}:ExtIOk (up X off extra):=fun f F h=>by cases h
end Go.Proofs.Ytaobccodpdmieaa.Pv.G
namespace Go.Proofs.Ytaobccodpdmieaa.Points
open Go Pv G
theorem nth_rev (l:List Mark) (i:Nat) (hi:i < l.length):markT.nth l.reverse i = markT.nth l (l.length - 1 - i):=by
 unfold Ty.nth
 rw [List.getD_eq_getElem?_getD,List.getD_eq_getElem?_getD,List.getElem?_reverse hi]
def fst (l:List Mark) (p:Point):Nat→Option Nat
 | 0=>none
 | f + 1=>match fst l p f with
  | some k=>some k
  | none=>if isAh (markT.nth l f) p then none else some f
theorem marks_ne (rows:List Row) (h:1≤rows.length):1≤(allMarks rows).length:=by
 rw [marks_same]
 unfold refMarks
 obtain ⟨m,hm⟩:∃ m,rows.length = m + 1:=⟨rows.length - 1,by omega⟩
 rw [hm]
 simp only [refFold,refStep]
 rw [if_pos (.inl hm.symm)]
 simp
open Go Go.RowKit Go.Proofs
structure Row4 (w0 w:World) (blk n:Nat) (d:Nat→Nat→Int):Prop where
 cell:∀ i j,i < n→j < 4→w.cell? ⟨blk,i * 4 + j,none⟩ = some (.int .i64 (d i j))
 frozen:∀ i j,i < n→j < 4→w.frozen? ⟨blk,i * 4 + j,none⟩ = false
 os:w.os = w0.os
 tape:w.tape = w0.tape
 output:w.output = w0.output
 size:w.heap.size = w0.heap.size
 block:∀ k,k ≠ blk→w.heap[k]? = w0.heap[k]?
theorem Row4.congr {w0 w:World} {blk n:Nat} {d d':Nat→Nat→Int} (R:Row4 w0 w blk n d) (h:∀ a b,a < n→b < 4→d a b = d' a b):Row4 w0 w blk n d' :=
 {R with cell:=fun i j hi hj=>by rw [R.cell i j hi hj,h i j hi hj] }
theorem Row4.set {w0 w:World} {blk n:Nat} {d:Nat→Nat→Int} (R:Row4 w0 w blk n d) (i j o:Nat) (ho:o = i * 4 + j) (hi:i < n) (hj:j < 4) (x:Int):Row4 w0 (w.setCell ⟨blk,o,none⟩ (.int .i64 x)) blk n (fun a b=>if a = i∧b = j then x else d a b):=by
 subst ho
 refine { cell:=fun a b ha hb=>?_,frozen:=fun a b ha hb=>?_,os:=R.os,tape:=R.tape,output:=R.output,size:=?_,block:=fun k hk=>?_ }
 ·by_cases h:a = i∧b = j
  ·obtain ⟨rfl,rfl⟩:=h
   rw [if_pos ⟨rfl,rfl⟩]
   exact World.cell?_setCell_same _ _ _ (R.cell a b ha hb)
  ·rw [if_neg h,World.cell?_setCell_other _ _ _ _ (by intro e;simp only [Addr.mk.injEq] at e;omega)]
   exact R.cell a b ha hb
 ·rw [World.frozen?_setCell]
  exact R.frozen a b ha hb
 ·rw [← R.size]
  simp [World.setCell]
 ·rw [← R.block k hk]
  exact Below.heap_setCell _ _ _ _ hk
theorem Row4.drew {w0 w:World} {blk n:Nat} {d:Nat→Nat→Int} (R:Row4 w0 w blk n d):Row4 w0 w.drew blk n d :=
 {cell:=R.cell,frozen:=R.frozen,os:=R.os,tape:=R.tape,output:=R.output,size:=R.size,block:=R.block }
set_option maxRecDepth 20000000 in
theorem reverse_walk (blk cap n:Nat) (d:Nat→Nat→Int) (w:World) (h:Row4 w w blk n d) (hn:n≤1000000000) :
  Calls Try.prog 37 #[.slice (some ⟨blk,0,none⟩) n cap] w fun e w' => e = .returned (.tuple #[])∧Row4 w w' blk n (fun i=>d (n - 1 - i)):=by
 go_enter Try.func37, Try.ntmps37
 go_wp2
 go_loopg [2,3] n (fun k s2 s3 wr=>∃ (i:Nat) (j:Int),s2 = .int .i64 i∧s3 = .int .i64 j∧(i:Int) + j = n - 1∧i≤n∧(j - i + 1).toNat≤k∧(i:Int)≤j + 2∧Row4 w wr blk n (fun a=>if a < i∨n - 1 < a + i then d (n - 1 - a) else d a))
 case atStart=>exact ⟨0,(n:Int) - 1,rfl,rfl,by omega,by omega,by omega,by omega,h.congr fun a b ha hb=>by rw [if_neg (by omega)]⟩
 case round =>
  obtain ⟨i,j,rfl,rfl,h1,h2,hk,h3,hR⟩:=hrel
  by_cases hlt:(i:Int) < j
  ·obtain ⟨jn,rfl⟩:∃ jn:Nat,j = jn:=⟨j.toNat,by omega⟩
   have hij:i < jn:=by omega
   have hi:i < n:=by omega
   have hj:jn < n:=by omega
   have hjn:Aside (jn = n - 1 - i):=(show jn = n - 1 - i by omega)
   have get:∀ a,a < n→∃ x:Nat→Int,(∀ b,b < 4→x b = (if a < i∨n - 1 < a + i then d (n - 1 - a) else d a) b)∧wr.cell? ⟨blk,a * 4,none⟩ = some (.int .i64 (x 0))∧wr.cell? ⟨blk,a * 4 + 1,none⟩ = some (.int .i64 (x 1))∧wr.cell? ⟨blk,a * 4 + 2,none⟩ = some (.int .i64 (x 2))∧wr.cell? ⟨blk,a * 4 + 3,none⟩ = some (.int .i64 (x 3)) :=
    fun a ha=>⟨_,fun b hb=>rfl,hR.cell a 0 ha (by omega),hR.cell a 1 ha (by omega),hR.cell a 2 ha (by omega),hR.cell a 3 ha (by omega)⟩
   have fz:∀ a,a < n→wr.frozen? ⟨blk,a * 4,none⟩ = false∧wr.frozen? ⟨blk,a * 4 + 1,none⟩ = false∧wr.frozen? ⟨blk,a * 4 + 2,none⟩ = false∧wr.frozen? ⟨blk,a * 4 + 3,none⟩ = false :=
    fun a ha=>⟨hR.frozen a 0 ha (by omega),hR.frozen a 1 ha (by omega),hR.frozen a 2 ha (by omega),hR.frozen a 3 ha (by omega)⟩
   obtain ⟨x,ex,cx0,cx1,cx2,cx3⟩:=get i hi
   obtain ⟨y,ey,cy0,cy1,cy2,cy3⟩:=get jn hj
   obtain ⟨fx0,fx1,fx2,fx3⟩:=fz i hi
   obtain ⟨fy0,fy1,fy2,fy3⟩:=fz jn hj
   have hR2:=(((((((((hR.set i 0 (i * 4) (by omega) hi (by omega) (y 0)).set i 1 (i * 4 + 1) (by omega) hi (by omega) (y 1)).set i 2 (i * 4 + 2) (by omega) hi (by omega) (y 2)).set i 3 (i * 4 + 3) (by omega) hi (by omega) (y 3)).set jn 0 (jn * 4) (by omega) hj (by omega) (x 0)).set jn 1 (jn * 4 + 1) (by omega) hj (by omega) (x 1)).set jn 2 (jn * 4 + 2) (by omega) hj (by omega) (x 2)).set jn 3 (jn * 4 + 3) (by omega) hj (by omega) (x 3))).drew
   have A:Aside (Row4 w _ blk n _):=hR2
   have B:Aside (∀ b,b < 4→x b = _):=ex
   have C:Aside (∀ b,b < 4→y b = _):=ey
   clear get fz hR hR2 ex ey
   go_wp2_with fail
   go_region
   go_wp2
   go_roundg ((jn:Int) - 1 - (i + 1) + 1).toNat
   case measure=>omega
   case rel =>
    refine ⟨i + 1,(jn:Int) - 1,by simp,rfl,by omega,by omega,by omega,by omega,(A.out).congr fun a b ha hb=>?_⟩
    have ex:=B.out
    have ey:=C.out
    have hjn:=hjn.out
    have hb4:b = 0∨b = 1∨b = 2∨b = 3:=by omega
    by_cases e1:a = i
    ·subst e1
     rw [if_pos (show a < a + 1∨n - 1 < a + (a + 1) by omega),← hjn]
     have:=ey b hb
     rw [if_neg (by omega)] at this
     rcases hb4 with rfl | rfl | rfl | rfl <;> simp [show ¬ a = jn by omega] <;> exact this
    ·by_cases e2:a = jn
     ·subst e2
      rw [if_pos (show a < i + 1∨n - 1 < a + (i + 1) by omega),show n - 1 - a = i by omega]
      have:=ex b hb
      rw [if_neg (by omega)] at this
      rcases hb4 with rfl | rfl | rfl | rfl <;> simp <;> exact this
     ·simp only [e1,e2,false_and,if_false]
      by_cases hc:a < i∨n - 1 < a + i
      ·rw [if_pos hc,if_pos (by omega)]
      ·rw [if_neg hc,if_neg (by omega)]
  ·go_wp2
   go_end0
   refine ⟨rfl,hR.congr fun a b ha hb=>?_⟩
   by_cases hc:a < i∨n - 1 < a + i
   ·rw [if_pos hc]
   ·rw [if_neg hc,show n - 1 - a = a by omega]
open Go Go.RowKit Pv G
def hdC:Code→Code | .seq a _=>a | c=>c
def tlC:Code→Code | .seq _ b=>b | c=>c
noncomputable def cM:Code:=(Try.f29.body).getD .skip
noncomputable def p1:Code:=hdC cM
noncomputable def p2:Code:=hdC (tlC cM)
noncomputable def p3:Code:=hdC (tlC (tlC cM))
noncomputable def p4:Code:=hdC (tlC (tlC (tlC cM)))
noncomputable def nM:Nat:=Try.f29.ntmps
noncomputable def rM:Nat:=retMask Try.f29
noncomputable def aM (c:Code) (nx:Nat):AC × Nat:=annot nM ((1 <<< nM) - 1) rM c nx []
noncomputable def x4:Nat:=(aM (.seq p4 .ret) rM).2
noncomputable def x3:Nat:=(aM p3 x4).2
noncomputable def x2:Nat:=(aM p2 x3).2
theorem cM_eq:Try.f29.body = some (.seq p1 (.seq p2 (.seq p3 (.seq p4 .ret)))):=by kernel_rfl
theorem mk1 (rows:List Row):Rd X0 0 nM (aM p1 x2).1 ⟨argEnv 0 [.d (rowT.slD rows)],[],[]⟩ (.nrm,⟨[(0,.d (rowT.slD rows))],[],[]⟩):=pR 12 [] nilE (by kernel_rfl)
theorem mk2 (rows:List Row):Rd X0 0 nM (aM p2 x3).1 ⟨[(0,.d (rowT.slD rows))],[],[]⟩ (.nrm,⟨[(0,.d (rowT.slD rows)),(3,markT.tailV 77 [])],[],[]⟩):=pR 12 [] nilE (by kernel_rfl)
theorem mk3 (rows:List Row) (hs:smallR rows):Rd X0 0 nM (aM p3 x4).1 ⟨[(0,.d (rowT.slD rows)),(3,markT.tailV 77 [])],[],[]⟩ (.nrm,stM0x rows (allMarks rows)) :=
 pR 12 [(0,.l (Ex.exit (0:Nat)) (stM0x rows (allMarks rows)))] (cE (@marksLoop0 rows hs) nilE) (by kernel_rfl)
def mF (m:Mark):Nat→Int
 | 0=>m.1
 | 1=>m.2.1
 | 2=>m.2.2.1
 | _=>m.2.2.2.1
theorem p4_eq:p4 = Code.region 9
 #[{ dst:=some 40,op:=Op.move (Operand.tmp 3),type := 78, pos := "points.go:60", after:=#[],guard:=none },
  {dst:=some 2,op:=Op.assign (Operand.tmp 40),type := 78, pos := "points.go:60",
   after:=#[{ on:=0,ground:=Ground.data },{ on:=0,ground:=Ground.phase }],guard:=none }]
 false:=by kernel_rfl
theorem last_wp (v:Value) (a:Act) (w:World) (R:Ending→World→Prop) (hsz:41≤a.tmps.size) (hv:a.tmps.getD 3 undef = v) (hd:a.defers = []) (hR:R (.returned v) w) :
  (Code.seq p4 .ret).wp Try.prog (bodyPost Try.prog Try.f29 R) a w:=by
 obtain ⟨⟨l0⟩,df⟩:=a
 simp only at hd hsz
 subst hd
 obtain ⟨u0,l1,rfl⟩:∃ x y,l0 = x :: y:=by cases l0 with | nil=>simp at hsz | cons x y=>exact ⟨x,y,rfl⟩
 obtain ⟨u1,l2,rfl⟩:∃ x y,l1 = x :: y:=by cases l1 with | nil=>simp at hsz | cons x y=>exact ⟨x,y,rfl⟩
 obtain ⟨u2,l3,rfl⟩:∃ x y,l2 = x :: y:=by cases l2 with | nil=>simp at hsz | cons x y=>exact ⟨x,y,rfl⟩
 obtain ⟨u3,l4,rfl⟩:∃ x y,l3 = x :: y:=by cases l3 with | nil=>simp at hsz | cons x y=>exact ⟨x,y,rfl⟩
 obtain ⟨u4,l5,rfl⟩:∃ x y,l4 = x :: y:=by cases l4 with | nil=>simp at hsz | cons x y=>exact ⟨x,y,rfl⟩
 obtain ⟨u5,l6,rfl⟩:∃ x y,l5 = x :: y:=by cases l5 with | nil=>simp at hsz | cons x y=>exact ⟨x,y,rfl⟩
 obtain ⟨u6,l7,rfl⟩:∃ x y,l6 = x :: y:=by cases l6 with | nil=>simp at hsz | cons x y=>exact ⟨x,y,rfl⟩
 obtain ⟨u7,l8,rfl⟩:∃ x y,l7 = x :: y:=by cases l7 with | nil=>simp at hsz | cons x y=>exact ⟨x,y,rfl⟩
 obtain ⟨u8,l9,rfl⟩:∃ x y,l8 = x :: y:=by cases l8 with | nil=>simp at hsz | cons x y=>exact ⟨x,y,rfl⟩
 obtain ⟨u9,l10,rfl⟩:∃ x y,l9 = x :: y:=by cases l9 with | nil=>simp at hsz | cons x y=>exact ⟨x,y,rfl⟩
 obtain ⟨u10,l11,rfl⟩:∃ x y,l10 = x :: y:=by cases l10 with | nil=>simp at hsz | cons x y=>exact ⟨x,y,rfl⟩
 obtain ⟨u11,l12,rfl⟩:∃ x y,l11 = x :: y:=by cases l11 with | nil=>simp at hsz | cons x y=>exact ⟨x,y,rfl⟩
 obtain ⟨u12,l13,rfl⟩:∃ x y,l12 = x :: y:=by cases l12 with | nil=>simp at hsz | cons x y=>exact ⟨x,y,rfl⟩
 obtain ⟨u13,l14,rfl⟩:∃ x y,l13 = x :: y:=by cases l13 with | nil=>simp at hsz | cons x y=>exact ⟨x,y,rfl⟩
 obtain ⟨u14,l15,rfl⟩:∃ x y,l14 = x :: y:=by cases l14 with | nil=>simp at hsz | cons x y=>exact ⟨x,y,rfl⟩
 obtain ⟨u15,l16,rfl⟩:∃ x y,l15 = x :: y:=by cases l15 with | nil=>simp at hsz | cons x y=>exact ⟨x,y,rfl⟩
 obtain ⟨u16,l17,rfl⟩:∃ x y,l16 = x :: y:=by cases l16 with | nil=>simp at hsz | cons x y=>exact ⟨x,y,rfl⟩
 obtain ⟨u17,l18,rfl⟩:∃ x y,l17 = x :: y:=by cases l17 with | nil=>simp at hsz | cons x y=>exact ⟨x,y,rfl⟩
 obtain ⟨u18,l19,rfl⟩:∃ x y,l18 = x :: y:=by cases l18 with | nil=>simp at hsz | cons x y=>exact ⟨x,y,rfl⟩
 obtain ⟨u19,l20,rfl⟩:∃ x y,l19 = x :: y:=by cases l19 with | nil=>simp at hsz | cons x y=>exact ⟨x,y,rfl⟩
 obtain ⟨u20,l21,rfl⟩:∃ x y,l20 = x :: y:=by cases l20 with | nil=>simp at hsz | cons x y=>exact ⟨x,y,rfl⟩
 obtain ⟨u21,l22,rfl⟩:∃ x y,l21 = x :: y:=by cases l21 with | nil=>simp at hsz | cons x y=>exact ⟨x,y,rfl⟩
 obtain ⟨u22,l23,rfl⟩:∃ x y,l22 = x :: y:=by cases l22 with | nil=>simp at hsz | cons x y=>exact ⟨x,y,rfl⟩
 obtain ⟨u23,l24,rfl⟩:∃ x y,l23 = x :: y:=by cases l23 with | nil=>simp at hsz | cons x y=>exact ⟨x,y,rfl⟩
 obtain ⟨u24,l25,rfl⟩:∃ x y,l24 = x :: y:=by cases l24 with | nil=>simp at hsz | cons x y=>exact ⟨x,y,rfl⟩
 obtain ⟨u25,l26,rfl⟩:∃ x y,l25 = x :: y:=by cases l25 with | nil=>simp at hsz | cons x y=>exact ⟨x,y,rfl⟩
 obtain ⟨u26,l27,rfl⟩:∃ x y,l26 = x :: y:=by cases l26 with | nil=>simp at hsz | cons x y=>exact ⟨x,y,rfl⟩
 obtain ⟨u27,l28,rfl⟩:∃ x y,l27 = x :: y:=by cases l27 with | nil=>simp at hsz | cons x y=>exact ⟨x,y,rfl⟩
 obtain ⟨u28,l29,rfl⟩:∃ x y,l28 = x :: y:=by cases l28 with | nil=>simp at hsz | cons x y=>exact ⟨x,y,rfl⟩
 obtain ⟨u29,l30,rfl⟩:∃ x y,l29 = x :: y:=by cases l29 with | nil=>simp at hsz | cons x y=>exact ⟨x,y,rfl⟩
 obtain ⟨u30,l31,rfl⟩:∃ x y,l30 = x :: y:=by cases l30 with | nil=>simp at hsz | cons x y=>exact ⟨x,y,rfl⟩
 obtain ⟨u31,l32,rfl⟩:∃ x y,l31 = x :: y:=by cases l31 with | nil=>simp at hsz | cons x y=>exact ⟨x,y,rfl⟩
 obtain ⟨u32,l33,rfl⟩:∃ x y,l32 = x :: y:=by cases l32 with | nil=>simp at hsz | cons x y=>exact ⟨x,y,rfl⟩
 obtain ⟨u33,l34,rfl⟩:∃ x y,l33 = x :: y:=by cases l33 with | nil=>simp at hsz | cons x y=>exact ⟨x,y,rfl⟩
 obtain ⟨u34,l35,rfl⟩:∃ x y,l34 = x :: y:=by cases l34 with | nil=>simp at hsz | cons x y=>exact ⟨x,y,rfl⟩
 obtain ⟨u35,l36,rfl⟩:∃ x y,l35 = x :: y:=by cases l35 with | nil=>simp at hsz | cons x y=>exact ⟨x,y,rfl⟩
 obtain ⟨u36,l37,rfl⟩:∃ x y,l36 = x :: y:=by cases l36 with | nil=>simp at hsz | cons x y=>exact ⟨x,y,rfl⟩
 obtain ⟨u37,l38,rfl⟩:∃ x y,l37 = x :: y:=by cases l37 with | nil=>simp at hsz | cons x y=>exact ⟨x,y,rfl⟩
 obtain ⟨u38,l39,rfl⟩:∃ x y,l38 = x :: y:=by cases l38 with | nil=>simp at hsz | cons x y=>exact ⟨x,y,rfl⟩
 obtain ⟨u39,l40,rfl⟩:∃ x y,l39 = x :: y:=by cases l39 with | nil=>simp at hsz | cons x y=>exact ⟨x,y,rfl⟩
 obtain ⟨u40,l41,rfl⟩:∃ x y,l40 = x :: y:=by cases l40 with | nil=>simp at hsz | cons x y=>exact ⟨x,y,rfl⟩
 have hv':u3 = v:=by simpa using hv
 subst hv'
 clear hv hsz
 rw [p4_eq]
 refine wp_seq ?_
 go_wp2
 exact hR
theorem marks_calls (rows:List Row) (hs:smallR rows) (v:Value) (W:World) (g:Gh) (hf:Fresh g W) (hv:RepD W g.e v (rowT.slD rows)) :
  Calls Try.prog 29 #[v] W fun e w' => ∃ u,e = .returned u∧Below W.heap.size W w' ∧ (allMarks rows ≠ [] →
   ∃ (b c:Nat) (cur:Array Value) (T:TypeId),u = .slice (some ⟨b,0,none⟩) (allMarks rows).length c∧W.heap.size≤b∧(allMarks rows).length≤c∧w'.heap[b]? = some (.cells cur T (0,0))∧∀ i j,i < (allMarks rows).length→j < 4→cur[i * 4 + j]? = some (.int .i64 (mF (markT.nth (allMarks rows) i) j))):=by
 obtain ⟨K1,h1⟩:=mk1 rows
 obtain ⟨K2,h2⟩:=mk2 rows
 obtain ⟨K3,h3⟩:=mk3 rows hs
 have e1:=h1 (K1 + K2 + K3) (by omega)
 have e2:=h2 (K1 + K2 + K3) (by omega)
 have e3:=h3 (K1 + K2 + K3) (by omega)
 obtain ⟨hc,hci⟩:=callN_ok (X:=X0) (fun _=>rfl) ext0_ok ext0_pure ext0_iok FUEL (K1 + K2 + K3)
 have hp:PtV X0 W (g.alone W.heap.size) [v] [.d (rowT.slD rows)]:=by
  refine ⟨rfl,fun j u x a b=>?_⟩
  match j with
  | 0=>simp at a b;subst a;subst b;exact .d _ _ _ hv
  | j + 1=>simp at a
 have r0:=start_rel (N:=nM) hp (alone_sit hf (glob0 W _)) alone_low
 refine calls_of_wp Try.func29 cM_eq ?_
 refine wp_seq ?_
 refine exec_sound hc hci p1 x2 [] _ _ _ _ _ _ _ e1 r0 fun a1 w1 g1 l1 r1=>?_
 refine wp_seq ?_
 refine exec_sound hc hci p2 x3 [] _ _ _ _ _ _ _ e2 r1 fun a2 w2 g2 l2 r2=>?_
 refine wp_seq ?_
 refine exec_sound hc hci p3 x4 [] _ _ _ _ _ _ _ e3 r2 fun a3 w3 g3 l3 r3=>?_
 have L:=(l1.trans l2).trans l3
 have old:∀ b,b < W.heap.size→w3.heap[b]? = W.heap[b]? ∧ g3.own b = .fgn:=fun b hb=>by
  obtain ⟨x,y,_⟩:=L.fgn b (by simp only [Gh.alone];rw [if_pos hb])
  exact ⟨x,y⟩
 refine last_wp _ a3 w3 _ r3.size rfl r3.defers ⟨_,rfl,⟨L.os,L.tape,L.output,L.size,fun k hk=>(old k hk).1⟩,fun hne=>?_⟩
 have r:RepV X0 w3 g3 (.slot 3) (a3.tmps.getD 3 undef) (.tail 77 ((allMarks rows).flatMap markT.enc) (allMarks rows).length):=r3.slots 3
 generalize a3.tmps.getD 3 undef = u at r ⊢
 have hlen:0 < (allMarks rows).length:=List.length_pos_iff.2 hne
 have hfl:((allMarks rows).flatMap markT.enc).length = (allMarks rows).length * 4:=flat_len _ 4 (Ty.enc_length markT) _
 generalize hce:(allMarks rows).flatMap markT.enc = cells at r hfl
 obtain ⟨n,hn0⟩:∃ n,n = (allMarks rows).length:=⟨_,rfl⟩
 rw [← hn0] at r
 cases r with
 | tail0=>omega
 | tail _ _ _ _ b c cur z vals hz hz0 hb hn hm hcur hcl he ho hpp hvv hr =>
  subst hce
  subst hn0
  have hz4:z = 4:=Option.some.inj (hz.symm.trans (show sizeT X0.P 77 = some 4 by kernel_rfl))
  subst hz4
  refine ⟨b,c,cur,_,rfl,?_,hn,hb,fun i j hi hj=>?_⟩
  ·apply Classical.byContradiction
   intro hlt
   have:=(old b (by omega)).2
   rw [ho] at this
   cases this
  ·have hlt:i * 4 + j < vals.length:=by
    have hcl2:cur.toList.length = c * 4:=by rw [Array.length_toList];exact hcur
    have hv2:vals.length = min ((allMarks rows).length * 4) (c * 4):=by rw [← hcl2,← List.length_take];exact congrArg List.length hvv.symm
    rw [hv2]
    have:(allMarks rows).length * 4≤c * 4:=Nat.mul_le_mul_right 4 hn
    omega
   have hd:((allMarks rows).flatMap markT.enc)[i * 4 + j]? = (markT.enc (markT.nth (allMarks rows) i))[j]?:=flat_get _ 4 (Ty.enc_length markT) _ _ i j hi hj
   have hd2:(markT.enc (markT.nth (allMarks rows) i))[j]? = some (.int .i64 (mF (markT.nth (allMarks rows) i) j)):=by
    match j,hj with
    | 0,_=>rfl
    | 1,_=>rfl
    | 2,_=>rfl
    | 3,_=>rfl
   have hrep:=hr (i * 4 + j) vals[i * 4 + j] _ (List.getElem?_eq_getElem hlt) (hd.trans hd2)
   have hcv:cur[i * 4 + j]? = some vals[i * 4 + j]:=by
    have:=List.getElem?_eq_getElem hlt
    rw [← Array.getElem?_toList]
    have h2:(cur.toList.take ((allMarks rows).length * 4))[i * 4 + j]? = some vals[i * 4 + j]:=by
     have e:cur.toList.take ((allMarks rows).length * 4) = vals:=hvv
     rw [e]
     exact this
    rw [List.getElem?_take] at h2
    split at h2
    ·exact h2
    ·cases h2
   rw [hcv]
   generalize vals[i * 4 + j] = q at hrep
   cases hrep
   rfl
theorem repD_below {W w:World} {g:Gh} {v:Value} {d:D} (hf:Fresh g W) (h:RepD W g.e v d) (hb:Below W.heap.size W w):RepD w g.e v d:=by
 refine h.mono (fun b o ho=>World.cell?_of_block (w:=W) (a:=⟨b,o,none⟩) (hb.block b ?_)) (fun _=>Nat.le_refl _)
 apply Classical.byContradiction
 intro hn
 have:=(hf b (by omega)).2
 omega
theorem fresh_below {W w:World} {g:Gh} (hf:Fresh g W) (hb:W.heap.size≤w.heap.size):Fresh g w:=fun b h=>hf b (by omega)
theorem topFresh (W:World):Fresh (topG W) W:=fun b hb=>⟨by simp only [topG];rw [if_neg (by omega)],by simp only [topG,fullE];rw [Array.getElem?_eq_none hb]⟩
theorem repD_pt (w:World) (e:Nat→Nat) (p:Point):RepD w e (.agg #[.int .i64 (ptR p),.int .i64 (ptC p)]) (ptD p):=by
 refine .agg [_,_] _ rfl fun j v d a b=>?_
 match j with
 | 0=>simp at a b;subst a;subst b;exact .int _ _
 | 1=>simp at a b;subst a;subst b;exact .int _ _
 | j + 2=>simp at a
theorem mF_get (m:Mark) (j:Nat) (hj:j < 4):(markT.enc m)[j]? = some (.int .i64 (mF m j)):=by
 match j,hj with
 | 0,_=>rfl
 | 1,_=>rfl
 | 2,_=>rfl
 | 3,_=>rfl
theorem repD_marks (L:List Mark) (b c:Nat) (W:World) (hn:L.length≤c) (hcell:∀ i j,i < L.length→j < 4→W.cell? ⟨b,i * 4 + j,none⟩ = some (.int .i64 (mF (markT.nth L i) j))) :
  RepD W (fullE W) (.slice (some ⟨b,0,none⟩) L.length c) (markT.slD L):=by
 have h4:(L.flatMap markT.enc).length = L.length * 4:=flat_len _ 4 (Ty.enc_length markT) L
 have hk:∀ k,k < L.length * 4→k / 4 < L.length∧k % 4 < 4∧k / 4 * 4 + k % 4 = k:=fun k hk=>by omega
 by_cases h0:L.length = 0
 ·have:L = []:=List.eq_nil_of_length_eq_zero h0
  subst this
  exact .sl0 _ _ (fun h=>by cases h)
 refine .sl b 0 L.length c (L.flatMap markT.enc) ((List.range (L.length * 4)).map fun k=>.int .i64 (mF (markT.nth L (k / 4)) (k % 4))) hn (by simp [h4]) ?_ (fun k v hv=>?_) (fun k v d hv hd=>?_)
 ·rw [h4]
  have:=hcell (L.length - 1) 3 (by omega) (by omega)
  unfold World.cell? at this
  unfold fullE
  split at this
  ·rename_i cs _ _ e
   rw [e]
   have hlt:=(Array.getElem?_eq_some_iff.1 this).1
   simp only at hlt ⊢
   omega
  ·cases this
 ·simp only [List.getElem?_map,Option.map_eq_some_iff] at hv
  obtain ⟨x,hx,rfl⟩:=hv
  have hxk:k < L.length * 4∧x = k:=by
   have:=List.getElem?_eq_some_iff.1 hx
   obtain ⟨h1,h2⟩:=this
   simp at h1 h2
   exact ⟨h1,h2.symm⟩
  obtain ⟨hlt,rfl⟩:=hxk
  obtain ⟨a1,a2,a3⟩:=hk x hlt
  have:=hcell (x / 4) (x % 4) a1 a2
  rw [a3] at this
  simpa using this
 ·simp only [List.getElem?_map,Option.map_eq_some_iff] at hv
  obtain ⟨x,hx,rfl⟩:=hv
  have hxk:k < L.length * 4∧x = k:=by
   have:=List.getElem?_eq_some_iff.1 hx
   obtain ⟨h1,h2⟩:=this
   simp at h1 h2
   exact ⟨h1,h2.symm⟩
  obtain ⟨hlt,rfl⟩:=hxk
  obtain ⟨a1,a2,a3⟩:=hk x hlt
  have e:=flat_get _ 4 (Ty.enc_length markT) ((0,0,0,0,()):Mark) L (x / 4) (x % 4) a1 a2
  rw [a3,hd] at e
  have e2:some d = some (D.int .i64 (mF (markT.nth L (x / 4)) (x % 4))):=e.trans (mF_get _ _ a2)
  cases e2
  exact .int _ _
theorem pickA_calls (L:List Mark) (p:Point) (h1:1≤L.length) (hl:L.length < 100000000) (b c:Nat) (W:World) (hn:L.length≤c) (hcell:∀ i j,i < L.length→j < 4→W.cell? ⟨b,i * 4 + j,none⟩ = some (.int .i64 (mF (markT.nth L i) j))) :
  Calls Try.prog FPk #[.slice (some ⟨b,0,none⟩) L.length c,.agg #[.int .i64 (ptR p),.int .i64 (ptC p)],.func (.func fAh) #[] #[]] W fun e w' =>
   e = .returned (.agg #[.int .i64 (mR (pickAm L p)),.int .i64 (mC (pickAm L p)),.int .i64 (mK (pickAm L p)),.int .i64 (mA (pickAm L p))])∧Below W.heap.size W w':=by
 obtain ⟨K,hK⟩:=pickA L p h1 hl
 have hp:PtV X0 W (topG W) [.slice (some ⟨b,0,none⟩) L.length c,.agg #[.int .i64 (ptR p),.int .i64 (ptC p)],.func (.func fAh) #[] #[]] [.d (markT.slD L),.d (ptD p),.d (.fn fAh)]:=by
  refine ⟨rfl,fun j v x a b=>?_⟩
  match j with
  | 0=>simp at a b;subst a;subst b;exact .d _ _ _ (repD_marks L _ c W hn hcell)
  | 1=>simp at a b;subst a;subst b;exact .d _ _ _ (repD_pt W _ p)
  | 2=>simp at a b;subst a;subst b;exact .d _ _ _ (.fn _)
  | j + 3=>simp at a
 obtain ⟨fn,_,_,_,hc⟩:=(callN_ok (X:=X0) (fun _=>rfl) ext0_ok ext0_pure ext0_iok FUEL K).1 FPk _ _ (hK K (Nat.le_refl K)) rfl W (topG W) _ (topFresh W) (glob0 W _) hp (.slot 0) ⟨0,0,0,.inl rfl⟩
 refine hc.mono ?_
 rintro E w' ⟨v,g',rfl,hk,hv⟩
 refine ⟨?_,hk.below⟩
 cases hv with
 | d _ _ _ hv =>
  cases hv with
  | agg vals cells hvl hr =>
   match vals,hvl with
   | [a,b,c,d],_ =>
    have q0:=hr 0 a _ rfl rfl
    have q1:=hr 1 b _ rfl rfl
    have q2:=hr 2 c _ rfl rfl
    have q3:=hr 3 d _ rfl rfl
    cases q0
    cases q1
    cases q2
    cases q3
    rfl
theorem below2 (W:World) (o1 o2:Obj):Below W.heap.size W ((W.alloc o1).alloc o2):=((Below.refl _ W).alloc (Nat.le_refl _) o1).alloc (by simp only [World.alloc,Array.size_push];omega) o2
theorem cellG {w:World} {b:Nat} {cs:Array Value} {T:TypeId} {S:Nat × Nat} (h:w.heap[b]? = some (.cells cs T S)) (k:Nat):w.cell? ⟨b,k,none⟩ = cs[k]?:=by simp [World.cell?,h]
theorem frozenG {w:World} {b:Nat} {cs:Array Value} {T:TypeId} (h:w.heap[b]? = some (.cells cs T (0,0))) (k:Nat):w.frozen? ⟨b,k,none⟩ = false:=by simp [World.frozen?,h]
theorem allocG0 (W:World) (o1 o2:Obj):((W.alloc o1).alloc o2).heap[W.heap.size]? = some o1:=by
 simp only [World.alloc]
 rw [Array.getElem?_push,if_neg (by simp),Array.getElem?_push,if_pos (by simp)]
theorem allocG1 (W:World) (o1 o2:Obj):((W.alloc o1).alloc o2).heap[W.heap.size + 1]? = some o2:=by
 simp only [World.alloc]
 rw [Array.getElem?_push,if_pos (by simp)]
theorem allocS (W:World) (o1 o2:Obj):((W.alloc o1).alloc o2).heap.size = W.heap.size + 2:=by simp only [World.alloc,Array.size_push]
theorem setCellG {w:World} {b:Nat} {cs:Array Value} {T:TypeId} {S:Nat × Nat} (h:w.heap[b]? = some (.cells cs T S)) (k:Nat) (u:Value):(w.setCell ⟨b,k,none⟩ u).heap[b]? = some (.cells (cs.setIfInBounds k u) T S):=by
 simp [World.setCell,Array.getElem?_modify,h]
set_option maxRecDepth 20000000 in
theorem clip_walk (rows:List Row) (p:Point) (hs:smallR rows) (hr:1≤rows.length) (hne:allMarks rows ≠ []) (hl:(allMarks rows).length < 100000000) (a:Option Addr) (cp:Nat) (W:World) (g:Gh) (hf:Fresh g W) (hv:RepD W g.e (.slice a rows.length cp) (rowT.slD rows)) :
  Calls Try.prog FCl #[.slice a rows.length cp,.agg #[.int .i64 (ptR p),.int .i64 (ptC p)],.int .i64 1] W fun e w' =>
   e = .returned (.tuple #[.agg #[.int .i64 (mR (pickAm (allMarks rows).reverse p)),.int .i64 (mC (pickAm (allMarks rows).reverse p))],.int .i64 0])∧Below W.heap.size W w':=by
 have hr900:=hs.1
 go_enter Try.func23, Try.ntmps23
 have hlen:0 < (allMarks rows).length:=List.length_pos_iff.2 hne
 go_wp2_with (first
  | (go_at_call 29; refine (marks_calls rows hs (.slice a rows.length cp) _ g (fresh_below hf (below2 W _ _).size) ?_).mono ?_)
  | go_in)
 ·exact repD_below hf hv (below2 W _ _)
 ·rintro e w' ⟨u,rfl,hb,hrow⟩
  obtain ⟨b,c,cur,T,rfl,hbs,hcn,hblk,hcell⟩:=hrow hne
  have R0:Row4 w' w' b (allMarks rows).length (fun i j=>mF (markT.nth (allMarks rows) i) j) :=
   ⟨fun i j hi hj=>(cellG hblk _).trans (hcell i j hi hj),fun i j hi hj=>frozenG hblk _,rfl,rfl,rfl,rfl,fun _ _=>rfl⟩
  rw [allocS] at hb hbs
  have q0:=(hb.block W.heap.size (by omega)).trans (allocG0 W _ _)
  have q1:=(hb.block (W.heap.size + 1) (by omega)).trans (allocG1 W _ _)
  clear hrow hblk
  go_wp2_with (go_at_call 37; refine (reverse_walk b c _ _ _ R0 (by omega)).mono ?_)
  rintro e w2 ⟨rfl,R1⟩
  have q0':=(R1.block W.heap.size (by omega)).trans q0
  have q1':=(R1.block (W.heap.size + 1) (by omega)).trans q1
  have c0:w2.cell? ⟨W.heap.size,0,none⟩ = some (.int .i64 (ptR p)):=cellG q0' 0
  have c1:w2.cell? ⟨W.heap.size,1,none⟩ = some (.int .i64 (ptC p)):=cellG q0' 1
  have hrl:(allMarks rows).reverse.length = (allMarks rows).length:=List.length_reverse
  have hcp:=pickA_calls (allMarks rows).reverse p (by omega) (by omega) b c w2 (by omega) (fun i j hi hj=>by rw [nth_rev _ _ (by omega)];exact R1.cell i j (by omega) hj)
  rw [hrl] at hcp
  clear q0 q1 R0 hcell
  go_wp2_with (go_at_call 35; refine hcp.mono ?_)
  rintro e w3 ⟨rfl,hb3⟩
  have hsz3:W.heap.size + 2≤w2.heap.size:=by rw [R1.size];exact Nat.le_trans (by rw [allocS];exact Nat.le_refl _) hb.size
  have q0'':=(hb3.block W.heap.size (by omega)).trans q0'
  have q1'':=(hb3.block (W.heap.size + 1) (by omega)).trans q1'
  have d0:w3.cell? ⟨W.heap.size + 1,0,none⟩ = some (.int .i64 0):=cellG q1'' 0
  have d1:w3.cell? ⟨W.heap.size + 1,1,none⟩ = some (.int .i64 0):=cellG q1'' 1
  have e0:w3.frozen? ⟨W.heap.size + 1,0,none⟩ = false:=frozenG q1'' 0
  have e1:w3.frozen? ⟨W.heap.size + 1,1,none⟩ = false:=frozenG q1'' 1
  have hfd:∀ (a b c d:Int) (w:World),(Instr.field 77 (.agg #[.int .i64 a,.int .i64 b,.int .i64 c,.int .i64 d]) 0).run Try.prog w = .ok (.agg #[.int .i64 a,.int .i64 b]) w:=fun _ _ _ _ _=>by kernel_rfl
  go_wp2
  refine bodyPost_ret (v:=.tuple #[.agg #[.int .i64 (mR (pickAm (allMarks rows).reverse p)),.int .i64 (mC (pickAm (allMarks rows).reverse p))],.int .i64 0]) ?_ rfl ⟨rfl,?_⟩
  ·rw [results_cell_tmp (p:=6) (u:=7) (ty := 31) (by kernel_rfl)]
   have hg:=setCellG (setCellG q1'' 0 (.int .i64 (mR (pickAm (allMarks rows).reverse p)))) 1 (.int .i64 (mC (pickAm (allMarks rows).reverse p)))
   have:=run_loadVar_row (P:=Try.prog) _ _ _ 31 _ _ ((Try.prog.underlying 31).getD default) hg (by kernel_rfl) (by kernel_rfl) (by kernel_rfl)
   simp only [asAddr,Array.getD]
   simp [this]
  ·exact (((((below2 W _ _).trans (hb.mono (by omega))).trans ⟨R1.os,R1.tape,R1.output,Nat.le_of_eq R1.size.symm,fun k hk=>R1.block k (by omega)⟩).trans (hb3.mono (by omega))).setCell (Nat.le_succ _) _).setCell (Nat.le_succ _) _
def q1 (rows:List Row) (p:Point):Mark:=pickAm (allMarks rows).reverse p
def clipQ (rows:List Row) (p:Point) (ds:List D):Prop:=ds = [rowT.slD rows,ptD p,.int .i64 1] ∧ smallR rows∧1≤rows.length∧(allMarks rows).length < 100000000
open Classical in
noncomputable def extClip (rows:List Row) (p:Point) (ds:List D):Option V :=
 if clipQ rows p ds then some (.d (.tup [.agg [.int .i64 (mR (q1 rows p)),.int .i64 (mC (q1 rows p))],.int .i64 0])) else upF X0 FCl ds
theorem ansUpF {X:Ctx} {f:FuncId} {ds:List D} {v:V} (hv:v.pure = true) (h:Ans X f (ds.map V.d) v):upF X f ds = some v:=by
 unfold upF
 have hx:∃ y:V,y.pure = true∧Ans X f (ds.map V.d) y:=⟨v,hv,h⟩
 rw [dif_pos hx,(Classical.choose_spec hx).2.uniq h]
theorem extOk1_upF {X:Ctx} {f:FuncId} (hfz:∀ t,X.frz t = X.frz t) (hx:ExtOk X) (hxp:ExtPure X) (hxi:ExtIOk X):ExtOk1 X f (upF X f):=by
 intro ds y hy w g vargs hf hg hp p hpos
 unfold upF at hy
 split at hy
 ·rename_i h
  cases hy
  obtain ⟨h1,K,h2⟩:=Classical.choose_spec h
  exact (callN_ok hfz hx hxp hxi FUEL K).1 f (ds.map V.d) _ (h2 K (Nat.le_refl K)) (pure_map ds) w g vargs hf hg (ptv_of hp) p hpos
 ·cases hy
theorem ptd3 {w:World} {e:Nat→Nat} {vargs:List Value} {a b c:D} (h:PtD w e vargs [a,b,c]):∃ u v x,vargs = [u,v,x] ∧ RepD w e u a∧RepD w e v b∧RepD w e x c:=by
 match vargs,h with
 | [u,v,x],h=>exact ⟨u,v,x,rfl,h.2 0 u a rfl rfl,h.2 1 v b rfl rfl,h.2 2 x c rfl rfl⟩
 | [],h=>have:=h.1;simp at this
 | [_],h=>have:=h.1;simp at this
 | [_,_],h=>have:=h.1;simp at this
 | _ :: _ :: _ :: _ :: _,h=>have:=h.1;simp at this
theorem run_of {f:FuncId} {fn:Func} (h1:Try.prog.funcs[f]? = some fn) (h2:(fn.name == "runtime.NumGoroutine") = false) {c:Code} (h3:fn.body = some c) {Q:Prop} (q:Q):∃ fn,X0.P.funcs[f]? = some fn∧(fn.name == "runtime.NumGoroutine") = false∧((∃ c,fn.body = some c)∧Q):=⟨fn,h1,h2,⟨c,h3⟩,q⟩
theorem keep_below {g:Gh} {w w':World} (hf:Fresh g w) (h:Below w.heap.size w w'):Keep g w g w' where
 os:=h.os
 tape:=h.tape
 output:=h.output
 size:=h.size
 block:=h.block
 own:=fun _ _=>rfl
 e:=fun _ _=>rfl
 μ:=fun _ _ k=>k
 pin:=rfl
 μeq:=rfl
 fresh:=fun b hb=>hf b (Nat.le_trans h.size hb)
theorem ext_clip (rows:List Row) (p:Point):ExtOk1 X0 FCl (extClip rows p):=by
 intro ds y hy w g vargs hf hg hp q hpos
 unfold extClip at hy
 split at hy
 ·rename_i hc
  cases hy
  obtain ⟨rfl,hs,hr,hl⟩:=hc
  obtain ⟨v0,v1,v2,rfl,r0,r1,r2⟩:=ptd3 hp
  refine run_of Try.func23 (by kernel_rfl) rfl ?_
  have hsl:∃ a c,v0 = .slice a rows.length c:=by
   have r0:=r0
   generalize hd:rowT.slD rows = d at r0
   cases r0 with
   | sl b o n c cells vals hn hvl he hcc hr =>
    simp only [Ty.slD,D.sl.injEq] at hd
    obtain ⟨_,rfl⟩:=hd
    exact ⟨_,_,rfl⟩
   | sl0 a c h =>
    simp only [Ty.slD,D.sl.injEq] at hd
    have:rows.length = 0:=hd.2
    omega
   | _=>cases hd
  obtain ⟨a,c,rfl⟩:=hsl
  have hpt:v1 = .agg #[.int .i64 (ptR p),.int .i64 (ptC p)]:=by
   cases r1 with
   | agg vals cells hvl hr =>
    match vals,hvl with
    | [a,b],_ =>
     have q0:=hr 0 a _ rfl rfl
     have q1:=hr 1 b _ rfl rfl
     cases q0
     cases q1
     rfl
  subst hpt
  cases r2
  refine (clip_walk rows p hs hr (fun h=>by have:=marks_ne rows hr;rw [h] at this;simp at this) hl a c w g hf r0).mono ?_
  rintro E w' ⟨rfl,hb⟩
  refine ⟨_,g,rfl,keep_below hf hb,.d _ _ _ ?_⟩
  refine .tup [_,_] _ rfl fun j v d h1 h2=>?_
  match j with
  | 0=>simp at h1 h2;subst h1;subst h2;exact .agg [_,_] _ rfl fun j v d a b=>by
         match j with
         | 0=>simp at a b;subst a;subst b;exact .int _ _
         | 1=>simp at a b;subst a;subst b;exact .int _ _
         | j + 2=>simp at a
  | 1=>simp at h1 h2;subst h1;subst h2;exact .int _ _
  | j + 2=>simp at h1
 ·exact extOk1_upF (fun _=>rfl) ext0_ok ext0_pure ext0_iok ds y hy w g vargs hf hg hp q hpos
end Go.Proofs.Ytaobccodpdmieaa.Points
