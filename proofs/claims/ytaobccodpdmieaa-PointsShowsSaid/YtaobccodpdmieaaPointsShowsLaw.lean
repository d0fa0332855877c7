/- bodkin: the law PointsShows, from its run to its statement: for every input it returns true and its arguments read as before. No conditions. -/
import Derived.Test.YtaobccodpdmieaaRows
import Derived.WalkKit
import Derived.JoinedCond
import Derived.Carry
import Derived.SizedLaws
import Derived.Test.YtaobccodpdmieaaMPointsShowsLaw10
set_option linter.unusedVariables false
set_option linter.unusedSimpArgs false
set_option maxRecDepth 100000
set_option maxHeartbeats 4000000
namespace Go.Proofs.Ytaobccodpdmieaa.Lay
open Go Pv G Utf
def keysRn (x pa:Int):Nat→Nat→List Key
 | _,0=>[]
 | k,n + 1=>(x,atR x pa k) :: keysRn x pa (k + 1) n
def okK (x:Int):Prop:=x = 1∨x = 2∨x = 3
theorem isK_kind {c:Cell} (h:okK (kdC c)):isK c = true:=by
 unfold isK
 rcases h with h | h | h <;> simp [h]
theorem filt_four (n:Nat) (a:Int):(List.replicate n (C4 32 4 1 a)).filter isK = []:=by
 rw [List.filter_eq_nil_iff]
 intro c hc
 rw [List.mem_replicate] at hc
 rw [hc.2]
 have:isK (C4 32 4 1 a) = false:=rfl
 rw [this];simp
theorem cellR_keys (x pa:Int) (k:Nat) (z s:Int) (hx:okK x):((cellR x pa k z s).filter isK).map keyC = [(x,atR x pa k)]:=by
 unfold cellR
 split
 ·rw [List.filter_cons,if_pos (isK_kind (show okK (kdC (C4 z x 1 (atR x pa k))) from hx)),filt_four];rfl
 ·rw [List.filter_cons,if_pos (isK_kind (show okK (kdC (C4 z x s (atR x pa k))) from hx))];rfl
theorem cellsL_keys (x pa:Int) (hx:okK x):∀ (rs ss:List Int) (k:Nat),rs.length≤ss.length→((cellsL x pa k rs ss).filter isK).map keyC = keysRn x pa k rs.length
 | [],ss,k,_=>by simp [cellsL,keysRn]
 | z :: rs,[],k,h=>by simp at h
 | z :: rs,s :: ss,k,h=>by
  simp only [cellsL,List.filter_append,List.map_append,cellR_keys x pa k z s hx,List.length_cons]
  rw [cellsL_keys x pa hx rs ss (k + 1) (by simpa using h)]
  rfl
def keysP (p:Part):List Key:=keysRn p.1 p.2.1 0 (rnOf p).length
def PK (l:List Part):Prop:=∀ p ∈ l,okK (kdP p)
theorem cellsA_keys:∀ (l:List Part) (ss:List Int),PK l→(runesA l).length≤ss.length→((cellsA l ss).filter isK).map keyC = l.flatMap keysP
 | [],ss,_,_=>by simp [cellsA]
 | p :: l,ss,h,hs=>by
  have e:runesA (p :: l) = rnOf p ++ runesA l:=rfl
  rw [e,List.length_append] at hs
  simp only [cellsA,List.filter_append,List.map_append,List.flatMap_cons]
  rw [cellsL_keys p.1 p.2.1 (h p (by simp)) (rnOf p) ss 0 (by omega),cellsA_keys l _ (fun q hq=>h q (by simp [hq])) (by rw [List.length_drop];omega)]
  rfl
theorem cellsOf_keys (zl wl:List Rng) (tab:Int) (l:List Part) (h:PK l):((cellsOf zl wl tab l).filter isK).map keyC = l.flatMap keysP :=
 cellsA_keys l _ h (by rw [sizesL_len];exact Nat.le_refl _)
def nk (k:Key):Bool:=decide (¬ k.1 = 2)
theorem nv_of_k (l:List Cell):((l.filter nvC).map keyC) = ((l.filter isK).map keyC).filter nk:=by
 rw [List.filter_map,List.filter_filter]
 congr 1
 apply List.filter_congr
 intro c _
 show nvC c = (decide (¬ kdC c = 2) && isK c)
 unfold nvC isK
 generalize kdC c = x
 by_cases h1:x = 1
 ·subst h1;rfl
 ·by_cases h2:x = 2
  ·subst h2;rfl
  ·by_cases h3:x = 3
   ·subst h3;rfl
   ·simp [h1,h2,h3]
theorem keysLN_of (zl wl:List Rng) (tab:Int) (l:Line):keysLN zl wl tab l = (keysLK zl wl tab l).filter nk:=by
 unfold keysLN keysLK
 rw [List.filter_append,nv_of_k]
 congr 1
def vK (il:List Inl) (k:Nat):List Key:=((il.filter (inW (k:Int) (k:Int))).map (partI (k:Int))).flatMap keysP
def keysG (r:List Int) (il:List Inl) (hid:List Span):Nat→Nat→List Key
 | 0,k=>vK il k
 | f + 1,k =>
  if r.length≤k∨shB r hid (k:Int) = true then vK il k
  else if 0≤(hidAt hid (k:Int)).2 then vK il k ++ (3,(k:Int)) :: keysG r il hid f (hidAt hid (k:Int)).2.toNat
  else vK il k ++ (1,(k:Int)) :: keysG r il hid f (k + 1)
theorem keysRn_succ (x pa:Int):∀ n k,keysRn x pa k (n + 1) = keysRn x pa k n ++ [(x,atR x pa (k + n))]
 | 0,k=>rfl
 | n + 1,k=>by
  show (x,atR x pa k) :: keysRn x pa (k + 1) (n + 1) = (x,atR x pa k) :: keysRn x pa (k + 1) n ++ [(x,atR x pa (k + (n + 1)))]
  rw [keysRn_succ x pa n (k + 1),List.cons_append,show k + 1 + n = k + (n + 1) by omega]
theorem addP_keys (l:List Part) (z:Int) (k:Nat):(addP l z (k:Int)).flatMap keysP = l.flatMap keysP ++ [(1,(k:Int))]:=by
 rcases addP_cases l z (k:Int) with e | ⟨d,p,e1,e2,e3,e4⟩
 ·rw [e,List.flatMap_append]
  congr 1
 ·rw [e4,e1,List.flatMap_append,List.flatMap_append,List.append_assoc]
  congr 1
  show keysP (P3 1 p.2.1 (p.2.2.1 ++ [z])) ++ [] = keysP p ++ [] ++ [(1,(k:Int))]
  have r1:rnOf (P3 1 p.2.1 (p.2.2.1 ++ [z])) = p.2.2.1 ++ [z]:=rfl
  have r2:rnOf p = p.2.2.1:=by
   unfold rnOf
   exact if_neg (fun h=>absurd (e2.symm.trans h) (by decide))
  unfold keysP
  rw [r1,r2,List.length_append,List.length_singleton,List.append_nil,List.append_nil,keysRn_succ,e2]
  congr 2
  show ((1:Int),atR 1 p.2.1 (0 + p.2.2.1.length)) = (1,(k:Int))
  rw [← e3,Nat.zero_add]
  rfl
theorem withI_keys (il:List Inl) (k:Nat) (parts:List Part):(withI il k parts).flatMap keysP = parts.flatMap keysP ++ vK il k:=by
 unfold withI vK
 rw [List.flatMap_append]
theorem goA_keys (r:List Int) (il:List Inl) (hid:List Span):∀ (f k:Nat) (parts:List Part),(goA r il hid f k parts).1.flatMap keysP = parts.flatMap keysP ++ keysG r il hid f k
 | 0,k,parts=>withI_keys il k parts
 | f + 1,k,parts=>by
  unfold goA keysG
  split
  ·exact withI_keys il k parts
  ·split
   ·rw [goA_keys r il hid f,List.flatMap_append,withI_keys]
    have:[P3 3 (k:Int) []].flatMap keysP = [(3,(k:Int))]:=rfl
    rw [this];simp
   ·rw [goA_keys r il hid f,addP_keys,withI_keys];simp
theorem PK.ins {il:List Inl} {k:Nat} {parts:List Part} (h:PK parts):PK (withI il k parts):=by
 intro p hp
 unfold withI at hp
 rcases List.mem_append.1 hp with hp | hp
 ·exact h p hp
 ·obtain ⟨x,_,rfl⟩:=List.mem_map.1 hp
  exact .inr (.inl rfl)
theorem PK.add {parts:List Part} (h:PK parts) (z:Int) (k:Int):PK (addP parts z k):=by
 rcases addP_cases parts z k with e | ⟨d,p,e1,e2,e3,e4⟩
 ·rw [e]
  intro q hq
  rcases List.mem_append.1 hq with hq | hq
  ·exact h q hq
  ·rw [List.mem_singleton] at hq;rw [hq];exact .inl rfl
 ·rw [e4]
  intro q hq
  rcases List.mem_append.1 hq with hq | hq
  ·exact h q (by rw [e1];exact List.mem_append_left _ hq)
  ·rw [List.mem_singleton] at hq;rw [hq];exact .inl rfl
theorem goA_PK (r:List Int) (il:List Inl) (hid:List Span):∀ (f k:Nat) (parts:List Part),PK parts→PK (goA r il hid f k parts).1
 | 0,k,parts,h=>h.ins
 | f + 1,k,parts,h=>by
  unfold goA
  split
  ·exact h.ins
  ·split
   ·refine goA_PK r il hid f _ _ (fun p hp=>?_)
    rcases List.mem_append.1 hp with hp | hp
    ·exact h.ins p hp
    ·rw [List.mem_singleton] at hp;rw [hp];exact .inr (.inr rfl)
   ·exact goA_PK r il hid f _ _ (h.ins.add _ _)
theorem lineAt_keys (r:List Int) (il:List Inl) (hid:List Span) (zl wl:List Rng) (tab:Int) (fr:Nat):((cellsOf zl wl tab (lineAt r il hid fr).1).filter isK).map keyC = keysG r il hid r.length fr:=by
 unfold lineAt
 rw [cellsOf_keys zl wl tab _ (goA_PK r il hid r.length fr [] (fun p hp=>by cases hp))]
 exact goA_keys r il hid r.length fr []
def leK (a b:Key):Prop:=a.2≤b.2
theorem keysRn_virt (pa:Int):∀ n k,∀ x ∈ keysRn 2 pa k n,x = (2,pa)
 | 0,k=>by simp [keysRn]
 | n + 1,k=>by
  intro x hx
  rcases List.mem_cons.1 hx with hx | hx
  ·rw [hx];rfl
  ·exact keysRn_virt pa n (k + 1) x hx
theorem vK_all (il:List Inl) (k:Nat):∀ x ∈ vK il k,x = (2,(k:Int)):=by
 intro x hx
 unfold vK at hx
 obtain ⟨p,hp,hx⟩:=List.mem_flatMap.1 hx
 obtain ⟨y,_,rfl⟩:=List.mem_map.1 hp
 exact keysRn_virt (k:Int) _ _ x hx
theorem pw_all {α:Type} (R:α→α→Prop) (l:List α) (h:∀ x ∈ l,∀ y ∈ l,R x y):l.Pairwise R:=by
 induction l with
 | nil=>exact List.Pairwise.nil
 | cons a l ih=>exact List.Pairwise.cons (fun b hb=>h a (by simp) b (by simp [hb])) (ih (fun x hx y hy=>h x (by simp [hx]) y (by simp [hy])))
theorem vK_pw (il:List Inl) (k:Nat):(vK il k).Pairwise leK:=pw_all _ _ (fun x hx y hy=>by rw [vK_all il k x hx,vK_all il k y hy];exact Int.le_refl _)
theorem keysG_ok (r:List Int) (il:List Inl) (hid:List Span) (hok:HidOk r.length hid):∀ (f k:Nat) (parts:List Part),k≤r.length→(keysG r il hid f k).Pairwise leK∧∀ x ∈ keysG r il hid f k,(k:Int)≤x.2∧x.2≤((goA r il hid f k parts).2:Int)
 | 0,k,parts,h=>⟨vK_pw il k,fun x hx=>by rw [vK_all il k x hx];exact ⟨Int.le_refl _,Int.le_refl _⟩⟩
 | f + 1,k,parts,h=>by
  have hb:∀ (b:Nat) (kd:Int) (parts2:List Part),k < b→b≤r.length →
    (vK il k ++ (kd,(k:Int)) :: keysG r il hid f b).Pairwise leK∧∀ x ∈ vK il k ++ (kd,(k:Int)) :: keysG r il hid f b,(k:Int)≤x.2∧x.2≤((goA r il hid f b parts2).2:Int):=by
   intro b kd parts2 hkb hbl
   obtain ⟨i1,i2⟩:=keysG_ok r il hid hok f b parts2 hbl
   have hg:=(goA_ge r il hid hok f b parts2 hbl).1
   refine ⟨List.pairwise_append.2 ⟨vK_pw il k,List.Pairwise.cons (fun y hy=>?_) i1,fun a ha c hc=>?_⟩,fun x hx=>?_⟩
   ·have:=(i2 y hy).1
    show (k:Int)≤y.2
    omega
   ·rw [vK_all il k a ha]
    show (k:Int)≤c.2
    rcases List.mem_cons.1 hc with hc | hc
    ·rw [hc];exact Int.le_refl _
    ·have:=(i2 c hc).1;omega
   ·rcases List.mem_append.1 hx with hx | hx
    ·rw [vK_all il k x hx]
     exact ⟨Int.le_refl _,by show (k:Int)≤_;omega⟩
    ·rcases List.mem_cons.1 hx with hx | hx
     ·rw [hx];exact ⟨Int.le_refl _,by show (k:Int)≤_;omega⟩
     ·have:=i2 x hx;exact ⟨by omega,this.2⟩
  unfold goA keysG
  split
  ·exact ⟨vK_pw il k,fun x hx=>by rw [vK_all il k x hx];exact ⟨Int.le_refl _,Int.le_refl _⟩⟩
  ·rename_i h1
   split
   ·rename_i h2
    obtain ⟨h3,y,hy,h4,_⟩:=hidAt_gt h2 (by omega)
    have h5:(hidAt hid (k:Int)).2≤r.length:=by rw [h4];exact hok y hy
    exact hb _ 3 _ (by omega) (by omega)
   ·have h6:k < r.length:=by
     apply Classical.byContradiction
     intro h7;exact h1 (.inl (by omega))
    exact hb _ 1 _ (by omega) (by omega)
def keysLn (r:List Int) (il:List Inl) (hid:List Span) (fr:Nat):List Key:=keysG r il hid r.length fr ++ [(0,((lineAt r il hid fr).2:Int))]
theorem keysLn_ok (r:List Int) (il:List Inl) (hid:List Span) (hok:HidOk r.length hid) (fr:Nat) (h:fr≤r.length):(keysLn r il hid fr).Pairwise leK∧∀ x ∈ keysLn r il hid fr,(fr:Int)≤x.2∧x.2≤((lineAt r il hid fr).2:Int):=by
 obtain ⟨h1,h2⟩:=keysG_ok r il hid hok r.length fr [] h
 have hg:=(lineAt_ge r il hid hok fr h).1
 unfold lineAt at hg
 unfold keysLn lineAt
 refine ⟨List.pairwise_append.2 ⟨h1,List.pairwise_singleton _ _,fun a ha b hb=>?_⟩,fun x hx=>?_⟩
 ·rw [List.mem_singleton] at hb
  rw [hb]
  exact (h2 a ha).2
 ·rcases List.mem_append.1 hx with hx | hx
  ·exact h2 x hx
  ·rw [List.mem_singleton] at hx
   rw [hx]
   exact ⟨by show (fr:Int)≤_;omega,Int.le_refl _⟩
def keysAll (r:List Int) (il:List Inl) (hid:List Span):Nat→Nat→List Key
 | 0,fr=>keysLn r il hid fr
 | f + 1,fr=>keysLn r il hid fr ++ if (lineAt r il hid fr).2 < r.length then keysAll r il hid f ((lineAt r il hid fr).2 + 1) else []
theorem allG_keys (r:List Int) (il:List Inl) (hid:List Span) (zl wl:List Rng) (tab:Int):∀ f fr,(allG r il hid f fr).flatMap (keysLK zl wl tab) = keysAll r il hid f fr
 | 0,fr=>by
  show keysLK zl wl tab (L3 (lineAt r il hid fr).1 fr (lineAt r il hid fr).2) ++ [] = keysLn r il hid fr
  unfold keysLK keysLn
  rw [List.append_nil]
  show ((cellsOf zl wl tab (lineAt r il hid fr).1).filter isK).map keyC ++ [((0:Int),((lineAt r il hid fr).2:Int))] = _
  rw [lineAt_keys]
 | f + 1,fr=>by
  rw [allG_succ,List.flatMap_cons]
  unfold keysAll
  congr 1
  ·unfold keysLK keysLn
   show ((cellsOf zl wl tab (lineAt r il hid fr).1).filter isK).map keyC ++ [((0:Int),((lineAt r il hid fr).2:Int))] = _
   rw [lineAt_keys]
  ·split
   ·exact allG_keys r il hid zl wl tab f _
   ·rfl
theorem keysAll_ok (r:List Int) (il:List Inl) (hid:List Span) (hok:HidOk r.length hid):∀ f fr,fr≤r.length→(keysAll r il hid f fr).Pairwise leK∧∀ x ∈ keysAll r il hid f fr,(fr:Int)≤x.2
 | 0,fr,h=>by
  obtain ⟨h1,h2⟩:=keysLn_ok r il hid hok fr h
  exact ⟨h1,fun x hx=>(h2 x hx).1⟩
 | f + 1,fr,h=>by
  obtain ⟨h1,h2⟩:=keysLn_ok r il hid hok fr h
  have hg:=lineAt_ge r il hid hok fr h
  unfold keysAll
  split
  ·rename_i h3
   obtain ⟨i1,i2⟩:=keysAll_ok r il hid hok f ((lineAt r il hid fr).2 + 1) (by omega)
   refine ⟨List.pairwise_append.2 ⟨h1,i1,fun a ha b hb=>?_⟩,fun x hx=>?_⟩
   ·have:=(h2 a ha).2
    have:=i2 b hb
    show a.2≤b.2
    omega
   ·rcases List.mem_append.1 hx with hx | hx
    ·exact (h2 x hx).1
    ·have:=i2 x hx;omega
  ·rw [List.append_nil]
   exact ⟨h1,fun x hx=>(h2 x hx).1⟩
def nxP (hid:List Span) (k:Nat):Nat:=if 0≤(hidAt hid (k:Int)).2 then (hidAt hid (k:Int)).2.toNat else k + 1
theorem nxP_gt (hid:List Span) (k:Nat):k < nxP hid k:=by
 unfold nxP
 split
 ·rename_i h
  have:=(hidAt_gt h (by omega)).1
  omega
 ·omega
theorem nxP_le {n:Nat} {hid:List Span} (hok:HidOk n hid) {k:Nat} (h:k < n):nxP hid k≤n:=by
 unfold nxP
 split
 ·rename_i h2
  obtain ⟨h3,y,hy,h4,_⟩:=hidAt_gt h2 (by omega)
  have h5:(hidAt hid (k:Int)).2≤n:=by rw [h4];exact hok y hy
  omega
 ·omega
def visA (n:Nat) (hid:List Span):Nat→Nat→List Int
 | 0,k=>[(k:Int)]
 | f + 1,k=>(k:Int) :: if k < n then visA n hid f (nxP hid k) else []
theorem visA_fuel (n:Nat) (hid:List Span):∀ f g k,n - k≤f→n - k≤g→visA n hid f k = visA n hid g k
 | 0,0,k,_,_=>rfl
 | 0,g + 1,k,h,_=>by show _ = (k:Int) :: _;rw [if_neg (by omega)];rfl
 | f + 1,0,k,_,h=>by show (k:Int) :: _ = _;rw [if_neg (by omega)];rfl
 | f + 1,g + 1,k,h1,h2=>by
  have:=nxP_gt hid k
  show (k:Int) :: _ = (k:Int) :: _
  rw [visA_fuel n hid f g (nxP hid k) (by omega) (by omega)]
theorem shB_no {r:List Int} {hid:List Span} {k:Nat} (h:shB r hid (k:Int) = true):k < r.length∧¬ 0≤(hidAt hid (k:Int)).2:=by
 unfold shB at h
 simp only [Bool.and_eq_true,decide_eq_true_eq] at h
 exact ⟨by omega,by omega⟩
theorem vK_nk (il:List Inl) (k:Nat):(vK il k).filter nk = []:=by
 rw [List.filter_eq_nil_iff]
 intro x hx
 rw [vK_all il k x hx]
 have:nk ((2:Int),(k:Int)) = false:=rfl
 rw [this];simp
def placesK (l:List Key):List Int:=(l.filter nk).map (fun x=>x.2)
theorem placesK_app (a b:List Key):placesK (a ++ b) = placesK a ++ placesK b:=by unfold placesK;rw [List.filter_append,List.map_append]
theorem placesK_v (il:List Inl) (k:Nat):placesK (vK il k) = []:=by unfold placesK;rw [vK_nk];rfl
def behind (n:Nat) (hid:List Span) (to:Nat):List Int:=if to < n then visA n hid (n - (to + 1)) (to + 1) else []
theorem keysG_vis (r:List Int) (il:List Inl) (hid:List Span) (hok:HidOk r.length hid):∀ (f k:Nat) (parts:List Part),r.length - k≤f→k≤r.length →
  visA r.length hid (r.length - k) k = placesK (keysG r il hid f k) ++ ((goA r il hid f k parts).2:Int) :: behind r.length hid (goA r il hid f k parts).2
 | 0,k,parts,h1,h2=>by
  obtain rfl:k = r.length:=by omega
  show visA r.length hid (r.length - r.length) r.length = placesK (vK il r.length) ++ (r.length:Int) :: behind r.length hid r.length
  rw [placesK_v]
  unfold behind
  rw [if_neg (by omega),Nat.sub_self];rfl
 | f + 1,k,parts,h1,h2=>by
  unfold keysG goA
  split
  ·rename_i h3
   rw [placesK_v]
   show visA r.length hid (r.length - k) k = (k:Int) :: behind r.length hid k
   unfold behind
   by_cases h4:k < r.length
   ·rw [if_pos h4]
    have h5:shB r hid (k:Int) = true:=by rcases h3 with h3 | h3;omega;exact h3
    have h6:=(shB_no h5).2
    obtain ⟨g,hg⟩:∃ g,r.length - k = g + 1:=⟨r.length - k - 1,by omega⟩
    rw [hg]
    show (k:Int) :: (if k < r.length then visA r.length hid g (nxP hid k) else []) = _
    have h7:nxP hid k = k + 1:=by unfold nxP;rw [if_neg h6]
    rw [if_pos h4,h7,show g = r.length - (k + 1) by omega]
   ·rw [if_neg h4,show r.length - k = 0 by omega];rfl
  ·rename_i h3
   have h4:k < r.length:=by
    apply Classical.byContradiction
    intro h7;exact h3 (.inl (by omega))
   have hn:=nxP_le hok h4
   have hg:=nxP_gt hid k
   have e:visA r.length hid (r.length - k) k = (k:Int) :: visA r.length hid (r.length - nxP hid k) (nxP hid k):=by
    obtain ⟨g,hg2⟩:∃ g,r.length - k = g + 1:=⟨r.length - k - 1,by omega⟩
    rw [hg2]
    show (k:Int) :: (if k < r.length then visA r.length hid g (nxP hid k) else []) = _
    rw [if_pos h4,visA_fuel r.length hid g (r.length - nxP hid k) (nxP hid k) (by omega) (by omega)]
   rw [e]
   split
   ·rename_i h5
    have h7:nxP hid k = (hidAt hid (k:Int)).2.toNat:=by unfold nxP;rw [if_pos h5]
    rw [h7] at hn hg ⊢
    rw [keysG_vis r il hid hok f _ (withI il k parts ++ [P3 3 (k:Int) []]) (by omega) hn,placesK_app,placesK_v]
    rfl
   ·rename_i h5
    have h7:nxP hid k = k + 1:=by unfold nxP;rw [if_neg h5]
    rw [h7] at hn hg ⊢
    rw [keysG_vis r il hid hok f _ (addP (withI il k parts) (i32T.nth r k) (k:Int)) (by omega) hn,placesK_app,placesK_v]
    rfl
theorem keysAll_vis (r:List Int) (il:List Inl) (hid:List Span) (hok:HidOk r.length hid):∀ f fr,r.length - fr≤f→fr≤r.length→placesK (keysAll r il hid f fr) = visA r.length hid (r.length - fr) fr
 | 0,fr,h1,h2=>by
  have hg:=lineAt_ge r il hid hok fr h2
  have e:=keysG_vis r il hid hok r.length fr [] (by omega) h2
  unfold keysAll keysLn
  rw [placesK_app,e]
  congr 1
  show [((lineAt r il hid fr).2:Int)] = ((lineAt r il hid fr).2:Int) :: behind r.length hid (lineAt r il hid fr).2
  unfold behind
  rw [if_neg (by omega)]
 | f + 1,fr,h1,h2=>by
  have hg:=lineAt_ge r il hid hok fr h2
  have e:=keysG_vis r il hid hok r.length fr [] (by omega) h2
  unfold keysAll keysLn
  rw [placesK_app,placesK_app,e,List.append_assoc]
  congr 1
  show [((lineAt r il hid fr).2:Int)] ++ _ = ((lineAt r il hid fr).2:Int) :: behind r.length hid (lineAt r il hid fr).2
  unfold behind
  rw [List.singleton_append]
  congr 1
  split
  ·exact keysAll_vis r il hid hok f _ (by omega) (by omega)
  ·rfl
def visD (n:Nat) (hid:List Span):List Int:=visA n hid n 0
theorem visA_ge (n:Nat) (hid:List Span):∀ f k,∀ x ∈ visA n hid f k,(k:Int)≤x
 | 0,k=>by intro x hx;rw [show visA n hid 0 k = [(k:Int)] from rfl,List.mem_singleton] at hx;omega
 | f + 1,k=>by
  intro x hx
  rcases List.mem_cons.1 hx with hx | hx
  ·omega
  ·split at hx
   ·have:=visA_ge n hid f _ x hx
    have:=nxP_gt hid k
    omega
   ·cases hx
theorem visA_inc (n:Nat) (hid:List Span):∀ f k,(visA n hid f k).Pairwise (fun a b=>a < b)
 | 0,k=>List.pairwise_singleton _ _
 | f + 1,k=>by
  refine List.Pairwise.cons (fun y hy=>?_) ?_
  ·split at hy
   ·have:=visA_ge n hid f _ y hy
    have:=nxP_gt hid k
    omega
   ·cases hy
  ·split
   ·exact visA_inc n hid f _
   ·exact List.Pairwise.nil
def frS (y:Span):Int:=y.1
def Vis (hid:List Span) (a:Int):Prop:=∀ y ∈ hid,¬ (frS y < a∧a < toS y)
structure HidD (n:Nat) (hid:List Span):Prop where
 ok:HidOk n hid
 pos:∀ y ∈ hid,(0:Int)≤frS y∧frS y < toS y
 ord:hid.Pairwise (fun x y=>toS x≤frS y)
theorem HidD.uniq {n:Nat} {hid:List Span} (h:HidD n hid) {x y:Span} (hx:x ∈ hid) (hy:y ∈ hid) {a:Int} (h1:frS x≤a) (h2:a < toS x) (h3:frS y≤a) (h4:a < toS y):x = y:=by
 obtain ⟨i,hi,rfl⟩:=List.mem_iff_getElem.1 hx
 obtain ⟨j,hj,rfl⟩:=List.mem_iff_getElem.1 hy
 have ho:=List.pairwise_iff_getElem.1 h.ord
 rcases Nat.lt_trichotomy i j with hij | hij | hij
 ·have h5:toS hid[i] ≤ frS hid[j]:=ho i j hi hj hij
  have:toS hid[i] ≤ a:=Int.le_trans h5 h3
  exact absurd h2 (by omega)
 ·subst hij;rfl
 ·have h5:toS hid[j] ≤ frS hid[i]:=ho j i hj hi hij
  have:toS hid[j] ≤ a:=Int.le_trans h5 h1
  exact absurd h4 (by omega)
theorem inS_iff (a:Int) (y:Span):inS a y = true ↔ frS y≤a∧a < toS y:=by
 unfold inS
 rw [Bool.and_eq_true,decide_eq_true_eq,decide_eq_true_eq]
 exact Iff.rfl
theorem hidAt_in {n:Nat} {hid:List Span} (h:HidD n hid) {y:Span} (hy:y ∈ hid) {a:Int} (h1:frS y≤a) (h2:a < toS y):hidAt hid a = (frS y,toS y):=by
 unfold hidAt
 cases e:hid.find? (inS a) with
 | none =>
  rw [List.find?_eq_none] at e
  exact absurd ((inS_iff a y).2 ⟨h1,h2⟩) (e y hy)
 | some z =>
  have h3:=(inS_iff a z).1 (List.find?_some e)
  have h4:=List.mem_of_find?_eq_some e
  rw [h.uniq hy h4 h1 h2 h3.1 h3.2];rfl
theorem Vis.next {n:Nat} {hid:List Span} (h:HidD n hid) {k:Nat} (hk:Vis hid (k:Int)):Vis hid (nxP hid k:Int):=by
 intro y hy ⟨h1,h2⟩
 have hp:=h.pos y hy
 unfold nxP at h1 h2
 split at h1
 ·rename_i h3
  rw [if_pos h3] at h2
  obtain ⟨h4,z,hz,h5,h6⟩:=hidAt_gt h3 (by omega)
  have h7:=(inS_iff _ _).1 h6
  have h8:(hidAt hid (k:Int)).2 = toS z:=by rw [h5];rfl
  have h9:(((hidAt hid (k:Int)).2.toNat:Nat):Int) = toS z:=by rw [← h8];omega
  rw [h9] at h1 h2
  have ho:=List.pairwise_iff_getElem.1 h.ord
  obtain ⟨i,hi,rfl⟩:=List.mem_iff_getElem.1 hy
  obtain ⟨j,hj,rfl⟩:=List.mem_iff_getElem.1 hz
  have hz2:=h.pos _ (List.getElem_mem hj)
  rcases Nat.lt_trichotomy i j with hij | hij | hij
  ·have h10:toS hid[i] ≤ frS hid[j]:=ho i j hi hj hij
   omega
  ·subst hij;omega
  ·have h10:toS hid[j] ≤ frS hid[i]:=ho j i hj hi hij
   omega
 ·rename_i h3
  rw [if_neg h3] at h2
  have h4:=hidAt_in h hy (a:=(k:Int)) (by omega) (by omega)
  rw [h4] at h3
  exact h3 (by show (0:Int)≤toS y;omega)
theorem visA_want {n:Nat} {hid:List Span} (h:HidD n hid):∀ f (k:Nat),n - k≤f→k≤n→Vis hid (k:Int)→∀ a:Int,(k:Int)≤a→a≤n →
  ∃ v ∈ visA n hid f k,v≤a∧(∀ w ∈ visA n hid f k,w≤a→w≤v)∧Vis hid v∧(v = a∨∃ y ∈ hid,frS y = v∧v < a∧a < toS y)
 | 0,k,h1,h2,hv,a,h3,h4=>by
  refine ⟨(k:Int),by rw [show visA n hid 0 k = [(k:Int)] from rfl];simp,h3,fun w hw _=>?_,hv,.inl (by omega)⟩
  rw [show visA n hid 0 k = [(k:Int)] from rfl,List.mem_singleton] at hw
  omega
 | f + 1,k,h1,h2,hv,a,h3,h4=>by
  by_cases hk:k < n
  ·by_cases ha:a < nxP hid k
   ·refine ⟨(k:Int),List.mem_cons_self,h3,fun w hw hwa=>?_,hv,?_⟩
    ·rcases List.mem_cons.1 hw with hw | hw
     ·omega
     ·rw [if_pos hk] at hw
      have:=visA_ge n hid f _ w hw
      omega
    ·by_cases e:(k:Int) = a
     ·exact .inl e
     ·right
      unfold nxP at ha
      split at ha
      ·rename_i h5
       obtain ⟨h6,z,hz,h7,h8⟩:=hidAt_gt h5 (by omega)
       have h9:=(inS_iff _ _).1 h8
       have h10:(hidAt hid (k:Int)).2 = toS z:=by rw [h7];rfl
       have h11:(((hidAt hid (k:Int)).2.toNat:Nat):Int) = toS z:=by rw [← h10];omega
       have h12:=hv z hz
       refine ⟨z,hz,by omega,by omega,by omega⟩
      ·omega
   ·have hn:=nxP_le h.ok hk
    have hg:=nxP_gt hid k
    obtain ⟨v,hv1,hv2,hv3,hv4,hv5⟩:=visA_want h f (nxP hid k) (by omega) hn (hv.next h) a (by omega) h4
    refine ⟨v,List.mem_cons_of_mem _ (by rw [if_pos hk];exact hv1),hv2,fun w hw hwa=>?_,hv4,hv5⟩
    rcases List.mem_cons.1 hw with hw | hw
    ·have:=visA_ge n hid f _ v hv1
     omega
    ·rw [if_pos hk] at hw
     exact hv3 w hw hwa
  ·refine ⟨(k:Int),List.mem_cons_self,h3,fun w hw _=>?_,hv,.inl (by omega)⟩
   rcases List.mem_cons.1 hw with hw | hw
   ·omega
   ·rw [if_neg hk] at hw;cases hw
theorem visD_want {n:Nat} {hid:List Span} (h:HidD n hid) (a:Int) (h0:0≤a) (h1:a≤n) :
  ∃ v ∈ visD n hid,v≤a∧(∀ w ∈ visD n hid,w≤a→w≤v)∧Vis hid v∧(v = a∨∃ y ∈ hid,frS y = v∧v < a∧a < toS y) :=
 visA_want h n 0 (by omega) (by omega) (fun y hy h2=>by have:=h.pos y hy;omega) a (by omega) h1
def leF (x y:Span):Prop:=frS x≤frS y
theorem ltS_yes {x y:Span} (h:ltS x.1 x.2.1 y = true):frS x≤frS y:=by
 unfold ltS at h
 have h2:frS x < frS y∨frS x = frS y∧toS x < toS y:=by
  have:(decide (frS x < frS y) || (decide (frS x = frS y) && decide (toS x < toS y))) = true:=h
  simpa using this
 omega
theorem ltS_no {x y:Span} (h:¬ ltS x.1 x.2.1 y = true):frS y≤frS x:=by
 unfold ltS at h
 have h2:¬ (frS x < frS y∨frS x = frS y∧toS x < toS y):=by
  intro h3
  apply h
  show (decide (frS x < frS y) || (decide (frS x = frS y) && decide (toS x < toS y))) = true
  simpa using h3
 omega
theorem insF_pw (x:Span):∀ l:List Span,l.Pairwise leF→(insB (ltS x.1 x.2.1) x l).Pairwise leF
 | [],_=>List.pairwise_singleton _ _
 | y :: l,h=>by
  obtain ⟨h1,h2⟩:=List.pairwise_cons.1 h
  unfold insB
  split
  ·rename_i q
   have:=ltS_yes q
   refine List.Pairwise.cons (fun z hz=>?_) h
   show frS x≤frS z
   rcases List.mem_cons.1 hz with hz | hz
   ·rw [hz];exact this
   ·have h3:frS y≤frS z:=h1 z hz
    omega
  ·rename_i q
   have:=ltS_no q
   refine List.Pairwise.cons (fun z hz=>?_) (insF_pw x l h2)
   rcases mem_insB _ _ _ z hz with hz | hz
   ·rw [hz];exact this
   ·exact h1 z hz
theorem foldF_pw:∀ (l out:List Span),out.Pairwise leF→(l.foldl putF out).Pairwise leF
 | [],out,h=>h
 | x :: l,out,h=>foldF_pw l _ (insF_pw x out h)
theorem hidR_ord:∀ (f:Nat) (l:List Span),l.length≤f→l.Pairwise leF→(∀ y ∈ l,0≤frS y∧frS y < toS y) →
  (hidR f l).Pairwise (fun x y=>toS x≤frS y)∧(∀ y ∈ hidR f l,0≤frS y∧frS y < toS y)∧∀ lo:Int,(∀ y ∈ l,lo≤frS y)→∀ y ∈ hidR f l,lo≤frS y
 | f,[],_,_,hp=>by
  have e:hidR f ([]:List Span) = []:=hidR_small f [] (by simp)
  rw [e]
  exact ⟨List.Pairwise.nil,hp,fun lo h=>h⟩
 | f,[x],_,_,hp=>by
  have e:hidR f [x] = [x]:=hidR_small f [x] (by simp)
  rw [e]
  exact ⟨List.pairwise_singleton _ _,hp,fun lo h=>h⟩
 | 0,x :: y :: r,hf,_,_=>by simp at hf
 | f + 1,x :: y :: r,hf,hs,hp=>by
  rw [hidR_two]
  obtain ⟨s1,s2⟩:=List.pairwise_cons.1 hs
  obtain ⟨s3,s4⟩:=List.pairwise_cons.1 s2
  have hx:=hp x (by simp)
  have hy:=hp y (by simp)
  have hxy:frS x≤frS y:=s1 y (by simp)
  split
  ·have e1:frS (S2 x.1 (mxI x.2.1 y.2.1)) = frS x:=rfl
   have e2:toS (S2 x.1 (mxI x.2.1 y.2.1)) = mxI (toS x) (toS y):=rfl
   have hm:toS x≤mxI (toS x) (toS y):=by unfold mxI;split <;> omega
   obtain ⟨i1,i2,i3⟩:=hidR_ord f (S2 x.1 (mxI x.2.1 y.2.1) :: r) (by simp at hf ⊢;omega) (List.Pairwise.cons (fun z hz=>by
    show frS (S2 x.1 (mxI x.2.1 y.2.1))≤frS z
    rw [e1]
    exact s1 z (by simp [hz])) s4) (fun z hz=>by
    rcases List.mem_cons.1 hz with hz | hz
    ·rw [hz,e1,e2];omega
    ·exact hp z (by simp [hz]))
   refine ⟨i1,i2,fun lo h=>i3 lo (fun z hz=>?_)⟩
   rcases List.mem_cons.1 hz with hz | hz
   ·rw [hz,e1];exact h x (by simp)
   ·exact h z (by simp [hz])
  ·rename_i q
   have q2:toS x≤frS y:=by
    apply Classical.byContradiction
    intro q3
    apply q
    show (decide (frS x < toS y) && decide (frS y < toS x)) = true
    rw [Bool.and_eq_true,decide_eq_true_eq,decide_eq_true_eq]
    omega
   obtain ⟨i1,i2,i3⟩:=hidR_ord f (y :: r) (by simp at hf ⊢;omega) s2 (fun z hz=>hp z (by simp [hz]))
   refine ⟨List.Pairwise.cons (fun z hz=>?_) i1,fun z hz=>?_,fun lo h z hz=>?_⟩
   ·refine i3 (toS x) (fun w hw=>?_) z hz
    rcases List.mem_cons.1 hw with hw | hw
    ·rw [hw];exact q2
    ·have:frS y≤frS w:=s3 w hw
     omega
   ·rcases List.mem_cons.1 hz with hz | hz
    ·rw [hz];exact hx
    ·exact i2 z hz
   ·rcases List.mem_cons.1 hz with hz | hz
    ·rw [hz];exact h x (by simp)
    ·exact i3 lo (fun w hw=>h w (by simp [hw])) z hz
theorem folds_D (n:Nat) (fl:List Span) (h:errF n fl = 0):HidD n (hidL (outF fl)):=by
 have h1:∀ y ∈ fl,0≤frS y∧frS y < toS y:=by
  intro y hy
  obtain ⟨k,hk,rfl⟩:=List.mem_iff_getElem.1 hy
  have h2:=firstErr_zero h k hk
  unfold wrF at h2
  rw [nth_get (e:=spanT) hk] at h2
  simp only at h2
  split at h2
  ·cases h2
  ·rename_i h3
   have h4:¬ (frS fl[k] < 0∨frS fl[k] ≥ toS fl[k] ∨ toS fl[k] > n):=h3
   omega
 obtain ⟨i1,i2,_⟩:=hidR_ord (outF fl).length (outF fl) (Nat.le_refl _) (foldF_pw fl [] List.Pairwise.nil) (fun y hy=>by
  rcases mem_foldF fl [] y hy with h | h
  ·cases h
  ·exact h1 y h)
 exact ⟨folds_ok n fl h,i2,i1⟩
structure DocM (n:Nat) (hid:List Span) (l:List Mark):Prop where
 hidD:HidD n hid
 ord:(l.map keyM).Pairwise leK
 vis:(l.filter nvM).map aOfM = visD n hid
 inc:l.Pairwise ptLt
theorem SmallD.docM {s:Str} {il:List Inl} {fl:List Span} {tab wd:Int} (h:SmallD s il fl tab wd 120):DocM (Cmp.dec s).length (hidL (outF fl)) (Points.allMarks (docRows s il fl tab wd)):=by
 have hD:=folds_D _ fl h.ef
 obtain ⟨h1,h2⟩:=rows_keys (Cmp.dec s) (outI il) (hidL (outF fl)) zP wP tab wd
 have hk:(allL (Cmp.dec s) (outI il) (hidL (outF fl))).flatMap (keysLK zP wP tab) = keysAll (Cmp.dec s) (outI il) (hidL (outF fl)) (Cmp.dec s).length 0:=allG_keys _ _ _ _ _ _ _ _
 have hn:(allL (Cmp.dec s) (outI il) (hidL (outF fl))).flatMap (keysLN zP wP tab) = (keysAll (Cmp.dec s) (outI il) (hidL (outF fl)) (Cmp.dec s).length 0).filter nk:=by
  rw [← hk,List.filter_flatMap]
  congr 1
  funext l
  exact keysLN_of zP wP tab l
 refine ⟨hD,?_,?_,marks_inc _⟩
 ·rw [hk] at h1
  exact (keysAll_ok (Cmp.dec s) (outI il) (hidL (outF fl)) hD.ok (Cmp.dec s).length 0 (Nat.zero_le _)).1.sublist h1
 ·have h3:((Points.allMarks (docRows s il fl tab wd)).filter nvM).map aOfM = ((((Points.allMarks (docRows s il fl tab wd)).filter nvM).map keyM).map (fun x=>x.2)):=by
   rw [List.map_map];rfl
  rw [h3]
  show (((Points.allMarks (rowsAll (Cmp.dec s) (outI il) (hidL (outF fl)) zP wP tab wd)).filter nvM).map keyM).map (fun x=>x.2) = _
  rw [h2,hn]
  exact keysAll_vis (Cmp.dec s) (outI il) (hidL (outF fl)) hD.ok (Cmp.dec s).length 0 (by omega) (Nat.zero_le _)
theorem last_max (F:List Mark) (hF:F.Pairwise (fun a b=>aOfM a < aOfM b)) {o:Mark} (ho:F.getLast? = some o):∀ m ∈ F,aOfM m < aOfM o∨m = o:=by
 obtain ⟨pre,rfl⟩:=List.getLast?_eq_some_iff.1 ho
 intro m hm
 rw [List.pairwise_append] at hF
 rcases List.mem_append.1 hm with hm | hm
 ·exact .inl (hF.2.2 m hm o (by simp))
 ·rw [List.mem_singleton] at hm;exact .inr hm
theorem filter_nvLe (at_:Int) (l:List Mark):l.filter (nvLe at_) = (l.filter nvM).filter (fun m=>decide (aOfM m≤at_)):=by
 rw [List.filter_filter]
 congr 1
 funext m
 unfold nvLe nvM
 exact Bool.and_comm _ _
theorem DocM.org {n:Nat} {hid:List Span} {l:List Mark} (h:DocM n hid l) (a:Int) (h0:0≤a) (h1:a≤n) :
  ∃ o,orgM a l = some o∧aOfM o≤a∧Vis hid (aOfM o)∧(aOfM o = a∨∃ y ∈ hid,frS y = aOfM o∧aOfM o < a∧a < toS y):=by
 obtain ⟨v,hv1,hv2,hv3,hv4,hv5⟩:=visD_want h.hidD a h0 h1
 have hinc:(l.filter nvM).Pairwise (fun a b=>aOfM a < aOfM b):=by
  have:=visA_inc n hid n 0
  rw [show visA n hid n 0 = visD n hid from rfl,← h.vis,List.pairwise_map] at this
  exact this
 rw [← h.vis] at hv1
 obtain ⟨m,hm,e⟩:=List.mem_map.1 hv1
 have hm2:=List.mem_filter.1 hm
 have hnv:nvLe a m = true:=by
  have h3:=hm2.2
  unfold nvM at h3
  unfold nvLe
  rw [h3,Bool.true_and,decide_eq_true_eq,e];exact hv2
 obtain ⟨o,ho⟩:=org_some hm2.1 hnv
 obtain ⟨o1,o2,o3⟩:=org_mem ho
 have hoN:o ∈ l.filter nvM:=List.mem_filter.2 ⟨o1,by unfold nvM;rw [decide_eq_true_eq];exact o2⟩
 have h4:aOfM o≤v:=hv3 _ (by rw [← h.vis];exact List.mem_map_of_mem hoN) o3
 have h5:v≤aOfM o:=by
  unfold orgM at ho
  rw [filter_nvLe] at ho
  rcases last_max _ (hinc.sublist List.filter_sublist) ho m (List.mem_filter.2 ⟨hm,by rw [decide_eq_true_eq,e];exact hv2⟩) with h6 | h6
  ·omega
  ·rw [← h6,e];exact Int.le_refl _
 have h6:aOfM o = v:=by omega
 refine ⟨o,ho,?_⟩
 rw [h6]
 exact ⟨hv2,hv4,hv5⟩
theorem docRows_last {s:Str} {il:List Inl} {fl:List Span} {tab wd:Int} (h:SmallD s il fl tab wd 120):0 < (docRows s il fl tab wd).length∧endOfR (docRows s il fl tab wd) = ((Cmp.dec s).length:Int):=by
 have hv:=h.view
 obtain ⟨pre,x,e,hx⟩:=rowsAll_last (Cmp.dec s) (outI il) (hidL (outF fl)) hv.ok zP wP tab wd
 have e2:docRows s il fl tab wd = pre ++ [x]:=e
 rw [e2]
 refine ⟨by simp,?_⟩
 unfold endOfR
 rw [List.length_append,List.length_singleton,Nat.add_sub_cancel]
 have:=nth_pre_append (e:=rowT) pre [x] 0
 rw [Nat.add_zero] at this
 rw [this]
 exact hx
theorem SmallD.rows {s:Str} {il:List Inl} {fl:List Span} {tab wd:Int} (h:SmallD s il fl tab wd 120):Points.smallR (docRows s il fl tab wd)∧(Points.allMarks (docRows s il fl tab wd)).length≤100000000:=by
 have h1:=h.view.smallR zP wP wd
 have h2:=Points.allMarks_len h1
 exact ⟨h1,by show (Points.allMarks (rowsAll (Cmp.dec s) (outI il) (hidL (outF fl)) zP wP tab wd)).length≤100000000;omega⟩
theorem showsLaw (s:Str) (il:List Inl) (fl:List Span) (tab wd at_ b:Int):Ans XR FSw [.d (.agg (docL s il fl tab wd)),rI at_,rI b] lawT:=by
 cases e:smallB s il fl tab wd 120 with
 | false=>exact swN s il fl tab wd at_ b e
 | true =>
  have h:=smallB_yes e
  obtain ⟨h1,h2⟩:=docRows_last h
  obtain ⟨h3,h4⟩:=h.rows
  obtain ⟨k,hk⟩:∃ k,k + 1 = (docRows s il fl tab wd).length:=⟨(docRows s il fl tab wd).length - 1,by omega⟩
  have h5:=h3.1
  by_cases b0:b = 0
  ·subst b0
   by_cases q0:at_ < 0
   ·exact swE20 s il fl tab wd at_ e _ rfl h1 h5 q0
   by_cases q1:at_ > ((Cmp.dec s).length:Int)
   ·exact swE30 s il fl tab wd at_ _ e _ rfl k hk h5 q0 h2 q1
   obtain ⟨o,ho,_⟩:=h.docM.org at_ (by omega) (by omega)
   exact sw0 s il fl tab wd at_ _ e _ rfl k hk h5 q0 h2 q1 h3 _ rfl h4 _ _ (showP_eq at_ 0 _ o ho) (rshowP_eq at_ 0 _ o ho)
  by_cases b1:b = 1
  ·subst b1
   by_cases q0:at_ < 0
   ·exact swE21 s il fl tab wd at_ e _ rfl h1 h5 q0
   by_cases q1:at_ > ((Cmp.dec s).length:Int)
   ·exact swE31 s il fl tab wd at_ _ e _ rfl k hk h5 q0 h2 q1
   obtain ⟨o,ho,_⟩:=h.docM.org at_ (by omega) (by omega)
   exact sw1 s il fl tab wd at_ _ e _ rfl k hk h5 q0 h2 q1 h3 _ rfl h4 _ _ (showP_eq at_ 1 _ o ho) (rshowP_eq at_ 1 _ o ho)
  exact swE1 s il fl tab wd at_ b e _ rfl h1 h5 b0 b1
end Go.Proofs.Ytaobccodpdmieaa.Lay
namespace Go.Proofs.Ytaobccodpdmieaa.pointsShows
open Go Go.ChangeShapes Go.WideShapes Go.ChangeAt Go.RowKit Pv G
abbrev T0:Ty:=(.st (.cons .str (.cons (.sl (.st (.cons (.int .i64) (.cons (.int .i64) (.cons (.int .i64) (.cons (.int .i64) (.cons .str .nil))))))) (.cons (.sl (.st (.cons (.int .i64) (.cons (.int .i64) .nil)))) (.cons (.int .i64) (.cons (.int .i64) .nil))))))
abbrev T1:Ty:=(.int .i64)
abbrev T2:Ty:=(.int .i64)
def Law:Prop:=∀ (y0:T0.ty) (y1:T1.ty) (y2:T2.ty),T0.ok y0→T1.ok y1→T2.ok y2→Ans X0 3 [.d (T0.argD y0),.d (T1.argD y1),.d (T2.argD y2)] (.d (.bool true))
theorem law:Law:=fun y0 y1 y2 _ _ _=>Lay.showsLaw y0.1 y0.2.1 y0.2.2.1 y0.2.2.2.1 y0.2.2.2.2.1 y1 y2
theorem own:ownKnob Try.prog.godebug = none:=by kernel_rfl
set_option maxRecDepth 100000 in
theorem contract (H:Type) (enc:TypeId × Value→H) (W:World) (base:Nat) (args:Array Value) (ds gs:List (DataW H)) (before:List MemPlace)
  (hval:∀ (j:Nat) t v,Try.f3.params[j]? = some t→args[j]? = some v→Value.okWide Try.prog W .any base t v)
  (hW:DataW.Whole enc Try.prog Try.f3.params.toList Rows.pointsShowsSpec.vars false W args.toList ds gs before)
  (hsz:(DataW.weightsEach Try.prog (Try.f3.params.toList ++ Rows.pointsShowsSpec.plain.varTypes Try.prog) (ds ++ gs)).all (· ≤ reachBytes) = true) :
  Calls Try.prog 3 args W fun e W' => ∃ v,e = .returned v∧Rows.pointsShowsSpec.post enc Try.prog Try.f3 false true false false W args v W':=by
 have hW':=hW
 have hlt:=hW.lt
 obtain ⟨p,q,hA0,hV,rfl,hfz,hnd⟩:=hW
 have hA:DataW.TrodAll enc Try.prog W 0 (fun _=>true) true Try.f3.params.toList args.toList ds p:=hA0
 rw [Try.params3] at hA hval hsz
 obtain ⟨v0,vs0,d0,ds0,p0,q0,hargs,rfl,rfl,h0,r0⟩:=trodAll_cons hA
 obtain ⟨v1,vs1,d1,ds1,p1,q1,rfl,rfl,rfl,h1,r1⟩:=trodAll_cons r0
 obtain ⟨v2,vs2,d2,ds2,p2,q2,rfl,rfl,rfl,h2,r2⟩:=trodAll_cons r1
 obtain ⟨rfl,rfl,rfl⟩:=trodAll_nil r2
 obtain rfl:args = #[v0,v1,v2]:=by cases args;simp_all
 obtain ⟨rfl,rfl⟩:=trodVars_none hV
 obtain ⟨y0,o0,e0⟩:=open_arg (T:=T0) (by kernel_rfl) (hval 0 _ v0 rfl rfl) h0 (fun n hn=>of_decide_eq_true (List.all_eq_true.1 hsz n (DataW.weights_mem_each (j:=0) rfl rfl n hn)))
 obtain ⟨y1,o1,e1⟩:=open_arg (T:=T1) (by kernel_rfl) (hval 1 _ v1 rfl rfl) h1 (fun n hn=>of_decide_eq_true (List.all_eq_true.1 hsz n (DataW.weights_mem_each (j:=1) rfl rfl n hn)))
 obtain ⟨y2,o2,e2⟩:=open_arg (T:=T2) (by kernel_rfl) (hval 2 _ v2 rfl rfl) h2 (fun n hn=>of_decide_eq_true (List.all_eq_true.1 hsz n (DataW.weights_mem_each (j:=2) rfl rfl n hn)))
 obtain ⟨K,hK⟩:=law y0 y1 y2 o0 o1 o2
 have run:=hK K (Nat.le_refl K)
 have hp:PtV X0 W (topG W) [v0,v1,v2] [.d (T0.argD y0),.d (T1.argD y1),.d (T2.argD y2)]:=by
  refine ⟨rfl,fun j v x k1 k2=>?_⟩
  match j with
  | 0=>simp at k1 k2;subst k1;subst k2;exact e0 _ _
  | 1=>simp at k1 k2;subst k1;subst k2;exact e1 _ _
  | 2=>simp at k1 k2;subst k1;subst k2;exact e2 _ _
  | j + 3=>simp at k1
 clear hA0
 simp only [List.append_nil] at hW'
 refine (law_calls run rfl (glob0 W _) hp).mono fun e W' ⟨he,hb⟩=>?_
 subst he
 exact ⟨_,rfl,post_of_below (pa:=_) (pv:=[]) hW' (fun _ _ _=>trodAll_cons_mk (shut_bool Try.underlying4 _) trodAll_mk0)
  (fun sp hsp=>(trodAll_cons_mk (WideElems.Trod_stays (by kernel_rfl) (by kernel_rfl) (of_decide_eq_true (by kernel_rfl)) h0 (fun x hx=>hb.same (hlt x (by simp [hx]))) (fun x hx=>hsp x (by simp [hx]))) (trodAll_cons_mk (WideElems.Trod_stays (by kernel_rfl) (by kernel_rfl) (of_decide_eq_true (by kernel_rfl)) h1 (fun x hx=>hb.same (hlt x (by simp [hx]))) (fun x hx=>hsp x (by simp [hx]))) (trodAll_cons_mk (WideElems.Trod_stays (by kernel_rfl) (by kernel_rfl) (of_decide_eq_true (by kernel_rfl)) h2 (fun x hx=>hb.same (hlt x (by simp [hx]))) (fun x hx=>hsp x (by simp [hx]))) trodAll_mk0))))
  (fun _ _=>rfl) (by simp) hb (ok_one (by kernel_rfl) rfl (okWide_bool_mk Try.underlying4 _))⟩
set_option maxRecDepth 100000 in
theorem lifted (os:Os) (started:os.Started) (H:Type) (enc:TypeId × Value→H) :
  ReturnsInHanded {} Try.checked os 3 .any (Rows.pointsShowsSpec.pre6 enc Try.prog Try.f3 Rows.pointsShowsRow.domain false) (Rows.pointsShowsSpec.post enc Try.prog Try.f3 false true false false):=by
 refine returnsInHanded_of_change_sized (C:=Try.checked) own started (by kernel_rfl) Try.func3
  (ChangeSpec.witness6 (enc:=enc) (C:=Try.checked) false ⟨#[],#[.agg #[.string ⟨#[]⟩,.slice none 0 0,.slice none 0 0,.int .i64 0,.int .i64 0],.int .i64 0,.int .i64 0],[]⟩ 8 (by kernel_rfl) (by kernel_rfl) (by kernel_rfl) (by kernel_rfl)) ?_
 intro W base args ds gs before hval hW hcnd hsz _
 exact contract H enc W base args ds gs before hval hW hsz
theorem holds:Rows.PointsShowsSaid :=
 OpenClaim.holds_of_wide 3 Try.f3 rfl rfl rfl rfl rfl rfl rfl ⟨rfl,rfl,rfl,rfl,rfl⟩ rfl rfl rfl rfl rfl (by kernel_rfl) Try.func3 (by kernel_rfl)
  (of_decide_eq_true (by kernel_rfl)) (by unfold Func.isWrapper;first | (rw [if_pos (by decide +kernel)];kernel_rfl) | (rw [if_neg (by decide +kernel)];exact ⟨rfl,rfl⟩))
  (fun os started H enc _=>lifted os started H enc)
end Go.Proofs.Ytaobccodpdmieaa.pointsShows
