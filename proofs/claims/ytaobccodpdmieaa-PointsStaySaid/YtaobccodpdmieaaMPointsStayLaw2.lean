/- Lemmas for the law PointsStayLaw: texts of mine, merged. -/
import Derived.MapKept
import Derived.Laws.MakeOwn
import Derived.Laws.BytesString
import Derived.Lib.OthersKept
import Derived.Lib.ConvBytes
import Derived.Test.YtaobccodpdmieaaMPointsStayLaw1
set_option linter.unusedSimpArgs false
set_option linter.unusedVariables false
set_option maxHeartbeats 4000000
namespace Go.Proofs.Ytaobccodpdmieaa.Pv
open Go
structure Mod (b:Nat) (w w':World):Prop where
 os:w'.os = w.os
 tape:w'.tape = w.tape
 output:w'.output = w.output
 size:w'.heap.size = w.heap.size
 block:∀ x,x ≠ b→w'.heap[x]? = w.heap[x]?
theorem mod_setRow {w:World} {b:Nat} {cs:Array Value}:Mod b w (w.setRow b cs) where
 os:=rfl
 tape:=rfl
 output:=rfl
 size:=by simp [World.setRow]
 block:=fun x hx=>by simp only [World.setRow,Array.getElem?_modify];rw [if_neg (fun h=>hx h.symm)]
section
variable {X:Ctx} {g:Gh} {w w':World} {b:Nat}
theorem Mod.repD (h:Mod b w w') (he:g.e b = 0) {v:Value} {d:D} (r:RepD w g.e v d):RepD w' g.e v d :=
 r.mono (fun x o ho=>by
  have hx:x ≠ b:=fun hh=>by subst hh;rw [he] at ho;omega
  exact World.cell?_of_block (w:=w) (a:=⟨x,o,none⟩) (h.block x hx)) fun _=>Nat.le_refl _
theorem Mod.repV (h:Mod b w w') (he:g.e b = 0) (ho:∃ id,g.own b = .obj id) {p:Own} {v:Value} {x:V} (r:RepV X w g p v x):RepV X w' g p v x:=by
 induction r with
 | d p v x r=>exact .d p v x (h.repD he r)
 | tail p E cells n b' c cur z vals hz hz0 hb hn hm hcur hcl hee hoo hp hv hr =>
  have hne:b' ≠ b:=fun hh=>by
   subst hh
   obtain ⟨id,hid⟩:=ho
   rw [hid] at hoo
   obtain ⟨t,i,j,hp | hp⟩:=hp <;> rw [hp] at hoo <;> cases hoo
  exact .tail p E cells n b' c cur z vals hz hz0 ((h.block b' hne).trans hb) hn hm hcur hcl hee hoo hp hv fun j v d h1 h2=>h.repD he (hr j v d h1 h2)
 | tail0 _ E=>exact .tail0 _ E
 | full p b' o cells n r=>exact .full p b' o cells n (h.repD he r)
 | obj p id off b' r=>exact .obj p id off b' r
 | osl p id off n c b' r hn=>exact .osl p id off n c b' r hn
 | clo p fn va vb a b' hla hlb _ _ iha ihb=>exact .clo p fn va vb a b' hla hlb iha ihb
 | agg p vals vs hl _ ih=>exact .agg p vals vs hl ih
 | tup p vals vs hl _ ih=>exact .tup p vals vs hl ih
 | mp p id b' r=>exact .mp p id b' r
 | it p id b' r=>exact .it p id b' r
theorem Mod.repOb (h:Mod b w w') (he:g.e b = 0) (ho:∃ id,g.own b = .obj id) {id b':Nat} {o:Ob} (hne:b' ≠ b) (r:RepOb X w g id b' o):RepOb X w' g id b' o:=by
 cases o with
 | cells vs=>obtain ⟨vals,T,h1,h2,h3,h4⟩:=r;exact ⟨vals,T,(h.block b' hne).trans h1,h2,h3,fun j v x k1 k2=>h.repV he ho (h4 j v x k1 k2)⟩
 | frozen ds=>obtain ⟨vals,T,h1,h2,h3,h4⟩:=r;exact ⟨vals,T,(h.block b' hne).trans h1,h2,h3,fun j v x k1 k2=>h.repD he (h4 j v x k1 k2)⟩
 | map es ck=>obtain ⟨en,h1,h2,h3,h4⟩:=r;exact ⟨en,(h.block b' hne).trans h1,h2,h3,fun j v x k1 k2=>⟨h.repD he (h4 j v x k1 k2).1,h.repD he (h4 j v x k1 k2).2⟩⟩
 | iter s pos=>exact ⟨(h.block b' hne).trans r.1,r.2⟩
theorem Mod.later (h:Mod b w w') (he:g.e b = 0) (ho:∃ id,g.own b = .obj id):Later g w g w' where
 os:=h.os
 tape:=h.tape
 output:=h.output
 size:=Nat.le_of_eq h.size.symm
 cells:=fun x o hlt=>by
  have hx:x ≠ b:=fun hh=>by subst hh;rw [he] at hlt;omega
  exact World.cell?_of_block (w:=w) (a:=⟨x,o,none⟩) (h.block x hx)
 e:=fun _=>Nat.le_refl _
 fgn:=fun x hx=>by
  have hne:x ≠ b:=fun hh=>by subst hh;obtain ⟨id,hid⟩:=ho;rw [hid] at hx;cases hx
  exact ⟨h.block x hne,hx,rfl⟩
 pin:=rfl
theorem Mod.glob (h:Mod b w w') (he:g.e b = 0) (ho:∃ id,g.own b = .obj id) (k:GlobOk X w g):GlobOk X w' g:=k.later (h.later he ho)
end
def Gh.give (g:Gh) (b:Nat) (p:Own):Gh:={ g with own:=fun x=>if x = b then p else g.own x }
section
variable {X:Ctx} {g:Gh} {w:World} {b:Nat} {p:Own}
theorem give_later (hb:g.own b ≠ .fgn):Later g w (g.give b p) w where
 os:=rfl
 tape:=rfl
 output:=rfl
 size:=Nat.le_refl _
 cells:=fun _ _ _=>rfl
 e:=fun _=>Nat.le_refl _
 fgn:=fun x hx=>by
  have hne:x ≠ b:=fun hh=>hb (by rw [← hh];exact hx)
  refine ⟨rfl,?_,rfl⟩
  simp only [Gh.give]
  rw [if_neg hne]
  exact hx
 pin:=rfl
end
def Gh.freeze (g:Gh) (b n:Nat):Gh:={ g with e:=fun x=>if x = b then n else g.e x }
section
variable {X:Ctx} {g:Gh} {w:World} {b n:Nat}
theorem freeze_e (he:g.e b≤n) (x:Nat):g.e x≤(g.freeze b n).e x:=by
 simp only [Gh.freeze]
 split
 ·rename_i h;rw [h];exact he
 ·exact Nat.le_refl _
theorem freeze_repD (he:g.e b≤n) {v:Value} {d:D} (r:RepD w g.e v d):RepD w (g.freeze b n).e v d:=r.mono (fun _ _ _=>rfl) (freeze_e he)
theorem freeze_repV (he:g.e b≤n) (ho:∃ id,g.own b = .obj id) {p:Own} {v:Value} {x:V} (r:RepV X w g p v x):RepV X w (g.freeze b n) p v x:=by
 induction r with
 | d p v x r=>exact .d p v x (freeze_repD he r)
 | tail p E cells m b' c cur z vals hz hz0 hb hn hm hcur hcl hee hoo hp hv hr =>
  have hne:b' ≠ b:=fun hh=>by
   subst hh
   obtain ⟨id,hid⟩:=ho
   rw [hid] at hoo
   obtain ⟨t,i,j,hp | hp⟩:=hp <;> rw [hp] at hoo <;> cases hoo
  exact .tail p E cells m b' c cur z vals hz hz0 hb hn hm hcur hcl (by simp only [Gh.freeze];rw [if_neg hne];exact hee) hoo hp hv fun j v d h1 h2=>freeze_repD he (hr j v d h1 h2)
 | tail0 _ E=>exact .tail0 _ E
 | full p b' o cells n r=>exact .full p b' o cells n (freeze_repD he r)
 | obj p id off b' r=>exact .obj p id off b' r
 | osl p id off n c b' r hn=>exact .osl p id off n c b' r hn
 | clo p fn va vb a b' hla hlb _ _ iha ihb=>exact .clo p fn va vb a b' hla hlb iha ihb
 | agg p vals vs hl _ ih=>exact .agg p vals vs hl ih
 | tup p vals vs hl _ ih=>exact .tup p vals vs hl ih
 | mp p id b' r=>exact .mp p id b' r
 | it p id b' r=>exact .it p id b' r
theorem freeze_repOb (he:g.e b≤n) (ho:∃ id,g.own b = .obj id) {id b':Nat} {o:Ob} (hne:b' ≠ b) (r:RepOb X w g id b' o):RepOb X w (g.freeze b n) id b' o:=by
 have hee:(g.freeze b n).e b' = g.e b':=by simp only [Gh.freeze];rw [if_neg hne]
 cases o with
 | cells vs=>obtain ⟨vals,T,h1,h2,h3,h4⟩:=r;exact ⟨vals,T,h1,h2,hee.trans h3,fun j v x k1 k2=>freeze_repV he ho (h4 j v x k1 k2)⟩
 | frozen ds=>obtain ⟨vals,T,h1,h2,h3,h4⟩:=r;exact ⟨vals,T,h1,h2,hee.trans h3,fun j v x k1 k2=>freeze_repD he (h4 j v x k1 k2)⟩
 | map es ck=>obtain ⟨en,h1,h2,h3,h4⟩:=r;exact ⟨en,h1,h2,hee.trans h3,fun j v x k1 k2=>⟨freeze_repD he (h4 j v x k1 k2).1,freeze_repD he (h4 j v x k1 k2).2⟩⟩
 | iter s pos=>exact ⟨r.1,hee.trans r.2⟩
theorem freeze_later (he:g.e b≤n) (ho:∃ id,g.own b = .obj id):Later g w (g.freeze b n) w where
 os:=rfl
 tape:=rfl
 output:=rfl
 size:=Nat.le_refl _
 cells:=fun _ _ _=>rfl
 e:=freeze_e he
 fgn:=fun x hx=>by
  have hne:x ≠ b:=fun hh=>by subst hh;obtain ⟨id,hid⟩:=ho;rw [hid] at hx;cases hx
  refine ⟨rfl,hx,?_⟩
  simp only [Gh.freeze]
  rw [if_neg hne]
 pin:=rfl
end
def Gh.box (g:Gh) (b:Nat):Gh:={ μ:=g.μ ++ [b],e:=g.e,own:=fun x=>if x = b then .obj g.μ.length else g.own x,pin:=g.pin }
theorem grow_box {g:Gh} {w:World} (hf:Fresh g w) (o:Obj):Grow g w (g.box w.heap.size) (w.alloc o) where
 os:=rfl
 tape:=rfl
 output:=rfl
 size:=by simp
 block:=fun b hb=>heap_alloc_old w o hb
 own:=fun b hb=>by simp only [Gh.box];rw [if_neg (by omega)]
 e:=fun _ _=>rfl
 μ:=fun id b hb=>by
  have hlt:=(List.getElem?_eq_some_iff.1 hb).1
  simp only [Gh.box]
  rw [List.getElem?_append_left hlt]
  exact hb
 pin:=rfl
 fresh:=fun b hb=>by
  simp at hb
  simp only [Gh.box]
  rw [if_neg (by omega)]
  exact hf b (by omega)
theorem RepV.anyPos {X:Ctx} {w:World} {g:Gh} {q:Own} {v:Value} {x:V} (r:RepV X w g .free v x):RepV X w g q v x :=
 match x,r with
 | .tail _ _ _,.tail0 _ _=>.tail0 _ _
 | .tail _ _ _,.tail _ _ _ _ _ _ _ _ _ _ _ _ _ _ _ _ _ _ hp _ _=>by obtain ⟨t,i,j,h | h⟩:=hp <;> cases h
 | .d _,r | .full _ _,r | .obj _ _,r | .osl _ _ _,r | .clo _ _ _,r | .agg _,r | .tup _,r | .mp _,r | .it _,r=>r.place fun _ _ _ hx=>by cases hx
def Gh.trunc (g:Gh) (n:Nat):Gh:={ g with μ:=g.μ.take n }
def Elder (X:Ctx) (w:World) (g:Gh) (n:Nat) (h:List Ob):Prop:=∀ (id b:Nat) (o:Ob),id < n→g.μ[id]? = some b→h[id]? = some o→RepOb X w (g.trunc n) id b o
def Low (X:Ctx) (w:World) (g:Gh) (base:Nat) (h:List Ob):Prop :=
 base≤h.length∧(∀ n,n≤base→(n = base∨g.pin.eld n)→Elder X w g n h)∧∀ (id b:Nat),id < base→g.pin.blocks[id]? = some b→g.μ[id]? = some b
theorem trunc_get {g:Gh} {n id b:Nat} (h:(g.trunc n).μ[id]? = some b):id < n∧g.μ[id]? = some b:=by
 simp only [Gh.trunc] at h
 rw [List.getElem?_take] at h
 split at h
 ·exact ⟨‹_›,h⟩
 ·cases h
theorem trunc_put {g:Gh} {n id b:Nat} (hn:id < n) (h:g.μ[id]? = some b):(g.trunc n).μ[id]? = some b:=by
 simp only [Gh.trunc]
 rw [List.getElem?_take,if_pos hn]
 exact h
theorem Grow.trunc {g g':Gh} {w w':World} (h:Grow g w g' w') (n:Nat):Grow (g.trunc n) w (g'.trunc n) w' where
 os:=h.os
 tape:=h.tape
 output:=h.output
 size:=h.size
 block:=h.block
 own:=h.own
 e:=h.e
 μ:=fun id b hb=>by obtain ⟨h1,h2⟩:=trunc_get hb;exact trunc_put h1 (h.μ id b h2)
 pin:=h.pin
 fresh:=h.fresh
structure Shift (p:Own) (g:Gh) (w:World) (g':Gh) (w':World):Prop where
 later:Later g w g' w'
 tails:∀ b,g.own b ≠ p→IsPos (g.own b)→w'.heap[b]? = w.heap[b]? ∧ g'.own b = g.own b∧g'.e b = g.e b
 objs:∀ (b id:Nat),g.own b = .obj id→w'.heap[b]? = w.heap[b]? ∧ g'.own b = .obj id∧g'.e b = g.e b
 μ:g'.μ = g.μ
 fresh:Fresh g' w'
section
variable {X:Ctx} {g g':Gh} {w w':World} {p:Own}
theorem Shift.trunc (s:Shift p g w g' w') (n:Nat):Shift p (g.trunc n) w (g'.trunc n) w' where
 later:=⟨s.later.os,s.later.tape,s.later.output,s.later.size,s.later.cells,s.later.e,s.later.fgn,s.later.pin⟩
 tails:=s.tails
 objs:=s.objs
 μ:=by simp only [Gh.trunc];rw [s.μ]
 fresh:=s.fresh
theorem Shift.repD (s:Shift p g w g' w') {v:Value} {d:D} (r:RepD w g.e v d):RepD w' g'.e v d:=r.mono s.later.cells s.later.e
theorem Shift.repV (s:Shift p g w g' w') (hp:p ≠ .free) {q:Own} {v:Value} {x:V} (r:RepV X w g q v x) (hq:q ≠ p):RepV X w' g' q v x:=by
 induction r with
 | d q v x r=>exact .d q v x (s.repD r)
 | tail q E cells n b c cur z vals hz hz0 hb hn hm hcur hcl he ho hpos hv hr =>
  obtain ⟨h1,h2,h3⟩:=s.tails b (by rw [ho];exact hq) (by rw [ho];exact hpos)
  exact .tail q E cells n b c cur z vals hz hz0 (h1.trans hb) hn hm hcur hcl (h3.trans he) (h2.trans ho) hpos hv fun j v d k1 k2=>s.repD (hr j v d k1 k2)
 | tail0 _ E=>exact .tail0 _ E
 | full q b o cells n r=>exact .full q b o cells n (s.repD r)
 | obj q id off b r=>exact .obj q id off b (by rw [s.μ];exact r)
 | osl q id off n c b r hn=>exact .osl q id off n c b (by rw [s.μ];exact r) hn
 | clo q fn va vb a b hla hlb _ _ iha ihb=>exact .clo q fn va vb a b hla hlb (fun j v x h1 h2=>iha j v x h1 h2 (Ne.symm hp)) (fun j v x h1 h2=>ihb j v x h1 h2 (Ne.symm hp))
 | agg q vals vs hl _ ih=>exact .agg q vals vs hl (fun j v x h1 h2=>ih j v x h1 h2 (Ne.symm hp))
 | tup q vals vs hl _ ih=>exact .tup q vals vs hl (fun j v x h1 h2=>ih j v x h1 h2 (Ne.symm hp))
 | mp q id b r=>exact .mp q id b (by rw [s.μ];exact r)
 | it q id b r=>exact .it q id b (by rw [s.μ];exact r)
theorem Shift.copy (s:Shift p g w g' w') (hp:p ≠ .free) {q r:Own} {v:Value} {x:V} (h:RepV X w g q v x):RepV X w' g' r v x.copy :=
 (s.repV hp (q:=.free) h.copy (Ne.symm hp)).anyPos
theorem Shift.glob (s:Shift p g w g' w') (k:GlobOk X w g):GlobOk X w' g':=k.later s.later
def copyAt:Own→List Ob→List Ob
 | .cell id j,h=>match h[id]? with
  | some (.cells vs)=>h.set id (.cells (vs.set j ((vs.getD j undefV).copy)))
  | _=>h
 | _,h=>h
theorem copyAt_length (p:Own) (h:List Ob):(copyAt p h).length = h.length:=by
 cases p <;> simp only [copyAt]
 split
 ·simp
 ·rfl
theorem Shift.repOb (s:Shift p g w g' w') (hp:p ≠ .free) {id b:Nat} {h:List Ob} {o o':Ob} (hown:g.own b = .obj id) (ho:h[id]? = some o) (ho':(copyAt p h)[id]? = some o') (r:RepOb X w g id b o):RepOb X w' g' id b o':=by
 obtain ⟨k1,k2,k3⟩:=s.objs b id hown
 have same:o' = o→(∀ j,p ≠ .cell id j)∨(∀ vs,o ≠ .cells vs)→RepOb X w' g' id b o':=by
  intro hoo hpos
  subst hoo
  cases o' with
  | cells vs =>
   obtain ⟨vals,T,h1,h2,h3,h4⟩:=r
   rcases hpos with hpos | hpos
   ·exact ⟨vals,T,k1.trans h1,h2,k3.trans h3,fun j v x i1 i2=>s.repV hp (h4 j v x i1 i2) (Ne.symm (hpos j))⟩
   ·exact (hpos vs rfl).elim
  | frozen ds=>obtain ⟨vals,T,h1,h2,h3,h4⟩:=r;exact ⟨vals,T,k1.trans h1,h2,k3.trans h3,fun j v x i1 i2=>s.repD (h4 j v x i1 i2)⟩
  | map es ck=>obtain ⟨en,h1,h2,h3,h4⟩:=r;exact ⟨en,k1.trans h1,h2,k3.trans h3,fun j v x i1 i2=>⟨s.repD (h4 j v x i1 i2).1,s.repD (h4 j v x i1 i2).2⟩⟩
  | iter t pos=>exact ⟨k1.trans r.1,k3.trans r.2⟩
 cases p with
 | cell i j =>
  simp only [copyAt] at ho'
  cases hi:h[i]? with
  | none =>
   simp only [hi] at ho'
   refine same (by rw [ho'] at ho;exact Option.some.inj ho) (.inl fun j' hh=>?_)
   cases hh
   rw [hi] at ho;cases ho
  | some oi =>
   cases oi with
   | cells vs =>
    simp only [hi] at ho'
    by_cases hid:i = id
    ·subst hid
     have hlt:i < h.length:=(List.getElem?_eq_some_iff.1 hi).1
     rw [List.getElem?_set_self hlt] at ho'
     cases ho'
     rw [hi] at ho
     cases ho
     obtain ⟨vals,T,h1,h2,h3,h4⟩:=r
     refine ⟨vals,T,k1.trans h1,by simpa using h2,k3.trans h3,fun j' v x i1 i2=>?_⟩
     rw [List.getElem?_set] at i2
     split at i2
     ·rename_i hjj
      subst hjj
      split at i2
      ·rename_i hlt2
       cases i2
       rw [List.getD_eq_getElem?_getD,List.getElem?_eq_getElem hlt2,Option.getD_some]
       exact s.copy hp (h4 j v vs[j] i1 (List.getElem?_eq_getElem hlt2))
      ·cases i2
     ·rename_i hjj
      exact s.repV hp (h4 j' v x i1 i2) (fun hh=>hjj (by cases hh;rfl))
    ·rw [List.getElem?_set_ne hid] at ho'
     exact same (by rw [ho'] at ho;exact Option.some.inj ho) (.inl fun j' hh=>hid (by cases hh;rfl))
   | _ =>
    simp only [hi] at ho'
    refine same (by rw [ho'] at ho;exact Option.some.inj ho) ?_
    by_cases hid:i = id
    ·subst hid
     rw [hi] at ho
     cases ho
     exact .inr (by intro vs hh;cases hh)
    ·exact .inl fun j' hh=>hid (by cases hh;rfl)
 | _=>exact same (by simp only [copyAt] at ho';rw [ho'] at ho;exact Option.some.inj ho) (.inl (by intro j hh;cases hh))
theorem Shift.repH (s:Shift p g w g' w') (hp:p ≠ .free) {h:List Ob} (r:RepH X w g h):RepH X w' g' (copyAt p h) where
 len:=by rw [s.μ,copyAt_length];exact r.len
 own:=fun id b hb=>by rw [s.μ] at hb;exact (s.objs b id (r.own id b hb)).2.1
 ob:=fun id b o hb ho=>by
  rw [s.μ] at hb
  obtain ⟨o0,h1,h2⟩:=r.get hb
  exact s.repOb hp (r.own id b hb) h1 ho h2
theorem Shift.low (s:Shift p g w g' w') (hp:p ≠ .free) {h:List Ob} (r:RepH X w g h) {base:Nat} (l:Low X w g base h):Low X w' g' base (copyAt p h):=by
 refine ⟨by rw [copyAt_length];exact l.1,fun n hn he id b o hid hb ho=>?_,fun id b hid hb=>by rw [s.later.pin] at hb;rw [s.μ];exact l.2.2 id b hid hb⟩
 rw [s.μ] at hb
 obtain ⟨o0,h1,_⟩:=r.get hb
 exact (s.trunc n).repOb hp (r.own id b hb) h1 ho (l.2.1 n hn (by rw [← s.later.pin];exact he) id b o0 hid hb h1)
end
theorem shift_give {g:Gh} {w:World} {b:Nat} {p q:Own} (hf:Fresh g w) (hb:g.own b = p) (hp:IsPos p):Shift p g w (g.give b q) w where
 later:=give_later (by rw [hb];obtain ⟨t,i,j,h | h⟩:=hp <;> rw [h] <;> intro hh <;> cases hh)
 tails:=fun x hx _=>by
  have hne:x ≠ b:=fun hh=>hx (by rw [hh];exact hb)
  exact ⟨rfl,by simp only [Gh.give];rw [if_neg hne],rfl⟩
 objs:=fun x id hx=>by
  have hne:x ≠ b:=fun hh=>by
   subst hh
   rw [hb] at hx
   obtain ⟨t,i,j,h | h⟩:=hp <;> rw [h] at hx <;> cases hx
  exact ⟨rfl,by simp only [Gh.give];rw [if_neg hne];exact hx,rfl⟩
 μ:=rfl
 fresh:=fun x hx=>by
  have hne:x ≠ b:=fun hh=>by
   subst hh
   have:=(hf x hx).1
   rw [hb] at this
   obtain ⟨t,i,j,h | h⟩:=hp <;> rw [h] at this <;> cases this
  simp only [Gh.give]
  rw [if_neg hne]
  exact hf x hx
theorem IsPos.ne_free {p:Own} (h:IsPos p):p ≠ .free:=by
 obtain ⟨t,i,j,h | h⟩:=h <;> rw [h] <;> intro hh <;> cases hh
structure Src (P:Program) (w:World) (size m:Nat) (x:Value) (news:List Value):Prop where
 len:∀ w',(Builtin.lenOf x).run P w' = .ok m w'
 cells:∀ w':World,(∀ a,w'.cell? a = w.cell? a)→(Builtin.firstCells size m x).run P w' = .ok ⟨news⟩ w'
theorem run_append_fit {P:Program} {w:World} {t u ty e:TypeId} {i:TypeInfo} (ht:P.underlying t = some (.slice e)) (hu:(∃ e',P.underlying u = some (.slice e'))∨P.underlying u = some .string) (hi:P.info? e = some i)
  {b n cap m:Nat} {cur:Array Value} {x:Value} {news:List Value} (hsrc:Src P w i.size m x news) (hb:w.heap[b]? = some (.cells cur e (0,0))) (hfit:n + m≤cap) (hsz:n * i.size + news.length≤cur.size)
  (h1:∀ v ∈ news,v.oneCell' = true) :
  (Builtin.append_ #[t,u] ty #[.slice (some ⟨b,0,none⟩) n cap,x]).run P w =
   .ok (.slice (some ⟨b,0,none⟩) (n + m) cap) (w.setRow b (cur.toList.take (n * i.size) ++ news ++ cur.toList.drop (n * i.size + news.length)).toArray):=by
 have hl:=hsrc.len w
 have hc:=hsrc.cells w fun _=>rfl
 have hst:=run_storeCells_at (P:=P) b (n * i.size) e news 0 cur w hb (by simpa using hsz) h1
 simp only [Nat.add_zero] at hst
 rcases hu with ⟨e',hu⟩ | hu <;>
 simp [Builtin.append_,run_underlying ht,run_underlying hu,Go.sizeOf,typeInfo,hi,hl,hfit,hc,Addr.add_lit,hst]
theorem run_append_new {P:Program} {w:World} {t u ty e:TypeId} {i:TypeInfo} {z:Value} (ht:P.underlying t = some (.slice e)) (hu:(∃ e',P.underlying u = some (.slice e'))∨P.underlying u = some .string) (hi:P.info? e = some i)
  (hz:i.zero = some z) (hzs:z.cells.size = i.size) {ad:Option Addr} {n cap m:Nat} {x:Value} {olds news:List Value} (hsrc:Src P w i.size m x news)
  (hold:∀ w':World,(∀ a,w'.cell? a = w.cell? a)→(Builtin.firstCells i.size n (.slice ad n cap)).run P w' = .ok ⟨olds⟩ w') (hol:olds.length = n * i.size) (hnl:news.length = m * i.size) (hno:cap < n + m) (hbig:(n + m) * i.bytes≤140737488355328) (hm:n + m≤maxLen) :
  ∃ c rest,n + m≤c∧c≤maxLen∧(olds ++ news ++ rest).length = c * i.size∧(Builtin.append_ #[t,u] ty #[.slice ad n cap,x]).run P w =
   .ok (.slice (some ⟨w.heap.size,0,none⟩) (n + m) c) (w.drew.alloc (.cells ⟨olds ++ news ++ rest⟩ e)):=by
 have hl:=hsrc.len w
 have hc:=hsrc.cells w.drew fun _=>rfl
 have ho:=hold w.drew fun _=>rfl
 have hnot:¬ n + m≤cap:=by omega
 have hg:=growslice_fits hno hbig
 have h48':¬ (281474976710656 < Builtin.nextslicecap (n + m) cap * i.bytes):=by omega
 have h63':¬ (9223372036854775807 < ((n:Int) + (m:Int))):=by simp only [maxLen] at hm;omega
 refine ⟨grownCap w (n + m) cap e,(Builtin.zeroCells z.cells (grownCap w (n + m) cap e - (n + m))).toList,grownCap_ge w (n + m) cap e,grownCap_le_maxLen w (n + m) cap e hm,?_,?_⟩
 ·have hcap1:=grownCap_ge w (n + m) cap e
  simp only [List.length_append,hol,hnl,Array.length_toList,size_zeroCells,hzs]
  rw [← Nat.add_mul,← Nat.add_mul]
  congr 1
  omega
 ·rcases hu with ⟨e',hu⟩ | hu
  all_goals
   simp [Builtin.append_,run_underlying ht,run_underlying hu,Go.sizeOf,typeInfo,zeroValue,hi,hz,hl,hnot,h63',h48',Question.forced,hc,ho,newRow,grownCap]
   congr 2
   apply Array.ext'
   simp [List.append_assoc]
theorem one_val {w:World} {e:Nat→Nat} {v:Value} {d:D} (r:RepD w e v d) (h:d.one = true):v.oneCell' = true:=by
 cases r <;> simp [D.one] at h <;> rfl
theorem PtD.one {w:World} {e:Nat→Nat} {vals:List Value} {ds:List D} (r:PtD w e vals ds) (h:ds.all D.one = true):∀ v ∈ vals,v.oneCell' = true:=by
 intro v hv
 obtain ⟨j,hj,rfl⟩:=List.mem_iff_getElem.1 hv
 have hlt:j < ds.length:=by rw [← r.1];exact hj
 exact one_val (r.2 j vals[j] ds[j] (List.getElem?_eq_getElem hj) (List.getElem?_eq_getElem hlt)) (by simp only [List.all_eq_true] at h;exact h _ (List.getElem_mem hlt))
theorem src_rep {X:Ctx} {w:World} {g:Gh} {q:Own} {u size m:Nat} {v:Value} {x:V} {cs:List D} (h:srcOf X.P u x = some (cs,m)) (hl:cs.length = m * size) (r:RepV X w g q v x) :
  ((∃ e',X.P.underlying u = some (.slice e'))∨X.P.underlying u = some .string)∧∃ news,Src X.P w size m v news∧PtD w g.e news cs:=by
 unfold srcOf at h
 split at h
 ·rename_i e' hu
  refine ⟨.inl ⟨e',hu⟩,?_⟩
  rcases V.slice?_rep h r with ⟨_,rfl,rfl,rfl⟩ | r'
  ·refine ⟨[],⟨fun w' => by simp [Builtin.lenOf],fun w' _=>by simp [Builtin.firstCells]⟩,⟨rfl,by simp⟩⟩
  ·cases r' with
   | sl0 ad cp _ =>
    refine ⟨[],⟨fun w' => by simp [Builtin.lenOf],fun w' _=>?_⟩,⟨rfl,by simp⟩⟩
    cases ad <;> simp [Builtin.firstCells,loadCells,loadCellsFrom]
   | sl b o _ c _ vals hn hlv he hc hr =>
    refine ⟨vals,⟨fun w' => by simp [Builtin.lenOf],fun w' hw=>?_⟩,⟨hlv,hr⟩⟩
    exact run_firstCells_some w' size m ⟨b,o,none⟩ m c vals (by rw [hlv,hl]) (fun j v hj=>by rw [Addr.add_lit,hw];exact hc j v hj)
 ·rename_i s hu
  simp at h
  obtain ⟨rfl,rfl⟩:=h
  refine ⟨.inr hu,?_⟩
  cases r with
  | d _ _ _ r =>
   cases r
   refine ⟨s.map fun b=>.int .u8 b.toNat,⟨fun w' => by simp [Builtin.lenOf,ByteArray.size],fun w' _=>?_⟩,⟨by simp,fun j v d h1 h2=>?_⟩⟩
   ·simp only [Builtin.firstCells,Sem.run_pure]
    congr 1
    apply Array.ext'
    rw [extract_mk]
    simp
   ·rw [List.getElem?_map] at h1 h2
    cases hs:s[j]? with
    | none=>simp [hs] at h1
    | some b=>simp [hs] at h1 h2;subst h1;subst h2;exact .int _ _
 ·cases h
def Gh.row (g:Gh) (b n:Nat) (q:Own):Gh:={ μ:=g.μ,e:=fun x=>if x = b then n else g.e x,own:=fun x=>if x = b then q else g.own x,pin:=g.pin }
theorem keep_row {g:Gh} {w w1:World} (hf:Fresh g w) (h1:w1.heap = w.heap) (h2:w1.os = w.os) (h3:w1.tape = w.tape) (h4:w1.output = w.output) (o:Obj) (n:Nat) (q:Own):Keep g w (g.row w.heap.size n q) (w1.alloc o) where
 os:=h2
 tape:=h3
 output:=h4
 size:=by simp [World.alloc,h1]
 block:=fun b hb=>by rw [heap_alloc_old w1 o (by rw [h1];exact hb),h1]
 own:=fun b hb=>by simp only [Gh.row];rw [if_neg (by omega)]
 e:=fun b hb=>by simp only [Gh.row];rw [if_neg (by omega)]
 μ:=fun _ _ h=>h
 pin:=rfl
 μeq:=rfl
 fresh:=fun b hb=>by
  have hb':w.heap.size + 1≤b:=by simpa [World.alloc,h1] using hb
  simp only [Gh.row]
  rw [if_neg (by omega),if_neg (by omega)]
  exact hf b (by omega)
theorem Keep.shift {g g':Gh} {w w':World} (k:Keep g w g' w') (hf:Fresh g w) (p:Own):Shift p g w g' w' where
 later:=k.later hf
 tails:=fun b _ hb=>by
  have hlt:b < w.heap.size:=by
   apply Classical.byContradiction;intro hn
   rw [(hf b (by omega)).1] at hb
   exact hb.ne_free rfl
  exact ⟨k.block b hlt,k.own b hlt,k.e b hlt⟩
 objs:=fun b id hb=>by
  have hlt:b < w.heap.size:=by
   apply Classical.byContradiction;intro hn
   rw [(hf b (by omega)).1] at hb
   cases hb
  exact ⟨k.block b hlt,(k.own b hlt).trans hb,k.e b hlt⟩
 μ:=k.μeq
 fresh:=k.fresh
theorem row_rep {X:Ctx} {w w1:World} {g:Gh} {E z c k:Nat} {vals rest:List Value} {ds:List D} (hf:Fresh g w) (h1:w1.heap = w.heap) (h2:w1.os = w.os) (h3:w1.tape = w.tape) (h4:w1.output = w.output)
  (hz:sizeT X.P E = some z) (hz0:0 < z) (hp:PtD w g.e vals ds) (hl:ds.length = k * z) (hkc:k≤c) (hm:c≤maxLen) (hlen:(vals ++ rest).length = c * z) {q:Own} (hq:IsPos q) :
  RepV X (w1.alloc (.cells ⟨vals ++ rest⟩ E)) (g.row w.heap.size (k * z) q) q (.slice (some ⟨w.heap.size,0,none⟩) k c) (.tail E ds k):=by
 have hk:=keep_row (q:=q) hf h1 h2 h3 h4 (.cells ⟨vals ++ rest⟩ E) (k * z)
 have hnew:(w1.alloc (.cells ⟨vals ++ rest⟩ E)).heap[w.heap.size]? = some (.cells ⟨vals ++ rest⟩ E (0,0)):=by
  have:=heap_alloc_new w1 (.cells ⟨vals ++ rest⟩ E)
  rw [h1] at this
  exact this
 refine .tail q E ds k _ c ⟨vals ++ rest⟩ z vals hz hz0 hnew hkc hm (by simpa using hlen) hl (by simp [Gh.row]) (by simp [Gh.row]) hq ?_ fun j v d a1 a2=>hk.repD hf (hp.2 j v d a1 a2)
 have:vals.length = k * z:=by rw [hp.1,hl]
 simp [← this]
theorem PtD.append {w:World} {e:Nat→Nat} {a b:List Value} {x y:List D} (h:PtD w e a x) (k:PtD w e b y):PtD w e (a ++ b) (x ++ y):=by
 refine ⟨by simp [h.1,k.1],fun j v z h1 h2=>?_⟩
 rw [List.getElem?_append] at h1 h2
 rw [h.1] at h1
 split at h1
 ·rename_i hlt;rw [if_pos hlt] at h2;exact h.2 j v z h1 h2
 ·rename_i hge;rw [if_neg hge] at h2;exact k.2 _ v z h1 h2
structure AppOk (X:Ctx) (w:World) (g:Gh) (t u E m:Nat) (i:TypeInfo) (zv x:Value) (cs:List D) (news:List Value):Prop where
 ht:X.P.underlying t = some (.slice E)
 hu:(∃ e',X.P.underlying u = some (.slice e'))∨X.P.underlying u = some .string
 hi:X.P.info? E = some i
 hz:i.zero = some zv
 hzs:zv.cells.size = i.size
 h0:0 < i.size
 src:Src X.P w i.size m x news
 pt:PtD w g.e news cs
 len:cs.length = m * i.size
 one:cs.all D.one = true
theorem AppOk.hsz {X:Ctx} {w:World} {g:Gh} {t u E m:Nat} {i:TypeInfo} {zv x:Value} {cs:List D} {news:List Value} (k:AppOk X w g t u E m i zv x cs news):sizeT X.P E = some i.size:=by
 simp [sizeT,k.hi]
section
variable {X:Ctx} {w:World} {g:Gh} {t u ty E m:Nat} {i:TypeInfo} {zv x:Value} {cs:List D} {news:List Value}
theorem append_full (k:AppOk X w g t u E m i zv x cs news) (hf:Fresh g w) {v:Value} {c:List D} {n:Nat} (hv:(v = .slice none 0 0∧c = [] ∧ n = 0)∨∃ b o,v = .slice (some ⟨b,o,none⟩) n n∧RepD w g.e v (.sl c n))
  (hcl:c.length = n * i.size) (hm:0 < m) (hbig:(n + m) * i.bytes≤bigLen) (hbl:n + m≤bigLen) {q:Own} (hq:IsPos q) :
  ∃ v' w' g',(Builtin.append_ #[t,u] ty #[v,x]).run X.P w = .ok v' w' ∧ Keep g w g' w' ∧ RepV X w' g' q v' (.tail E (c ++ cs) (n + m)):=by
 have hml:n + m≤maxLen:=by simp only [bigLen] at hbl;simp only [maxLen];omega
 have core:∀ (ad:Option Addr) (cap:Nat) (olds:List Value),cap≤n→v = .slice ad n cap→(∀ w':World,(∀ a,w'.cell? a = w.cell? a)→(Builtin.firstCells i.size n (.slice ad n cap)).run X.P w' = .ok ⟨olds⟩ w')→PtD w g.e olds c →
   ∃ v' w' g',(Builtin.append_ #[t,u] ty #[v,x]).run X.P w = .ok v' w' ∧ Keep g w g' w' ∧ RepV X w' g' q v' (.tail E (c ++ cs) (n + m)):=by
  intro ad cap olds hcap hv' hold hpo
  obtain ⟨cp,rest,h1,h2,h3,h4⟩:=run_append_new (ty:=ty) k.ht k.hu k.hi k.hz k.hzs k.src hold (by rw [hpo.1,hcl]) (by rw [k.pt.1,k.len]) (by omega) (by simpa [bigLen] using hbig) hml
  subst hv'
  refine ⟨_,_,g.row w.heap.size ((n + m) * i.size) q,h4,keep_row (w1:=w.drew) hf rfl rfl rfl rfl _ _ _,?_⟩
  exact row_rep (w1:=w.drew) hf rfl rfl rfl rfl k.hsz k.h0 (hpo.append k.pt) (by rw [List.length_append,hcl,k.len,Nat.add_mul]) h1 h2 h3 hq
 rcases hv with ⟨rfl,rfl,rfl⟩ | ⟨b,o,rfl,r⟩
 ·exact core none 0 [] (Nat.le_refl _) rfl (fun w' _=>by simp [Builtin.firstCells]) ⟨rfl,by simp⟩
 ·cases r with
  | sl0=>exact core (some ⟨b,o,none⟩) 0 [] (Nat.le_refl _) rfl (fun w' _=>by simp [Builtin.firstCells,loadCells,loadCellsFrom]) ⟨rfl,by simp⟩
  | sl _ _ _ _ _ vals hn hl he hc hr =>
   exact core (some ⟨b,o,none⟩) n vals (Nat.le_refl _) rfl (fun w' hw=>run_firstCells_some w' i.size n ⟨b,o,none⟩ n n vals (by rw [hl,hcl]) (fun j v hj=>by rw [Addr.add_lit,hw];exact hc j v hj)) ⟨hl,hr⟩
theorem append_none (k:AppOk X w g t u E 0 i zv x cs news) {ad:Option Addr} {n cap:Nat} (hn:n≤cap) :
  (Builtin.append_ #[t,u] ty #[.slice ad n cap,x]).run X.P w = .ok (.slice ad n cap) w:=by
 have hnews:news = []:=by
  have h1:=k.pt.1
  have h2:=k.len
  rw [Nat.zero_mul] at h2
  rw [h2] at h1
  exact List.eq_nil_of_length_eq_zero h1
 have hl:=k.src.len w
 have hc:=k.src.cells w fun _=>rfl
 rw [hnews] at hc
 rcases k.hu with ⟨e',hu⟩ | hu <;> cases ad <;>
 simp [Builtin.append_,run_underlying k.ht,run_underlying hu,Go.sizeOf,typeInfo,k.hi,hl,hn,hc,storeCells]
theorem append_tail (k:AppOk X w g t u E m i zv x cs news) (hf:Fresh g w) {p:Own} {v:Value} {c:List D} {n:Nat} (hv:RepV X w g p v (.tail E c n)) (hcl:c.length = n * i.size)
  (hbig:(n + m) * i.bytes≤bigLen) (hbl:n + m≤bigLen) {q:Own} (hq:IsPos q) :
  ∃ v' w' g',(Builtin.append_ #[t,u] ty #[v,x]).run X.P w = .ok v' w' ∧ Shift p g w g' w' ∧ RepV X w' g' q v' (.tail E (c ++ cs) (n + m)):=by
 have hml:n + m≤maxLen:=by simp only [bigLen] at hbl;simp only [maxLen];omega
 cases hv with
 | tail0 =>
  by_cases hm:0 < m
  ·obtain ⟨v',w',g',h1,h2,h3⟩:=append_full k hf (.inl ⟨rfl,rfl,rfl⟩) hcl hm hbig hbl hq
   exact ⟨v',w',g',h1,h2.shift hf p,h3⟩
  ·obtain rfl:m = 0:=by omega
   have hcs:cs = []:=List.eq_nil_of_length_eq_zero (by rw [k.len,Nat.zero_mul])
   subst hcs
   exact ⟨_,w,g,append_none k (Nat.le_refl _),(Keep.refl hf).shift hf p,.tail0 _ _⟩
 | tail _ _ _ _ b cap cur z vals hz hz0 hb hn hm hcur hcl' he ho hp hvv hr =>
  have hzz:z = i.size:=by have:=hz;rw [k.hsz] at this;exact (Option.some.inj this).symm
  subst hzz
  have hvl:vals.length = n * i.size:=by
   rw [← hvv,List.length_take,Array.length_toList,hcur]
   exact Nat.min_eq_left (Nat.mul_le_mul_right _ hn)
  have hpv:PtD w g.e vals c:=⟨by rw [hvl,hcl],hr⟩
  by_cases hfit:n + m≤cap
  ·have hnl:news.length = m * i.size:=by rw [k.pt.1,k.len]
   have hsz:n * i.size + news.length≤cur.size:=by rw [hnl,← Nat.add_mul,hcur];exact Nat.mul_le_mul_right _ hfit
   have hrun:=run_append_fit (ty:=ty) k.ht k.hu k.hi k.src hb hfit hsz (k.pt.one k.one)
   generalize hnew:(cur.toList.take (n * i.size) ++ news ++ cur.toList.drop (n * i.size + news.length)).toArray = cur' at hrun
   have hmod:Mod b w (w.setRow b cur'):=mod_setRow
   have hb':(w.setRow b cur').heap[b]? = some (.cells cur' E (0,0)):=setRow_heap w b cur cur' E (0,0) hb
   have hpre:∀ j,j < n * i.size→cur'[j]? = cur[j]?:=by
    intro j hj
    rw [← hnew]
    have hlen:(cur.toList.take (n * i.size)).length = n * i.size:=by rw [hvv];exact hvl
    simp only [List.getElem?_toArray]
    rw [List.append_assoc,List.getElem?_append_left (by rw [hlen];exact hj),List.getElem?_take,if_pos hj,Array.getElem?_toList]
   have hshift:Shift p g w (g.row b ((n + m) * i.size) q) (w.setRow b cur'):={
    later:={
     os:=rfl
     tape:=rfl
     output:=rfl
     size:=Nat.le_of_eq hmod.size.symm
     cells:=fun x o hlt=>by
      by_cases hx:x = b
      ·subst hx
       rw [he] at hlt
       rw [cell_of_heap hb',cell_of_heap hb]
       exact hpre o hlt
      ·exact World.cell?_of_block (w:=w) (a:=⟨x,o,none⟩) (hmod.block x hx)
     e:=fun x=>by
      simp only [Gh.row]
      split
      ·rename_i hx;rw [hx,he];exact Nat.mul_le_mul_right _ (by omega)
      ·exact Nat.le_refl _
     fgn:=fun x hx=>by
      have hne:x ≠ b:=fun hh=>by
       subst hh;rw [ho] at hx
       obtain ⟨t,i,j,h | h⟩:=hp <;> rw [h] at hx <;> cases hx
      exact ⟨hmod.block x hne,by simp only [Gh.row];rw [if_neg hne];exact hx,by simp only [Gh.row];rw [if_neg hne]⟩
     pin:=rfl }
    tails:=fun x hx _=>by
     have hne:x ≠ b:=fun hh=>by subst hh;exact hx ho
     exact ⟨hmod.block x hne,by simp only [Gh.row];rw [if_neg hne],by simp only [Gh.row];rw [if_neg hne]⟩
    objs:=fun x id hx=>by
     have hne:x ≠ b:=fun hh=>by
      subst hh;rw [ho] at hx
      obtain ⟨t,i,j,h | h⟩:=hp <;> rw [h] at hx <;> cases hx
     exact ⟨hmod.block x hne,by simp only [Gh.row];rw [if_neg hne];exact hx,by simp only [Gh.row];rw [if_neg hne]⟩
    μ:=rfl
    fresh:=fun x hx=>by
     have hlt:b < w.heap.size:=(Array.getElem?_eq_some_iff.1 hb).1
     rw [hmod.size] at hx
     simp only [Gh.row]
     rw [if_neg (by omega),if_neg (by omega)]
     exact hf x hx }
   refine ⟨_,_,_,hrun,hshift,?_⟩
   have hp2:=hpv.append k.pt
   have hsize:cur'.size = cap * i.size:=by
    rw [← hnew,← hcur]
    simp only [List.size_toArray,List.length_append,List.length_take,List.length_drop,Array.length_toList]
    omega
   refine .tail q E _ _ b cap cur' i.size (vals ++ news) hz k.h0 hb' hfit hm hsize (by rw [List.length_append,hcl,k.len,Nat.add_mul]) (by simp [Gh.row]) (by simp [Gh.row]) hq ?_ fun j v d a1 a2=>hshift.repD (hp2.2 j v d a1 a2)
   rw [← hnew,← hvv]
   have e1:(n + m) * i.size = (cur.toList.take (n * i.size) ++ news).length:=by
    rw [List.length_append,hvv,hvl,hnl,Nat.add_mul]
   simp only [List.toList_toArray]
   rw [e1,List.take_left']
   rfl
  ·have hold:∀ w':World,(∀ a,w'.cell? a = w.cell? a)→(Builtin.firstCells i.size n (.slice (some ⟨b,0,none⟩) n cap)).run X.P w' = .ok ⟨vals⟩ w':=fun w' hw =>
    run_firstCells_some w' i.size n ⟨b,0,none⟩ n cap vals hvl (fun j v hj=>by
     rw [Addr.add_lit,hw,Nat.zero_add,cell_of_heap hb]
     rw [← hvv,List.getElem?_take] at hj
     split at hj
     ·simpa using hj
     ·cases hj)
   obtain ⟨cp,rest,h1,h2,h3,h4⟩:=run_append_new (ty:=ty) k.ht k.hu k.hi k.hz k.hzs k.src hold hvl (by rw [k.pt.1,k.len]) (by omega) (by simpa [bigLen] using hbig) hml
   refine ⟨_,_,g.row w.heap.size ((n + m) * i.size) q,h4,(keep_row (w1:=w.drew) hf rfl rfl rfl rfl _ _ _).shift hf p,?_⟩
   exact row_rep (w1:=w.drew) hf rfl rfl rfl rfl k.hsz k.h0 (hpv.append k.pt) (by rw [List.length_append,hcl,k.len,Nat.add_mul]) h1 h2 h3 hq
end
def OgOk (w:World) (g:Gh) (a:Act) (t:Nat):Loc→Prop
 | .slot u=>a.tmps.getD t undef = a.tmps.getD u undef
 | .cell id j=>∃ b,g.μ[id]? = some b∧w.cell? ⟨b,j,none⟩ = some (a.tmps.getD t undef)
structure Rel (X:Ctx) (base N:Nat) (st:St) (a:Act) (w:World) (g:Gh):Prop where
 defers:a.defers = []
 size:N≤a.tmps.size
 slots:∀ t,RepV X w g (.slot t) (a.tmps.getD t undef) (lookT t st.s)
 sit:Sit X w g st.h
 low:Low X w g base st.h
 og:∀ t l,(t,l) ∈ st.og→OgOk w g a t l
theorem getD_put {a:Act} {d:Nat} {v:Value} (hd:d < a.tmps.size) (t:Nat):(a.put (some d) v).tmps.getD t undef = if t = d then v else a.tmps.getD t undef:=by
 simp only [Act.put,Array.getD_eq_getD_getElem?,Array.getElem?_setIfInBounds]
 by_cases h:t = d
 ·subst h;simp [hd]
 ·rw [if_neg h,if_neg (fun hh=>h hh.symm)]
theorem Low.grow {X:Ctx} {w w':World} {g g':Gh} {base:Nat} {h h':List Ob} (l:Low X w g base h) (hf:Fresh g w) (k:Grow g w g' w') (hμ:g.μ.length = h.length) (hh:∀ (id:Nat) (o:Ob),id < base→h'[id]? = some o→h[id]? = some o) (hl:h.length≤h'.length):Low X w' g' base h':=by
 refine ⟨Nat.le_trans l.1 hl,fun n hn he id b o hid hb ho=>?_,fun id b hid hb=>k.μ id b (l.2.2 id b hid (by rw [← k.pin];exact hb))⟩
 have hlt:id < g.μ.length:=by rw [hμ];exact Nat.lt_of_lt_of_le (Nat.lt_of_lt_of_le hid hn) l.1
 have hb0:=List.getElem?_eq_getElem hlt
 have hb1:=k.μ id _ hb0
 rw [hb1] at hb
 cases hb
 exact (k.trunc n).repOb hf (l.2.1 n hn (by rw [← k.pin];exact he) id _ o hid hb0 (hh id o (Nat.lt_of_lt_of_le hid hn) ho))
section
variable {X:Ctx} {base N:Nat} {st:St} {a:Act} {w:World} {g:Gh}
theorem Rel.get (r:Rel X base N st a w g) (x:Operand):∃ q,RepV X w g q (a.eval x) (st.get X x):=by
 cases x with
 | tmp t=>exact ⟨.slot t,r.slots t⟩
 | const v=>exact ⟨.free,.d _ _ _ (RepD.ofVal 6 v)⟩
 | func f=>exact ⟨.free,.d _ _ _ (.fn f)⟩
 | global k =>
  simp only [Act.eval,St.get]
  cases hk:X.glob k with
  | none=>exact ⟨.free,.d _ _ _ (.und _)⟩
  | some cs =>
   obtain ⟨ms,hgl⟩:=r.sit.glob.get
   obtain ⟨vals,h1,h2,h3⟩:=hgl k cs (.inl hk)
   refine ⟨.free,.d _ _ _ ?_⟩
   exact .ref k 0 0 cs vals h1.1 (by omega) (fun j v hj=>by rw [Nat.zero_add];exact h3 j v hj) h1.2
theorem Rel.ops (r:Rel X base N st a w g) (o:Oper):RepOps X w g a (st.get X) o:=fun y _=>r.get y
theorem rel_put {st':St} {w':World} {g':Gh} {o:Oper} {v:Value} {x:V} (hdef:a.defers = []) (hsize:N≤a.tmps.size) (hN:dstOk N o = true)
  (slots:∀ t,o.dst ≠ some t→RepV X w' g' (.slot t) (a.tmps.getD t undef) (lookT t st'.s)) (sit:Sit X w' g' st'.h) (low:Low X w' g' base st'.h) (og:∀ t l,(t,l) ∈ st'.og→OgOk w' g' a t l)
  (hv:∀ d,o.dst = some d→RepV X w' g' (.slot d) v x):Rel X base N (st'.put o.dst x) (a.put o.dst v) w' g':=by
 cases hd:o.dst with
 | none=>exact ⟨hdef,hsize,fun t=>slots t (by rw [hd];simp),sit,low,og⟩
 | some d =>
  have hdN:d < N:=by simpa [dstOk,hd] using hN
  have hda:d < a.tmps.size:=Nat.lt_of_lt_of_le hdN hsize
  refine ⟨hdef,by simpa [Act.put] using hsize,fun t=>?_,sit,low,fun t l hm=>?_⟩
  ·rw [getD_put hda]
   simp only [St.put,lookT]
   by_cases h:t = d
   ·subst h
    simp only [if_true,beq_self_eq_true]
    exact hv t hd
   ·rw [if_neg h]
    have hb:(d == t) = false:=by simp;exact fun hh=>h hh.symm
    simp only [hb,Bool.false_eq_true,if_false]
    exact slots t (by rw [hd];simpa using fun hh=>h hh.symm)
  ·simp only [St.put,List.mem_filter,Bool.and_eq_true,bne_iff_ne,ne_eq] at hm
   obtain ⟨h1,h2,h3⟩:=hm
   have hok:=og t l h1
   cases l with
   | slot u =>
    simp only [OgOk] at hok ⊢
    rw [getD_put hda,getD_put hda,if_neg h2,if_neg (fun hh=>h3 (by rw [hh]))]
    exact hok
   | cell id j =>
    simp only [OgOk] at hok ⊢
    rw [getD_put hda,if_neg h2]
    exact hok
theorem OgOk.grow {w':World} {g':Gh} {t:Nat} {l:Loc} (h:OgOk w g a t l) (k:Grow g w g' w'):OgOk w' g' a t l:=by
 cases l with
 | slot u=>exact h
 | cell id j =>
  obtain ⟨b,h1,h2⟩:=h
  exact ⟨b,k.μ id b h1,(World.cell?_of_block (w:=w) (a:=⟨b,j,none⟩) (k.block b (World.block_lt_of_cell? w ⟨b,j,none⟩ h2))).trans h2⟩
theorem Rel.keep (r:Rel X base N st a w g) {w':World} {g':Gh} (k:Keep g w g' w'):Rel X base N st a w' g' where
 defers:=r.defers
 size:=r.size
 slots:=fun t=>k.repV r.sit.fresh (r.slots t)
 sit:=r.sit.keep k
 low:=r.low.grow r.sit.fresh k.toGrow r.sit.heap.len (fun _ _ _ h=>h) (Nat.le_refl _)
 og:=fun t l h=>(r.og t l h).grow k.toGrow
theorem Rel.put (r:Rel X base N st a w g) {o:Oper} {v:Value} {x:V} (hN:dstOk N o = true) (hv:∀ d,o.dst = some d→RepV X w g (.slot d) v x):Rel X base N (st.put o.dst x) (a.put o.dst v) w g :=
 rel_put r.defers r.size hN (fun t _=>r.slots t) r.sit r.low r.og hv
theorem Rel.setOg (r:Rel X base N st a w g) {dst:Option Tmp} {l:Loc} (h:∀ t,dst = some t→OgOk w g a t l):Rel X base N (Pv.setOg st dst l) a w g:=by
 cases dst with
 | none=>exact r
 | some t =>
  refine ⟨r.defers,r.size,r.slots,r.sit,r.low,fun u k hm=>?_⟩
  simp only [Pv.setOg,List.mem_cons,Prod.mk.injEq] at hm
  rcases hm with ⟨rfl,rfl⟩ | hm
  ·exact h _ rfl
  ·exact r.og u k hm
theorem locCopy_slot (t u:Nat):lookT u (locCopy st (.slot t)).s = if u = t then (lookT t st.s).copy else lookT u st.s:=by
 simp only [locCopy]
 cases h:lookT t st.s with
 | tail E c n =>
  simp only [lookT]
  by_cases hu:u = t
  ·subst hu;simp [V.copy]
  ·have:(t == u) = false:=by simp;exact fun hh=>hu hh.symm
   simp [this,hu]
 | _ =>
  by_cases hu:u = t
  ·subst hu;simp [V.copy,h]
  ·simp [hu]
theorem locCopy_h (t:Nat):(locCopy st (.slot t)).h = st.h:=by
 simp only [locCopy];split <;> rfl
theorem locCopy_og (l:Loc):(locCopy st l).og = st.og:=by
 cases l <;> simp only [locCopy] <;> split <;> rfl
theorem locCopy_cell_s (id j:Nat):(locCopy st (.cell id j)).s = st.s:=by
 simp only [locCopy];split <;> rfl
theorem locCopy_cell_h (id j:Nat):(locCopy st (.cell id j)).h = copyAt (.cell id j) st.h:=by
 cases h:st.h[id]? with
 | none=>simp [locCopy,copyAt,h]
 | some o=>cases o <;> simp [locCopy,copyAt,h]
def posOf:Loc→Own
 | .slot t=>.slot t
 | .cell id j=>.cell id j
theorem posOf_pos (l:Loc):IsPos (posOf l):=by
 cases l with
 | slot t=>exact ⟨t,0,0,.inl rfl⟩
 | cell id j=>exact ⟨0,id,j,.inr rfl⟩
theorem OgOk.shift {p:Own} {w':World} {g':Gh} {t:Nat} {l:Loc} (h:OgOk w g a t l) (s:Shift p g w g' w') (hh:RepH X w g st.h):OgOk w' g' a t l:=by
 cases l with
 | slot u=>exact h
 | cell id j =>
  obtain ⟨b,h1,h2⟩:=h
  exact ⟨b,by rw [s.μ];exact h1,(World.cell?_of_block (w:=w) (a:=⟨b,j,none⟩) (s.objs b id (hh.own id b h1)).1).trans h2⟩
theorem Rel.shift (r:Rel X base N st a w g) {l:Loc} {w':World} {g':Gh} (s:Shift (posOf l) g w g' w'):Rel X base N (locCopy st l) a w' g':=by
 have hp:=(posOf_pos l).ne_free
 cases l with
 | slot t =>
  refine ⟨r.defers,r.size,fun u=>?_,?_,?_,fun u k hm=>?_⟩
  ·rw [locCopy_slot]
   split
   ·rename_i h;subst h;exact s.copy hp (r.slots u)
   ·rename_i h;exact s.repV hp (r.slots u) (fun hh=>h (by cases hh;rfl))
  ·rw [locCopy_h];exact ⟨s.fresh,s.repH hp r.sit.heap,s.glob r.sit.glob⟩
  ·rw [locCopy_h];exact s.low hp r.sit.heap r.low
  ·rw [locCopy_og] at hm;exact (r.og u k hm).shift s r.sit.heap
 | cell id j =>
  refine ⟨r.defers,r.size,fun u=>?_,?_,?_,fun u k hm=>?_⟩
  ·rw [locCopy_cell_s];exact s.repV hp (r.slots u) (by intro hh;cases hh)
  ·rw [locCopy_cell_h];exact ⟨s.fresh,s.repH hp r.sit.heap,s.glob r.sit.glob⟩
  ·rw [locCopy_cell_h];exact s.low hp r.sit.heap r.low
  ·rw [locCopy_og] at hm;exact (r.og u k hm).shift s r.sit.heap
end
section
variable {X:Ctx} {base N:Nat} {st st':St} {a:Act} {w:World} {g:Gh} {call:CallF} {o:Oper}
def Goes (X:Ctx) (base N:Nat) (st':St) (g:Gh) (w:World) (K:Act→World→Prop):Prop :=
 ∀ a' w' g',Later g w g' w' → Rel X base N st' a' w' g' → K a' w'
def dstPos (o:Oper):Own:=.slot (o.dst.getD 0)
theorem dstPos_pos (o:Oper):IsPos (dstPos o):=⟨_,0,0,.inl rfl⟩
theorem dstPos_eq {o:Oper} {d:Nat} (h:o.dst = some d):dstPos o = .slot d:=by simp [dstPos,h]
theorem step_val {x:V} (hv:valOp X call (st.get X) st.h o = some x) (hN:dstOk N o = true) (r:Rel X base N st a w g) (hc:CallPOk X call) {K:Act→World→Prop} {Q:Exit→Act→World→Prop}
  (hK:Goes X base N (st.put o.dst x) g w K):o.wp X.P a w K Q:=by
 refine val_sound hv (r.ops o) r.sit hc (dstPos_pos o) (fun v w' g' k hr=>?_)
 refine hK _ w' g' (k.later r.sit.fresh) ((r.keep k).put hN fun d hd=>?_)
 rw [← dstPos_eq hd]
 exact hr
theorem step_move {t:Tmp} (hop:o.op = .move (.tmp t)) (hN:dstOk N o = true) (r:Rel X base N st a w g) {K:Act→World→Prop} {Q:Exit→Act→World→Prop}
  (hK:Goes X base N (setOg (st.put o.dst (st.get X (.tmp t)).copy) o.dst (.slot t)) g w K):o.wp X.P a w K Q:=by
 have hrun:(execOp a.eval o).run X.P w = .ok (.value (a.tmps.getD t undef)) w:=by unfold execOp;simp [hop,Act.eval]
 refine wp_value hrun (hK _ w g (Later.refl g w) ?_)
 have h1:=r.put (o:=o) (v:=a.tmps.getD t undef) (x:=(st.get X (.tmp t)).copy) hN (fun d _=>(r.slots t).copy)
 refine h1.setOg fun d hd=>?_
 have hda:d < a.tmps.size:=by
  have hdN:d < N:=by simpa [dstOk,hd] using hN
  exact Nat.lt_of_lt_of_le hdN r.size
 simp only [OgOk,hd]
 rw [getD_put hda,getD_put hda,if_pos rfl]
 split <;> rfl
theorem step_load {t:TypeId} {p:Operand} {id off:Nat} {x:V} (hop:o.op = .load t p) (hag:isAggT X.P t = false) (hp:st.get X p = .obj id off) (hx:loadOp X (st.get X) st.h t p = some x) (hN:dstOk N o = true)
  (r:Rel X base N st a w g) {K:Act→World→Prop} {Q:Exit→Act→World→Prop} (hK:Goes X base N (setOg (st.put o.dst x) o.dst (.cell id off)) g w K):o.wp X.P a w K Q:=by
 obtain ⟨q,hq⟩:=r.get p
 obtain ⟨u,h1,h2⟩:=load_sound hx hq r.sit.heap (dstPos o)
 have hrun:(execOp a.eval o).run X.P w = .ok (.value u) w:=by unfold execOp;simp [hop,h1]
 refine wp_value hrun (hK _ w g (Later.refl g w) ?_)
 have h3:=r.put (o:=o) (v:=u) (x:=x) hN (fun d hd=>by rw [← dstPos_eq hd];exact h2)
 refine h3.setOg fun d hd=>?_
 have hda:d < a.tmps.size:=by
  have hdN:d < N:=by simpa [dstOk,hd] using hN
  exact Nat.lt_of_lt_of_le hdN r.size
 rw [hp] at hq
 generalize a.eval p = vp at hq h1
 cases hq with
 | obj _ _ _ b hb =>
  refine ⟨b,hb,?_⟩
  rw [hd,getD_put hda,if_pos rfl]
  have cellEx:∃ u',w.cell? ⟨b,off,none⟩ = some u':=by
   unfold loadOp at hx
   rw [hp] at hx
   simp only at hx
   obtain ⟨ob,ho,hr⟩:=r.sit.heap.get hb
   rw [ho] at hx
   have na:∀ gg,aggT X.P t = some gg→gg = false:=by
    intro gg hgg
    unfold isAggT at hag
    unfold aggT at hgg
    cases hu:X.P.underlying t with
    | none=>simp [hu] at hgg
    | some dd=>cases dd <;> simp_all
   cases ob with
   | cells vs =>
    obtain ⟨vals,T,k1,k2,_,_⟩:=hr
    obtain ⟨n,gg,_,hg,_,k4,_⟩:=partV_spec (X:=X) hx
    have hlt:=k4 (na gg hg)
    refine ⟨vals[off]'(by omega),?_⟩
    rw [cell_of_heap k1]
    simp [k2,hlt]
   | frozen ds =>
    obtain ⟨vals,T,k1,k2,_,_⟩:=hr
    cases hpd:partD X.P t ds off with
    | none=>simp [hpd] at hx
    | some dd =>
     obtain ⟨n,gg,_,hg,_,k4,_⟩:=partD_spec hpd
     have hlt:=k4 (na gg hg)
     refine ⟨vals[off]'(by omega),?_⟩
     rw [cell_of_heap k1]
     simp [k2,hlt]
   | _=>simp at hx
  obtain ⟨u',hu'⟩:=cellEx
  have hagg:aggT X.P t = some false:=by
   have hrr:∃ gg,aggT X.P t = some gg:=by
    unfold loadOp at hx
    rw [hp] at hx
    simp only at hx
    split at hx
    ·rename_i c _
     cases hpd:partD X.P t c off with
     | none=>simp [hpd] at hx
     | some dd=>obtain ⟨n,gg,_,hg,_⟩:=partD_spec hpd;exact ⟨gg,hg⟩
    ·obtain ⟨n,gg,_,hg,_⟩:=partV_spec (X:=X) hx;exact ⟨gg,hg⟩
    ·cases hx
   obtain ⟨gg,hg⟩:=hrr
   unfold isAggT at hag
   unfold aggT at hg ⊢
   cases hu:X.P.underlying t with
   | none=>simp [hu] at hg
   | some dd=>cases dd <;> simp_all
  simp only [Instr.loadAt,Instr.sureAddr,Sem.run_bind,Sem.run_pure,Result.andThen_ok,loadVar,run_aggT hagg,Bool.false_eq_true,if_false,run_load,hu'] at h1
  rw [hu']
  simp at h1
  rw [h1]
theorem step_assign {t:Tmp} (hop:o.op = .assign (.tmp t)) (hN:dstOk N o = true) (r:Rel X base N st a w g) {K:Act→World→Prop} {Q:Exit→Act→World→Prop}
  (hK:Goes X base N ((locCopy st (.slot t)).put o.dst (st.get X (.tmp t))) g w K):o.wp X.P a w K Q:=by
 have hrun:(execOp a.eval o).run X.P w = .ok (.value (a.tmps.getD t undef)) w:=by unfold execOp;simp [hop,Act.eval]
 have hslot:=r.slots t
 by_cases ht:∃ E c n,lookT t st.s = .tail E c n
 ·obtain ⟨E,c,n,ht⟩:=ht
  rw [ht] at hslot
  generalize hve:a.tmps.getD t undef = v at hslot
  have hslot':=hslot
  cases hslot with
  | tail0 =>
   have sh:Shift (.slot t) g w g w:=(Keep.refl r.sit.fresh).shift r.sit.fresh _
   have hr1:=r.shift (l:=.slot t) sh
   refine wp_value hrun (hK _ w _ sh.later (hr1.put hN fun d hd=>?_))
   rw [hve]
   simp only [St.get,ht]
   exact .tail0 _ _
  | tail _ _ _ _ b cap cur z vals hz hz0 hb hn hm hcur hcl he ho hp hvv hr =>
   have sh:=shift_give (q:=dstPos o) r.sit.fresh ho hp
   have hr1:=r.shift (l:=.slot t) sh
   refine wp_value hrun (hK _ w _ sh.later (hr1.put hN fun d hd=>?_))
   rw [hve]
   simp only [St.get,ht]
   rw [← dstPos_eq hd]
   exact .tail _ E c n b cap cur z vals hz hz0 hb hn hm hcur hcl he (by simp [Gh.give]) (dstPos_pos o) hvv hr
 ·have hcp:locCopy st (.slot t) = st:=by
   simp only [locCopy]
   split
   ·rename_i E c n h;exact (ht ⟨E,c,n,h⟩).elim
   ·rfl
  rw [hcp] at hK
  refine wp_value hrun (hK _ w g (Later.refl g w) (r.put hN fun d _=>?_))
  exact hslot.place fun E c n h=>ht ⟨E,c,n,h⟩
theorem step_assign_const {x:Operand} (hop:o.op = .assign x) (hx:∀ t,x ≠ .tmp t) (hN:dstOk N o = true) (r:Rel X base N st a w g) {K:Act→World→Prop} {Q:Exit→Act→World→Prop}
  (hK:Goes X base N (st.put o.dst (nilTail X.P o.type x (st.get X x))) g w K):o.wp X.P a w K Q:=by
 have hrun:(execOp a.eval o).run X.P w = .ok (.value (a.eval x)) w:=by unfold execOp;simp [hop]
 refine wp_value hrun (hK _ w g (Later.refl g w) (r.put hN fun d _=>?_))
 obtain ⟨q,hq⟩:=r.get x
 have old:∀ q2,RepV X w g q2 (a.eval x) (st.get X x):=by
  intro q2
  refine hq.place fun E c n h=>?_
  cases x with
  | tmp t=>exact hx t rfl
  | const v=>simp [St.get] at h
  | global k=>simp only [St.get] at h;split at h <;> simp [und] at h
  | func f=>simp [St.get] at h
 unfold nilTail
 split
 ·split
  ·exact .tail0 _ _
  ·exact old _
 ·exact old _
theorem Rel.box (r:Rel X base N st a w g) {vals:List Value} {vs:List V} (hp:PtV X w g vals vs) (T:TypeId) (hN:dstOk N o = true) :
  Rel X base N ({ st with h:=st.h ++ [Ob.cells vs] }.put o.dst (.obj st.h.length 0)) (a.put o.dst (.pointer (some ⟨w.heap.size,0,none⟩))) (w.alloc (.cells ⟨vals⟩ T)) (g.box w.heap.size):=by
 have hf:=r.sit.fresh
 have k:=grow_box hf (.cells ⟨vals⟩ T)
 have hμ:(g.box w.heap.size).μ = g.μ ++ [w.heap.size]:=rfl
 have hnew:(g.box w.heap.size).μ[st.h.length]? = some w.heap.size:=by rw [hμ,← r.sit.heap.len];simp
 have hold:∀ (id b:Nat),id < st.h.length→(g.box w.heap.size).μ[id]? = some b→g.μ[id]? = some b:=by
  intro id b hid hb
  rw [hμ,List.getElem?_append_left (by rw [r.sit.heap.len];exact hid)] at hb
  exact hb
 refine rel_put r.defers r.size hN (fun t _=>k.repV hf (r.slots t)) ⟨k.fresh,⟨by simp [hμ,r.sit.heap.len],fun id b hb=>?_,fun id b ob hb ho=>?_⟩,?_⟩ ?_ (fun t l hm=>(r.og t l hm).grow k) (fun d _=>.obj _ _ _ _ hnew)
 ·by_cases hid:id < st.h.length
  ·have hb0:=hold id b hid hb
   rw [k.own b (r.sit.heap.lt hb0)]
   exact r.sit.heap.own id b hb0
  ·have hlt:=(List.getElem?_eq_some_iff.1 hb).1
   rw [hμ] at hlt
   simp [r.sit.heap.len] at hlt
   obtain rfl:id = st.h.length:=by omega
   rw [hnew] at hb
   cases hb
   simp [Gh.box,r.sit.heap.len]
 ·by_cases hid:id < st.h.length
  ·have hb0:=hold id b hid hb
   rw [List.getElem?_append_left hid] at ho
   exact k.repOb hf (r.sit.heap.ob id b ob hb0 ho)
  ·have hlt:=(List.getElem?_eq_some_iff.1 ho).1
   simp at hlt
   obtain rfl:id = st.h.length:=by omega
   rw [hnew] at hb
   cases hb
   simp at ho
   subst ho
   refine ⟨vals,T,heap_alloc_new w _,hp.1,(hf _ (Nat.le_refl _)).2,fun j v x h1 h2=>?_⟩
   exact (k.repV hf (hp.2 j v x h1 h2)).anyPos
 ·exact r.sit.glob.later (k.later hf)
 ·refine r.low.grow hf k r.sit.heap.len (fun id ob hid ho=>?_) (by simp)
  rw [List.getElem?_append_left (Nat.lt_of_lt_of_le hid r.low.1)] at ho
  exact ho
theorem step_alloc {t:TypeId} {z:D} (hop:o.op = .alloc t) (hz:zeroT X.P t = some z) (hN:dstOk N o = true) (r:Rel X base N st a w g) {K:Act→World→Prop} {Q:Exit→Act→World→Prop}
  (hK:Goes X base N ({ st with h:=st.h ++ [Ob.cells (openZero X.P t z.cells)] }.put o.dst (.obj st.h.length 0)) g w K):o.wp X.P a w K Q:=by
 unfold zeroT at hz
 cases hi:X.P.info? t with
 | none=>simp [hi] at hz
 | some i =>
  simp only [hi] at hz
  cases hzz:i.zero with
  | none=>simp [hzz] at hz
  | some zv =>
   simp [hzz] at hz
   subst hz
   have hp:PtV X w g zv.cells.toList (openZero X.P t (D.ofVal 6 zv).cells):=openZero_rep 4 t
   have hz0:(zeroValue t).run X.P w = .ok zv w:=by simp [zeroValue,typeInfo,hi,hzz]
   have hrun:(execOp a.eval o).run X.P w = .ok (.value (.pointer (some ⟨w.heap.size,0,none⟩))) (w.alloc (.cells ⟨zv.cells.toList⟩ t)):=by
    unfold execOp
    simp [hop,Instr.alloc,hz0,newVar,newRow]
   refine wp_value hrun (hK _ _ _ ((grow_box r.sit.fresh _).later r.sit.fresh) (r.box hp t hN))
theorem step_box {t:TypeId} {x:Operand} (hop:o.op = .box t x) (hs:(st.get X x).sure = true) (hN:dstOk N o = true) (r:Rel X base N st a w g) {K:Act→World→Prop} {Q:Exit→Act→World→Prop}
  (hK:Goes X base N ({ st with h:=st.h ++ [Ob.cells (st.get X x).copy.cells] }.put o.dst (.obj st.h.length 0)) g w K):o.wp X.P a w K Q:=by
 obtain ⟨q,hq⟩:=r.get x
 have hp:=cells_rep hq hs
 have hrun:(execOp a.eval o).run X.P w = .ok (.value (.pointer (some ⟨w.heap.size,0,none⟩))) (w.alloc (.cells ⟨(a.eval x).cells.toList⟩ t)):=by
  unfold execOp
  simp [hop,Instr.box,newVar,newRow]
 refine wp_value hrun (hK _ _ _ ((grow_box r.sit.fresh _).later r.sit.fresh) (r.box hp t hN))
end
theorem one_valV {X:Ctx} {w:World} {g:Gh} {p:Own} {v:Value} {x:V} (r:RepV X w g p v x) (h:x.one = true):v.oneCell' = true:=by
 cases r with
 | d _ _ y hy=>exact one_val hy h
 | agg=>simp [V.one] at h
 | tup=>simp [V.one] at h
 | _=>rfl
theorem RepV.retrunc {X:Ctx} {w:World} {g:Gh} {n:Nat} {p:Own} {v:Value} {x:V} (r:RepV X w g p v x) (h:x.toD.isSome = true):RepV X w (g.trunc n) p v x:=by
 cases r with
 | d _ _ _ r=>exact .d _ _ _ r
 | tail _ E cells m b c cur z vals hz hz0 hb hn hm hcur hcl he ho hp hv hr=>exact .tail _ E cells m b c cur z vals hz hz0 hb hn hm hcur hcl he ho hp hv hr
 | tail0 _ E=>exact .tail0 _ E
 | full _ _ _ _ _ r=>exact .full _ _ _ _ _ r
 | _=>simp [V.toD] at h
theorem toDs_some {xs:List V} (h:(toDs xs).isSome = true):∀ x ∈ xs,x.toD.isSome = true:=by
 obtain ⟨ds,hd⟩:=Option.isSome_iff_exists.1 h
 obtain ⟨h1,h2⟩:=toDs_spec xs ds hd
 intro x hx
 obtain ⟨j,hj,rfl⟩:=List.mem_iff_getElem.1 hx
 have:=h2 j xs[j] (ds[j]'(by omega)) (List.getElem?_eq_getElem hj) (List.getElem?_eq_getElem (by omega))
 rw [this];rfl
section
variable {X:Ctx} {base N:Nat} {st:St} {a:Act} {w:World} {g:Gh} {call:CallF} {o:Oper}
theorem Rel.store (r:Rel X base N st a w g) {id b off:Nat} {vs xs:List V} {us vals:List Value} {T:TypeId} (hid:g.μ[id]? = some b) (ho:st.h[id]? = some (.cells vs)) (hb:w.heap[b]? = some (.cells ⟨vals⟩ T (0,0)))
  (hvl:vals.length = vs.length) (hl:us.length = xs.length) (hp:∀ (j:Nat) (v:Value) (x:V),us[j]? = some v→xs[j]? = some x→RepV X w g (.cell id (off + j)) v x) (hle:off + xs.length≤vs.length)
  (hbase:base≤id∨(toDs xs).isSome = true) :
  Rel X base N { s:=st.s,h:=st.h.set id (.cells (splice vs off xs)),og:=st.og.filter fun y=>match y.2 with | .cell i _=>i != id | _=>true } a (w.setRow b ⟨splice vals off us⟩) g∧Later g w g (w.setRow b ⟨splice vals off us⟩):=by
 have hown:=r.sit.heap.own id b hid
 have hou:∃ id,g.own b = .obj id:=⟨id,hown⟩
 have he:g.e b = 0:=by
  obtain ⟨_,_,_,_,h,_⟩:=r.sit.heap.ob id b _ hid ho
  exact h
 have hmod:Mod b w (w.setRow b ⟨splice vals off us⟩):=mod_setRow
 have hnew:(w.setRow b ⟨splice vals off us⟩).heap[b]? = some (.cells ⟨splice vals off us⟩ T (0,0)):=setRow_heap w b _ _ T (0,0) hb
 have hlt:id < st.h.length:=(List.getElem?_eq_some_iff.1 ho).1
 have hle':off + us.length≤vals.length:=by rw [hl,hvl];exact hle
 have box:∀ g2:Gh,g2.e = g.e→g2.own = g.own→(∀ (j:Nat) (v:Value) (x:V),vals[j]? = some v→vs[j]? = some x→RepV X w g2 (.cell id j) v x) →
   (∀ (j:Nat) (v:Value) (x:V),us[j]? = some v→xs[j]? = some x→RepV X w g2 (.cell id (off + j)) v x)→RepOb X (w.setRow b ⟨splice vals off us⟩) g2 id b (.cells (splice vs off xs)):=by
  intro g2 h1 h2 h3 h4
  have he2:g2.e b = 0:=by rw [h1];exact he
  have ho2:∃ id,g2.own b = .obj id:=by rw [h2];exact hou
  refine ⟨_,T,hnew,by rw [splice_length hle,splice_length hle',hvl],he2,fun j v x i1 i2=>hmod.repV he2 ho2 ?_⟩
  rw [splice_get hle'] at i1
  rw [splice_get hle] at i2
  rw [hl] at i1
  split at i1
  ·rename_i hj;rw [if_pos hj] at i2;exact h3 j v x i1 i2
  ·rename_i hj
   rw [if_neg hj] at i2
   split at i1
   ·rename_i hj2
    rw [if_pos hj2] at i2
    have:=h4 (j - off) v x i1 i2
    rwa [show off + (j - off) = j from by omega] at this
   ·rename_i hj2;rw [if_neg hj2] at i2;exact h3 j v x i1 i2
 have hcells:∀ (j:Nat) (v:Value) (x:V),vals[j]? = some v→vs[j]? = some x→RepV X w g (.cell id j) v x:=by
  obtain ⟨vals',T',k1,k2,k3,k4⟩:=r.sit.heap.ob id b _ hid ho
  rw [hb] at k1
  cases k1
  exact k4
 refine ⟨⟨r.defers,r.size,fun t=>hmod.repV he hou (r.slots t),⟨?_,⟨by simpa using r.sit.heap.len,r.sit.heap.own,fun i b' ob hi hob=>?_⟩,hmod.glob he hou r.sit.glob⟩,⟨by simpa using r.low.1,fun n hn hel i b' ob hib hi hob=>?_,r.low.2.2⟩,fun t l hm=>?_⟩,hmod.later he hou⟩
 ·intro x hx;rw [hmod.size] at hx;exact r.sit.fresh x hx
 ·by_cases hii:i = id
  ·subst hii
   rw [hid] at hi;cases hi
   rw [List.getElem?_set_self hlt] at hob
   cases hob
   exact box g rfl rfl hcells hp
  ·rw [List.getElem?_set_ne (fun hh=>hii hh.symm)] at hob
   exact hmod.repOb he hou (fun hh=>hii (by subst hh;exact r.sit.heap.inj hi hid)) (r.sit.heap.ob i b' ob hi hob)
 ·have heT:(g.trunc n).e b = 0:=he
  have houT:∃ id,(g.trunc n).own b = .obj id:=hou
  by_cases hii:i = id
  ·subst hii
   rw [hid] at hi;cases hi
   rw [List.getElem?_set_self hlt] at hob
   cases hob
   have hd:(toDs xs).isSome = true:=by
    rcases hbase with h | h
    ·omega
    ·exact h
   refine box (g.trunc n) rfl rfl ?_ fun j v x i1 i2=>(hp j v x i1 i2).retrunc (toDs_some hd x (List.mem_of_getElem? i2))
   obtain ⟨vals',T',k1,k2,k3,k4⟩:=r.low.2.1 n hn hel i b _ hib hid ho
   rw [hb] at k1
   cases k1
   exact k4
  ·rw [List.getElem?_set_ne (fun hh=>hii hh.symm)] at hob
   exact hmod.repOb heT houT (fun hh=>hii (by subst hh;exact r.sit.heap.inj hi hid)) (r.low.2.1 n hn hel i b' ob hib hi hob)
 ·simp only [List.mem_filter] at hm
  obtain ⟨h1,h2⟩:=hm
  have hok:=r.og t l h1
  cases l with
  | slot u=>exact hok
  | cell i j =>
   obtain ⟨b',k1,k2⟩:=hok
   have hne:i ≠ id:=by simpa using h2
   have hbb:b' ≠ b:=fun hh=>hne (by subst hh;exact r.sit.heap.inj k1 hid)
   exact ⟨b',k1,(World.cell?_of_block (w:=w) (a:=⟨b',j,none⟩) (hmod.block b' hbb)).trans k2⟩
theorem run_storeVar {P:Program} {w:World} {b off t n T:Nat} {vals:List Value} {v:Value} (hn:sizeT P t = some n) (hb:w.heap[b]? = some (.cells ⟨vals⟩ T (0,0))) (hs:v.cells.size = n) (hle:off + n≤vals.length)
  (h1:∀ u ∈ v.cells.toList,u.oneCell' = true):(storeVar t ⟨b,off,none⟩ v).run P w = .ok () (w.setRow b ⟨splice vals off v.cells.toList⟩):=by
 have hst:=run_storeCells_at (P:=P) b off T v.cells.toList 0 ⟨vals⟩ w hb (by show off + 0 + v.cells.toList.length≤vals.length;rw [Array.length_toList,hs];omega) h1
 simp only [Nat.add_zero] at hst
 simp only [storeVar,Sem.run_bind,run_sizeT hn,Result.andThen_ok,hs,ne_eq,not_true_eq_false,if_false,hst]
 rfl
theorem step_store {t:TypeId} {p x:Operand} {st':St} (hop:o.op = .store t p x) (hst:storeOp X base st t p x = some st') (hN:dstOk N o = true) (r:Rel X base N st a w g) {K:Act→World→Prop} {Q:Exit→Act→World→Prop}
  (hK:Goes X base N (st'.put o.dst undefV) g w K):o.wp X.P a w K Q:=by
 unfold storeOp at hst
 split at hst
 ·rename_i id off n hρ hn
  split at hst
  ·rename_i vs hob
   simp only at hst
   split at hst
   ·rename_i hc
    obtain ⟨hsure,hxl,hle,hone,hbase⟩:=hc
    simp only [Option.some.injEq] at hst
    obtain ⟨q,hq⟩:=r.get p
    rw [hρ] at hq
    obtain ⟨qx,hqx⟩:=r.get x
    have hcr:=cells_rep hqx hsure
    generalize hvp:a.eval p = vp at hq
    cases hq with
    | obj _ _ _ b hb =>
     obtain ⟨vals,T,k1,k2,k3,k4⟩:=r.sit.heap.ob id b _ hb hob
     have hcl:(st.get X x).copy.cells.length = (st.get X x).cells.length:=by
      cases st.get X x <;> rfl
     have hcs:(a.eval x).cells.size = n:=by rw [← Array.length_toList,hcr.1,hcl];exact hxl
     have hones:∀ u ∈ (a.eval x).cells.toList,u.oneCell' = true:=by
      intro u hu
      obtain ⟨j,hj,rfl⟩:=List.mem_iff_getElem.1 hu
      have hj2:j < (st.get X x).copy.cells.length:=by rw [← hcr.1];exact hj
      refine one_valV (hcr.2 j _ _ (List.getElem?_eq_getElem hj) (List.getElem?_eq_getElem hj2)) ?_
      simp only [List.all_eq_true] at hone
      by_cases ht:∃ E c m,st.get X x = .tail E c m
      ·obtain ⟨E,c,m,ht⟩:=ht
       have:(st.get X x).copy.cells = [.d (.sl c m)]:=by rw [ht];rfl
       simp [this]
       rfl
      ·have hcp:(st.get X x).copy = st.get X x:=by
        cases hx:st.get X x with
        | tail E c m=>exact (ht ⟨E,c,m,hx⟩).elim
        | _=>rfl
       have hj3:j < (st.get X x).cells.length:=by rw [← hcl];exact hj2
       have:=hone (st.get X x).cells[j] (List.getElem_mem hj3)
       simpa [hcp] using this
     have hrun:(execOp a.eval o).run X.P w = .ok .skip (w.setRow b ⟨splice vals off (a.eval x).cells.toList⟩):=by
      unfold execOp
      simp only [hop,hvp,Instr.storeAt,Instr.sureAddr,Sem.run_bind,Sem.run_pure,Result.andThen_ok,run_storeVar hn k1 hcs (by rw [k2];exact hle) hones]
     have fin:∀ (st1:St) (g1:Gh),Later g w g1 w→Rel X base N st1 a w g1→st1.h = st.h→g1.μ = g.μ →
       (∀ (j:Nat) (v:Value) (y:V),(a.eval x).cells.toList[j]? = some v→(st.get X x).cells[j]? = some y→RepV X w g1 (.cell id (off + j)) v y) →
       st' = { s:=st1.s,h:=st1.h.set id (.cells (splice vs off (st.get X x).cells)),og:=st1.og.filter fun y=>match y.2 with | .cell i _=>i != id | _=>true } → o.wp X.P a w K Q:=by
      intro st1 g1 hl1 r1 hh hμ hcell hst1
      obtain ⟨r2,hl2⟩:=r1.store (id:=id) (b:=b) (off:=off) (vs:=vs) (xs:=(st.get X x).cells) (us:=(a.eval x).cells.toList) (vals:=vals) (T:=T) (by rw [hμ];exact hb) (by rw [hh];exact hob) k1 k2 (by rw [hcr.1,hcl]) hcell (by rw [hxl];exact hle) hbase
      unfold Oper.wp
      rw [hrun]
      subst hst1
      exact hK _ _ g1 (hl1.trans hl2) (r2.put hN fun d _=>.d _ _ _ (.tup [] [] rfl (by simp)))
     have nontail:(¬ ∃ E c m,st.get X x = .tail E c m)→(st.get X x).copy = st.get X x:=by
      intro ht
      cases hx:st.get X x with
      | tail E c m=>exact (ht ⟨E,c,m,hx⟩).elim
      | _=>rfl
     have plain:(¬ ∃ E c m,st.get X x = .tail E c m)→∀ (j:Nat) (v:Value) (y:V),(a.eval x).cells.toList[j]? = some v→(st.get X x).cells[j]? = some y→RepV X w g (.cell id (off + j)) v y:=by
      intro ht j v y h1 h2
      have:=hcr.2 j v y h1 (by rw [nontail ht];exact h2)
      exact this.anyPos
     cases x with
     | tmp ts =>
      simp only at hst
      by_cases ht:∃ E c m,st.get X (.tmp ts) = .tail E c m
      ·obtain ⟨E,c,m,ht⟩:=ht
       have hslot:=r.slots ts
       have hlk:lookT ts st.s = .tail E c m:=ht
       rw [hlk] at hslot
       generalize hve:a.tmps.getD ts undef = v at hslot
       cases hslot with
       | tail0 =>
        have sh:Shift (.slot ts) g w g w:=(Keep.refl r.sit.fresh).shift r.sit.fresh _
        have r1:=r.shift (l:=.slot ts) sh
        refine fin _ _ sh.later r1 (locCopy_h ts) rfl (fun j v' y h1 h2=>?_) hst.symm
        rw [ht] at h2
        have hev:a.eval (.tmp ts) = .slice none 0 0:=hve
        rw [hev] at h1
        cases j with
        | zero =>
         simp [V.cells] at h2
         simp [Value.cells] at h1
         subst h1;subst h2
         exact .tail0 _ _
        | succ j=>simp [V.cells] at h2
       | tail _ _ _ _ b2 cap cur z vals2 hz hz0 hb2 hn2 hm2 hcur hcl2 he2 ho2 hp2 hvv hr2 =>
        have hposc:IsPos (.cell id off):=⟨0,id,off,.inr rfl⟩
        have sh:=shift_give (q:=.cell id off) r.sit.fresh ho2 hp2
        have r1:=r.shift (l:=.slot ts) sh
        refine fin _ _ sh.later r1 (locCopy_h ts) rfl (fun j v' y h1 h2=>?_) hst.symm
        rw [ht] at h2
        have hev:a.eval (.tmp ts) = .slice (some ⟨b2,0,none⟩) m cap:=hve
        rw [hev] at h1
        cases j with
        | zero =>
         simp [V.cells] at h2
         simp [Value.cells] at h1
         subst h1;subst h2
         exact .tail _ E c m b2 cap cur z vals2 hz hz0 hb2 hn2 hm2 hcur hcl2 he2 (by simp [Gh.give]) hposc hvv hr2
        | succ j=>simp [V.cells] at h2
      ·have hcp:locCopy st (.slot ts) = st:=by
        simp only [locCopy]
        split
        ·rename_i E c m h;exact (ht ⟨E,c,m,h⟩).elim
        ·rfl
       rw [hcp] at hst
       exact fin st g (Later.refl g w) r rfl rfl (plain ht) hst.symm
     | const v=>exact fin st g (Later.refl g w) r rfl rfl (plain (by rintro ⟨E,c,m,h⟩;simp [St.get] at h)) hst.symm
     | global k=>exact fin st g (Later.refl g w) r rfl rfl (plain (by rintro ⟨E,c,m,h⟩;simp only [St.get] at h;split at h <;> simp [und] at h)) hst.symm
     | func f=>exact fin st g (Later.refl g w) r rfl rfl (plain (by rintro ⟨E,c,m,h⟩;simp [St.get] at h)) hst.symm
   ·cases hst
  ·cases hst
 ·cases hst
end
def CallIOk (X:Ctx) (call:CallF):Prop :=
 ∀ f args h y h',call.i f args h = some (y,h')→∀ (w:World) (g:Gh) (vargs:List Value),Sit X w g h→PtV X w g vargs args→∀ p,IsPos p →
  ∃ fn,X.P.funcs[f]? = some fn∧(fn.name == "runtime.NumGoroutine") = false∧((∃ c,fn.body = some c)∧Calls X.P f ⟨vargs⟩ w fun E w' => ∃ v g',E = .returned v∧Later g w g' w' ∧ Sit X w' g' h' ∧ RepV X w' g' p v y ∧
   (∀ (id b:Nat),g.μ[id]? = some b→g'.μ[id]? = some b)∧(∀ (b t:Nat),g.own b = .slot t→w'.heap[b]? = w.heap[b]? ∧ g'.own b = .slot t∧g'.e b = g.e b)∧∀ base,Low X w g base h→Low X w' g' base h')
section
variable {X:Ctx} {base N:Nat} {st:St} {a:Act} {w:World} {g:Gh} {call:CallF} {o:Oper}
theorem zero_size {P:Program} {E:TypeId} {i:TypeInfo} (hi:P.info? E = some i) (h:(zeroT P E).any (fun z=>z.cells.length == i.size) = true):∃ zv,i.zero = some zv∧zv.cells.size = i.size:=by
 unfold zeroT at h
 simp only [hi] at h
 cases hz:i.zero with
 | none=>simp [hz] at h
 | some zv =>
  simp [hz] at h
  refine ⟨zv,rfl,?_⟩
  have:=(cells_ofVal (w:=default) (e:=fun _=>0) 4 zv).1
  rw [Array.length_toList] at this
  rw [this]
  exact h
theorem og_rep (r:Rel X base N st a w g) {s:Operand} {l:Loc} {E':TypeId} {c0:List D} {n:Nat} (hl:ogOf st s = some l) (hlg:locGet st l = some (.tail E' c0 n)):RepV X w g (posOf l) (a.eval s) (.tail E' c0 n):=by
 cases s with
 | tmp ts =>
  simp only [ogOf] at hl
  cases hfd:st.og.find? (fun x=>x.1 == ts) with
  | none=>simp [hfd] at hl
  | some e =>
   simp [hfd] at hl
   have hmem:=List.mem_of_find?_eq_some hfd
   have he1:e.1 = ts:=by have:=List.find?_some hfd;simpa using this
   have hok:=r.og ts l (by rw [← he1,← hl];exact hmem)
   cases l with
   | slot u' =>
    simp only [locGet,Option.some.injEq] at hlg
    have hslot:=r.slots u'
    rw [hlg] at hslot
    have:a.eval (.tmp ts) = a.tmps.getD u' undef:=hok
    rw [this]
    exact hslot
   | cell id j =>
    obtain ⟨b,k1,k2⟩:=hok
    simp only [locGet] at hlg
    obtain ⟨ob,ho,hr⟩:=r.sit.heap.get k1
    rw [ho] at hlg
    cases ob with
    | cells vs =>
     obtain ⟨vals,T,i1,i2,i3,i4⟩:=hr
     simp only at hlg
     rw [cell_of_heap i1] at k2
     exact i4 j (a.tmps.getD ts undef) _ (show vals[j]? = some (a.tmps.getD ts undef) from by rw [← k2];simp) hlg
    | _=>simp at hlg
 | _=>simp [ogOf] at hl
theorem step_assign_own {t:Tmp} {l:Loc} {E:TypeId} {c:List D} {n:Nat} (hop:o.op = .assign (.tmp t)) (hl:ogOf st (.tmp t) = some l) (hlg:locGet st l = some (.tail E c n)) (hN:dstOk N o = true) (r:Rel X base N st a w g) {K:Act→World→Prop} {Q:Exit→Act→World→Prop}
  (hK:Goes X base N ((locCopy st l).put o.dst (.tail E c n)) g w K):o.wp X.P a w K Q:=by
 have hrun:(execOp a.eval o).run X.P w = .ok (.value (a.tmps.getD t undef)) w:=by unfold execOp;simp [hop,Act.eval]
 have hslot:RepV X w g (posOf l) (a.tmps.getD t undef) (.tail E c n):=og_rep r hl hlg
 generalize hve:a.tmps.getD t undef = v at hslot
 cases hslot with
 | tail0 =>
  have sh:Shift (posOf l) g w g w:=(Keep.refl r.sit.fresh).shift r.sit.fresh _
  have hr1:=r.shift (l:=l) sh
  refine wp_value hrun (hK _ w _ sh.later (hr1.put hN fun d hd=>?_))
  rw [hve]
  exact .tail0 _ _
 | tail _ _ _ _ b cap cur z vals hz hz0 hb hn hm hcur hcl he ho hp hvv hr =>
  have sh:=shift_give (q:=dstPos o) r.sit.fresh ho hp
  have hr1:=r.shift (l:=l) sh
  refine wp_value hrun (hK _ w _ sh.later (hr1.put hN fun d hd=>?_))
  rw [hve]
  rw [← dstPos_eq hd]
  exact .tail _ E c n b cap cur z vals hz hz0 hb hn hm hcur hcl he (by simp [Gh.give]) (dstPos_pos o) hvv hr
theorem step_append {c:Call} {s x:Operand} {t u:TypeId} {st1:St} {y:V} (hop:o.op = .call c) (hc:c.callee = .builtin .append) (hargs:c.args.toList = [s,x]) (hts:c.argTypes.toList = [t,u])
  (hst:appendOp X st t u s x = some (st1,y)) (hN:dstOk N o = true) (r:Rel X base N st a w g) {K:Act→World→Prop} {Q:Exit→Act→World→Prop}
  (hK:Goes X base N (st1.put o.dst y) g w K):o.wp X.P a w K Q:=by
 have hargs':c.args = #[s,x]:=by apply Array.ext';simpa using hargs
 have hts':c.argTypes = #[t,u]:=by apply Array.ext';simpa using hts
 have hrun:∀ v w',(Builtin.append_ #[t,u] o.type #[a.eval s,a.eval x]).run X.P w = .ok v w' → (execOp a.eval o).run X.P w = .ok (.value v) w':=by
  intro v w' h
  unfold execOp
  simp [hop,resolve,hc,hargs',hts',invoke,builtin,h]
 unfold appendOp at hst
 split at hst
 ·rename_i E i cs m hE hEi hsrc
  split at hst
  ·rename_i hcond
   simp only [Bool.and_eq_true,bne_iff_ne,ne_eq,beq_iff_eq] at hcond
   obtain ⟨⟨⟨hs0,hlen⟩,hone⟩,hzero⟩:=hcond
   simp only [hE,Option.bind_some] at hEi
   obtain ⟨zv,hz,hzs⟩:=zero_size hEi hzero
   obtain ⟨qx,hqx⟩:=r.get x
   obtain ⟨hu,news,hsr,hpt⟩:=src_rep hsrc hlen hqx
   have k:AppOk X w g t u E m i zv (a.eval x) cs news:=⟨elemT_under hE,hu,hEi,hz,hzs,Nat.pos_of_ne_zero hs0,hsr,hpt,hlen,hone⟩
   have hf:=r.sit.fresh
   have full:∀ (c0:List D) (n:Nat),((a.eval s = .slice none 0 0∧c0 = [] ∧ n = 0)∨∃ b o',a.eval s = .slice (some ⟨b,o',none⟩) n n∧RepD w g.e (a.eval s) (.sl c0 n))→c0.length = n * i.size→0 < m→(n + m) * i.bytes≤bigLen→n + m≤bigLen →
     st1 = st→y = .tail E (c0 ++ cs) (n + m)→o.wp X.P a w K Q:=by
    intro c0 n hv hcl hm hb1 hb2 hs1 hy
    obtain ⟨v',w',g',h1,h2,h3⟩:=append_full (ty:=o.type) k hf hv hcl hm hb1 hb2 (dstPos_pos o)
    subst hs1;subst hy
    refine wp_value (hrun _ _ h1) (hK _ w' g' (h2.later hf) ((r.keep h2).put hN fun d hd=>?_))
    rw [← dstPos_eq hd];exact h3
   have tail:∀ (l:Loc) (c0:List D) (n:Nat),RepV X w g (posOf l) (a.eval s) (.tail E c0 n)→c0.length = n * i.size→(n + m) * i.bytes≤bigLen→n + m≤bigLen →
     st1 = locCopy st l→y = .tail E (c0 ++ cs) (n + m)→o.wp X.P a w K Q:=by
    intro l c0 n hv hcl hb1 hb2 hs1 hy
    obtain ⟨v',w',g',h1,h2,h3⟩:=append_tail (ty:=o.type) k hf hv hcl hb1 hb2 (dstPos_pos o)
    subst hs1;subst hy
    refine wp_value (hrun _ _ h1) (hK _ w' g' h2.later ((r.shift h2).put hN fun d hd=>?_))
    rw [← dstPos_eq hd];exact h3
   simp only at hst
   split at hst
   ·
    rename_i hs
    have hev:a.eval s = .slice none 0 0:=by
     obtain ⟨q,hq⟩:=r.get s
     rw [hs] at hq
     generalize a.eval s = v at hq
     cases hq with | d _ _ _ hq=>cases hq;rfl
    split at hst
    ·rename_i hm
     simp at hst
     obtain ⟨rfl,rfl⟩:=hst
     subst hm
     have:=append_none (ty:=o.type) k (ad:=none) (n:=0) (cap:=0) (Nat.le_refl _)
     refine wp_value (hrun _ _ (by rw [hev];exact this)) (hK _ w g (Later.refl g w) (r.put hN fun d _=>.d _ _ _ .nilsl))
    ·rename_i hm
     split at hst
     ·rename_i hb
      simp at hst
      obtain ⟨rfl,rfl⟩:=hst
      exact full [] 0 (.inl ⟨hev,rfl,rfl⟩) (by simp) (by omega) (by simpa using hb.1) (by simpa using hb.2) rfl (by simp)
     ·simp at hst
   ·
    rename_i c0 n hs
    obtain ⟨q,hq⟩:=r.get s
    rw [hs] at hq
    generalize hve:a.eval s = v at hq
    cases hq with
    | full _ b o' _ _ hr =>
     split at hst
     ·rename_i hm
      simp at hst
      obtain ⟨rfl,rfl⟩:=hst
      subst hm
      have:=append_none (ty:=o.type) k (ad:=some ⟨b,o',none⟩) (n:=n) (cap:=n) (Nat.le_refl _)
      exact wp_value (hrun _ _ (by rw [hve];exact this)) (hK _ w g (Later.refl g w) (r.put hN fun d _=>.full _ _ _ _ _ hr))
     ·rename_i hm
      split at hst
      ·rename_i hcl
       split at hst
       ·rename_i hb
        simp at hst
        obtain ⟨rfl,rfl⟩:=hst
        exact full c0 n (.inr ⟨b,o',hve,by rw [hve];exact hr⟩) hcl.1 (by omega) hb.1 hb.2 rfl rfl
       ·simp at hst
      ·cases hst
   ·
    rename_i E' c0 n hs
    split at hst
    ·rename_i hcond2
     obtain ⟨rfl,hcl⟩:=hcond2
     cases s with
     | tmp ts =>
      simp only at hst
      split at hst
      ·rename_i hb
       simp at hst
       obtain ⟨h1,h2⟩:=hst
       have hslot:=r.slots ts
       have hlk:lookT ts st.s = .tail E' c0 n:=hs
       rw [hlk] at hslot
       exact tail (.slot ts) c0 n hslot hcl hb.1 hb.2 h1.symm h2.symm
      ·simp at hst
     | _=>simp at hst
    ·cases hst
   ·
    split at hst
    ·rename_i l hl
     split at hst
     ·rename_i E' c0 n hlg
      split at hst
      ·rename_i hcond2
       obtain ⟨rfl,hcl⟩:=hcond2
       split at hst
       ·rename_i hb
        simp at hst
        obtain ⟨h1,h2⟩:=hst
        refine tail l c0 n ?_ hcl hb.1 hb.2 h1.symm h2.symm
        exact og_rep r hl hlg
       ·simp at hst
      ·cases hst
     ·cases hst
    ·cases hst
  ·cases hst
 ·cases hst
theorem step_callI {c:Call} {f:Operand} {gf:FuncId} {ca cb:List V} {y:V} {h':List Ob} (hop:o.op = .call c) (hc:c.callee = .value f) (hcal:calleeOf (st.get X f) = some (gf,ca,cb))
  (hst:call.i gf (ca ++ copies (st.get X) c.args ++ cb) st.h = some (y,h')) (hci:CallIOk X call) (hN:dstOk N o = true) (r:Rel X base N st a w g) {K:Act→World→Prop} {Q:Exit→Act→World→Prop}
  (hK:Goes X base N ({ s:=st.s,h:=h',og:=[]:St }.put o.dst y) g w K):o.wp X.P a w K Q:=by
 obtain ⟨q,hq⟩:=r.get f
 obtain ⟨ua,ub,hve,ha,hb⟩:=calleeOf_val hq hcal
 have hcs:=copies_rep (X:=X) (w:=w) (g:=g) (a:=a) (ρ:=st.get X) (xs:=c.args) (fun x _=>r.get x)
 obtain ⟨fn,hfn,hname,⟨cbody,hcb⟩,hcalls⟩:=hci gf _ _ y h' hst w g _ r.sit ((ha.append hcs).append hb) (dstPos o) (dstPos_pos o)
 have hrun:=run_call_value (P:=X.P) hop hc hve hfn hname (by simp [hcb]) w
 unfold Oper.wp
 rw [hrun]
 refine hcalls.mono ?_
 rintro E w' ⟨v,g',rfl,hl,hsit,hrv,hμ,hsl,hlow⟩
 refine hK _ w' g' hl (rel_put (st':={ s:=st.s,h:=h',og:=[] }) r.defers r.size hN (fun t _=>?_) hsit (hlow base r.low) (by simp) fun d hd=>by rw [← dstPos_eq hd];exact hrv)
 have gen:∀ (p:Own) (v:Value) (x:V),(p = .slot t∨p = .free)→RepV X w g p v x→RepV X w' g' p v x:=by
  intro p v x hp hr
  induction hr with
  | d p v x hr=>exact .d p v x (hr.mono hl.cells hl.e)
  | tail p E cells n b c cur z vals hz hz0 hb hn hm hcur hcl he ho hpos hv hr =>
   rcases hp with rfl | rfl
   ·obtain ⟨h1,h2,h3⟩:=hsl b t ho
    exact .tail _ E cells n b c cur z vals hz hz0 (h1.trans hb) hn hm hcur hcl (h3.trans he) h2 hpos hv fun j v d k1 k2=>(hr j v d k1 k2).mono hl.cells hl.e
   ·exact (IsPos.ne_free hpos rfl).elim
  | tail0 _ E=>exact .tail0 _ E
  | full p b o cells n hr=>exact .full p b o cells n (hr.mono hl.cells hl.e)
  | obj p id off b hr=>exact .obj p id off b (hμ _ _ hr)
  | osl p id off n c b hr hn=>exact .osl p id off n c b (hμ _ _ hr) hn
  | clo p fn va vb a b hla hlb _ _ iha ihb=>exact .clo p fn va vb a b hla hlb (fun j v x h1 h2=>iha j v x h1 h2 (.inr rfl)) (fun j v x h1 h2=>ihb j v x h1 h2 (.inr rfl))
  | agg p vals vs hl' _ ih=>exact .agg p vals vs hl' (fun j v x h1 h2=>ih j v x h1 h2 (.inr rfl))
  | tup p vals vs hl' _ ih=>exact .tup p vals vs hl' (fun j v x h1 h2=>ih j v x h1 h2 (.inr rfl))
  | mp p id b hr=>exact .mp p id b (hμ _ _ hr)
  | it p id b hr=>exact .it p id b (hμ _ _ hr)
 exact gen _ _ _ (.inl rfl) (r.slots t)
theorem step_sound {st':St} (hst:stepOp X call base o st = some st') (hN:dstOk N o = true) (r:Rel X base N st a w g) (hc:CallPOk X call) (hci:CallIOk X call) {K:Act→World→Prop} {Q:Exit→Act→World→Prop}
  (hK:Goes X base N st' g w K):o.wp X.P a w K Q:=by
 unfold stepOp at hst
 split at hst
 ·rename_i x hv
  split at hst
  ·rename_i t hop
   simp at hst
   subst hst
   have hx:x = (st.get X (.tmp t)).copy:=by
    unfold valOp at hv;rw [hop] at hv;simpa using hv.symm
   subst hx
   exact step_move hop hN r hK
  ·rename_i t p hop
   have hl:loadOp X (st.get X) st.h t p = some x:=by
    unfold valOp at hv;rw [hop] at hv;exact hv
   split at hst
   ·rename_i id off hag hp
    simp at hst
    subst hst
    exact step_load hop hag hp hl hN r hK
   ·simp at hst
    subst hst
    exact step_val hv hN r hc hK
  ·simp at hst
   subst hst
   exact step_val hv hN r hc hK
 ·split at hst
  ·rename_i x hop
   split at hst
   ·rename_i tt
    split at hst
    ·rename_i rr hown
     simp at hst;subst hst
     unfold ownMove at hown
     split at hown
     ·split at hown
      ·rename_i l hl
       split at hown
       ·rename_i E c n hlg
        simp at hown;subst hown
        exact step_assign_own hop hl hlg hN r hK
       ·cases hown
      ·cases hown
     ·cases hown
    ·simp at hst;subst hst;exact step_assign hop hN r hK
   ·rename_i hx
    simp at hst
    subst hst
    exact step_assign_const hop (fun t ht=>hx t ht) hN r hK
  ·rename_i t hop
   split at hst
   ·rename_i z hz
    split at hst
    ·simp at hst;subst hst;exact step_alloc hop hz hN r hK
    ·cases hst
   ·cases hst
  ·rename_i t x hop
   simp only at hst
   split at hst
   ·rename_i hcnd
    simp only [Bool.and_eq_true] at hcnd
    simp at hst
    subst hst
    exact step_box hop hcnd.1 hN r hK
   ·cases hst
  ·rename_i t p x hop
   cases hs:storeOp X base st t p x with
   | none=>simp [hs] at hst
   | some s1=>simp [hs] at hst;subst hst;exact step_store hop hs hN r hK
  ·rename_i c hop
   split at hst
   ·rename_i hcal
    split at hst
    ·rename_i s x t u hargs hts
     cases hs:appendOp X st t u s x with
     | none=>simp [hs] at hst
     | some r1 =>
      simp [hs] at hst
      subst hst
      exact step_append hop hcal hargs hts hs hN r hK
    ·cases hst
   ·rename_i f hcal
    split at hst
    ·rename_i gf ca cb hce
     cases hs:call.i gf (ca ++ copies (st.get X) c.args ++ cb) st.h with
     | none=>rw [hs] at hst;simp only [Option.map_none] at hst;cases hst
     | some r1 =>
      rw [hs] at hst
      simp only [Option.map_some,Option.some.injEq] at hst
      subst hst
      exact step_callI hop hcal hce hs hci hN r hK
    ·cases hst
   ·cases hst
  ·cases hst
end
section
variable {X:Ctx} {base N:Nat} {st:St} {a:Act} {w:World} {g:Gh} {call:CallF} {o:Oper}
theorem Rel.boxAt (r:Rel X base N st a w g):(g.box w.heap.size).μ[st.h.length]? = some w.heap.size:=by
 show (g.μ ++ [w.heap.size])[st.h.length]? = some w.heap.size
 rw [← r.sit.heap.len];simp
theorem Rel.newOb (r:Rel X base N st a w g) {ob:Ob} {obj:Obj} {y:V} {v:Value}
  (hob:RepOb X (w.alloc obj) (g.box w.heap.size) st.h.length w.heap.size ob)
  (hv:∀ p,RepV X (w.alloc obj) (g.box w.heap.size) p v y) (hN:dstOk N o = true) :
  Rel X base N ({ st with h:=st.h ++ [ob] }.put o.dst y) (a.put o.dst v) (w.alloc obj) (g.box w.heap.size):=by
 have hf:=r.sit.fresh
 have k:=grow_box hf obj
 have hμ:(g.box w.heap.size).μ = g.μ ++ [w.heap.size]:=rfl
 have hnew:=r.boxAt
 have hold:∀ (id b:Nat),id < st.h.length→(g.box w.heap.size).μ[id]? = some b→g.μ[id]? = some b:=by
  intro id b hid hb
  rw [hμ,List.getElem?_append_left (by rw [r.sit.heap.len];exact hid)] at hb
  exact hb
 refine rel_put r.defers r.size hN (fun t _=>k.repV hf (r.slots t)) ⟨k.fresh,⟨by simp [hμ,r.sit.heap.len],fun id b hb=>?_,fun id b ob' hb ho=>?_⟩,?_⟩ ?_ (fun t l hm=>(r.og t l hm).grow k) (fun d _=>hv _)
 ·by_cases hid:id < st.h.length
  ·have hb0:=hold id b hid hb
   rw [k.own b (r.sit.heap.lt hb0)]
   exact r.sit.heap.own id b hb0
  ·have hlt:=(List.getElem?_eq_some_iff.1 hb).1
   rw [hμ] at hlt
   simp [r.sit.heap.len] at hlt
   obtain rfl:id = st.h.length:=by omega
   rw [hnew] at hb
   cases hb
   simp [Gh.box,r.sit.heap.len]
 ·by_cases hid:id < st.h.length
  ·have hb0:=hold id b hid hb
   rw [List.getElem?_append_left hid] at ho
   exact k.repOb hf (r.sit.heap.ob id b ob' hb0 ho)
  ·have hlt:=(List.getElem?_eq_some_iff.1 ho).1
   simp at hlt
   obtain rfl:id = st.h.length:=by omega
   rw [hnew] at hb
   cases hb
   simp at ho
   subst ho
   exact hob
 ·exact r.sit.glob.later (k.later hf)
 ·refine r.low.grow hf k r.sit.heap.len (fun id ob hid ho=>?_) (by simp)
  rw [List.getElem?_append_left (Nat.lt_of_lt_of_le hid r.low.1)] at ho
  exact ho
theorem mod_set {w:World} {b:Nat} {ob:Obj}:Mod b w { w with heap:=w.heap.setIfInBounds b ob } where
 os:=rfl
 tape:=rfl
 output:=rfl
 size:=by simp
 block:=fun x hx=>by simp [Ne.symm hx]
theorem Rel.setOb (r:Rel X base N st a w g) {id b:Nat} {ob ob':Ob} {w':World} (hid:g.μ[id]? = some b) (ho:st.h[id]? = some ob) (hmod:Mod b w w') (he:g.e b = 0)
  (hnew:∀ g2:Gh,g2.e = g.e→RepOb X w' g2 id b ob') :
  Rel X base N { s:=st.s,h:=st.h.set id ob',og:=ogBut id st.og } a w' g∧Later g w g w':=by
 have hown:=r.sit.heap.own id b hid
 have hou:∃ id,g.own b = .obj id:=⟨id,hown⟩
 have hlt:id < st.h.length:=(List.getElem?_eq_some_iff.1 ho).1
 refine ⟨⟨r.defers,r.size,fun t=>hmod.repV he hou (r.slots t),⟨?_,⟨by simpa using r.sit.heap.len,r.sit.heap.own,fun i b' ob2 hi hob=>?_⟩,hmod.glob he hou r.sit.glob⟩,⟨by simpa using r.low.1,fun n hn hel i b' ob2 hib hi hob=>?_,r.low.2.2⟩,fun t l hm=>?_⟩,hmod.later he hou⟩
 ·intro x hx;rw [hmod.size] at hx;exact r.sit.fresh x hx
 ·by_cases hii:i = id
  ·subst hii
   rw [hid] at hi;cases hi
   rw [List.getElem?_set_self hlt] at hob
   cases hob
   exact hnew g rfl
  ·rw [List.getElem?_set_ne (fun hh=>hii hh.symm)] at hob
   exact hmod.repOb he hou (fun hh=>hii (by subst hh;exact r.sit.heap.inj hi hid)) (r.sit.heap.ob i b' ob2 hi hob)
 ·have heT:(g.trunc n).e b = 0:=he
  have houT:∃ id,(g.trunc n).own b = .obj id:=hou
  by_cases hii:i = id
  ·subst hii
   rw [hid] at hi;cases hi
   rw [List.getElem?_set_self hlt] at hob
   cases hob
   exact hnew (g.trunc n) rfl
  ·rw [List.getElem?_set_ne (fun hh=>hii hh.symm)] at hob
   exact hmod.repOb heT houT (fun hh=>hii (by subst hh;exact r.sit.heap.inj hi hid)) (r.low.2.1 n hn hel i b' ob2 hib hi hob)
 ·simp only [ogBut,List.mem_filter] at hm
  obtain ⟨h1,h2⟩:=hm
  have hok:=r.og t l h1
  cases l with
  | slot u=>exact hok
  | cell i j =>
   obtain ⟨b',k1,k2⟩:=hok
   have hne:i ≠ id:=by simpa using h2
   have hbb:b' ≠ b:=fun hh=>hne (by subst hh;exact r.sit.heap.inj k1 hid)
   exact ⟨b',k1,(World.cell?_of_block (w:=w) (a:=⟨b',j,none⟩) (hmod.block b' hbb)).trans k2⟩
theorem step_plain {v:Value} {y:V} (hrun:(execOp a.eval o).run X.P w = .ok (.value v) w) (hv:∀ p,RepV X w g p v y) (hN:dstOk N o = true) (r:Rel X base N st a w g) {K:Act→World→Prop} {Q:Exit→Act→World→Prop}
  (hK:Goes X base N (st.put o.dst y) g w K):o.wp X.P a w K Q :=
 wp_value hrun (hK _ _ _ (Later.refl g w) (r.put hN fun _ _=>hv _))
theorem step_range {t:TypeId} {x:Operand} {s:List UInt8} (hop:o.op = .range t x) (ht:X.P.underlying t = some .string) (hx:st.get X x = .d (.str s)) (hN:dstOk N o = true) (r:Rel X base N st a w g) {K:Act→World→Prop} {Q:Exit→Act→World→Prop}
  (hK:Goes X base N ({ st with h:=st.h ++ [Ob.iter s 0] }.put o.dst (.it st.h.length)) g w K):o.wp X.P a w K Q:=by
 obtain ⟨q,hq⟩:=r.get x
 rw [hx] at hq
 generalize hve:a.eval x = v at hq
 cases hq with
 | d _ _ _ hd =>
  cases hd
  have hrun:(execOp a.eval o).run X.P w = .ok (.value (.pointer (some ⟨w.heap.size,0,none⟩))) (w.alloc (.stringIter ⟨s.toArray⟩ 0)):=by
   unfold execOp
   simp [hop,hve,Instr.range,run_underlying ht]
  refine wp_value hrun (hK _ _ _ ((grow_box r.sit.fresh _).later r.sit.fresh) (r.newOb ⟨heap_alloc_new w _,(r.sit.fresh _ (Nat.le_refl _)).2⟩ (fun p=>.it p _ _ r.boxAt) hN))
theorem step_next {it:Operand} {id pos:Nat} {s:List UInt8} (hop:o.op = .next it true) (hx:st.get X it = .it id) (hh:st.h[id]? = some (.iter s pos)) (hN:dstOk N o = true) (r:Rel X base N st a w g) {K:Act→World→Prop} {Q:Exit→Act→World→Prop}
  (hK:Goes X base N (if pos < s.length then { s:=st.s,h:=st.h.set id (.iter s (pos + (Utf8.decode ⟨s.toArray⟩ pos).2)),og:=ogBut id st.og:St }.put o.dst (.d (.tup [.bool true,.int .i64 pos,.int .i32 (Utf8.decode ⟨s.toArray⟩ pos).1])) else st.put o.dst (.d (.tup [.bool false]))) g w K):o.wp X.P a w K Q:=by
 obtain ⟨q,hq⟩:=r.get it
 rw [hx] at hq
 generalize hve:a.eval it = v at hq
 cases hq with
 | it _ _ b hb =>
  obtain ⟨k1,k2⟩:=r.sit.heap.ob id b _ hb hh
  by_cases hp:pos < s.length
  ·rw [if_pos hp] at hK
   have hp':pos < (⟨s.toArray⟩:ByteArray).size:=by simpa [ByteArray.size] using hp
   have hrun:(execOp a.eval o).run X.P w = .ok (.value (.tuple #[.bool true,.int .i64 pos,.int .i32 (Utf8.decode ⟨s.toArray⟩ pos).1])) { w with heap:=w.heap.setIfInBounds b (.stringIter ⟨s.toArray⟩ (pos + (Utf8.decode ⟨s.toArray⟩ pos).2)) }:=by
    unfold execOp
    have:=Lib.run_next_any_at (P:=X.P) w b ⟨s.toArray⟩ pos o.type k1 hp'
    simp [hop,hve,this,World.iterAt]
   have hbl:b < w.heap.size:=(Array.getElem?_eq_some_iff.1 k1).1
   obtain ⟨r2,hl⟩:=r.setOb (ob':=.iter s (pos + (Utf8.decode ⟨s.toArray⟩ pos).2)) hb hh (mod_set (ob:=.stringIter ⟨s.toArray⟩ (pos + (Utf8.decode ⟨s.toArray⟩ pos).2))) k2 (fun g2 h2=>⟨by simp [hbl],by rw [h2];exact k2⟩)
   refine wp_value hrun (hK _ _ _ hl (r2.put hN fun d _=>.d _ _ _ (.tup _ _ rfl fun j v d h1 h2=>?_)))
   match j with
   | 0=>simp at h1 h2;subst h1;subst h2;exact .bool _
   | 1=>simp at h1 h2;subst h1;subst h2;exact .int _ _
   | 2=>simp at h1 h2;subst h1;subst h2;exact .int _ _
   | j + 3=>simp at h1
  ·rw [if_neg hp] at hK
   have hpa:¬ pos < s.toArray.size:=by simpa using hp
   have hrun:(execOp a.eval o).run X.P w = .ok (.value (.tuple #[.bool false])) w:=by
    unfold execOp
    have:=Lib.run_next_end_at (P:=X.P) w b ⟨s.toArray⟩ pos o.type k1 (by simpa [ByteArray.size] using hp)
    simp [hop,hve,this]
   refine step_plain hrun (fun p=>.d _ _ _ (.tup _ _ rfl fun j v d h1 h2=>?_)) hN r hK
   match j with
   | 0=>simp at h1 h2;subst h1;subst h2;exact .bool _
   | j + 1=>simp at h1
end
open Go Go.MapKept
theorem keyOk_rep {P:Program} {kt:TypeId} {kd:D} (h:keyOk P kt kd = true) {w:World} {e:Nat→Nat} {v:Value} (r:RepD w e v kd):∃ d,P.underlying kt = some d∧IsKey d v:=by
 unfold keyOk at h
 split at h
 ·rename_i k k' n hu;cases r;exact ⟨_,hu,by simpa [IsKey] using h⟩
 ·rename_i s hu;cases r;exact ⟨_,hu,trivial⟩
 ·rename_i b hu;cases r;exact ⟨_,hu,trivial⟩
 ·cases h
theorem keySame_rep {d:TypeDesc} {a b:D} {x:Bool} (h:keySame a b = some x) {w:World} {e:Nat→Nat} {u v:Value} (ru:RepD w e u a) (rv:RepD w e v b) (hk:IsKey d u) :
  Instr.sameNow d u v = some x∧(x = true→u = v):=by
 unfold keySame at h
 split at h
 ·rename_i k m k' m'
  cases ru;cases rv
  split at h
  ·rename_i hkk
   subst hkk
   simp at h
   cases d <;> simp [IsKey] at hk
   refine ⟨by simp [Instr.sameNow,h],fun hx=>?_⟩
   subst hx
   have:m = m':=by simpa using h
   rw [this]
  ·cases h
 ·rename_i s s'
  cases ru;cases rv
  simp at h
  cases d <;> simp [IsKey] at hk
  refine ⟨?_,fun hx=>?_⟩
  ·simp only [Instr.sameNow]
   congr 1
   rw [← h]
   show (⟨s.toArray⟩ == (⟨s'.toArray⟩:ByteArray)) = (s == s')
   by_cases hs:s = s'
   ·subst hs;rw [(bytes_beq _ _).2 rfl];simp
   ·rw [show (s == s') = false by simpa using hs]
    cases hb:(⟨s.toArray⟩ == (⟨s'.toArray⟩:ByteArray)) with
    | false=>rfl
    | true =>
     have:=congrArg (fun b:ByteArray=>b.data.toList) ((bytes_beq _ _).1 hb)
     exact absurd (by simpa using this) hs
  ·subst hx
   have:s = s':=by simpa using h
   rw [this]
 ·rename_i s s'
  cases ru;cases rv
  simp at h
  cases d <;> simp [IsKey] at hk
  refine ⟨by simp [Instr.sameNow,h],fun hx=>?_⟩
  subst hx
  have:s = s':=by simpa using h
  rw [this]
 ·cases h
theorem mapFind_rep {d:TypeDesc} {kd:D} {w:World} {e:Nat→Nat} {kv:Value} (rk:RepD w e kv kd) (hk:IsKey d kv):∀ (es:List (D × D)) (ens:List MapEntry) (i:Nat) (r:Option (Nat × D)),
  ens.length = es.length→(∀ (j:Nat) (en:MapEntry) (x:D × D),ens[j]? = some en→es[j]? = some x→RepD w e en.key x.1∧RepD w e en.val x.2)→mapFind kd es i = some r →
  match r with
  | none=>Instr.findNow d kv ens i = some none
  | some (j,xd)=>∃ en xk,Instr.findNow d kv ens i = some (some (j,en.val))∧RepD w e en.val xd∧i≤j∧ens[j - i]? = some en∧es[j - i]? = some (xk,xd)∧en.key = kv
 | [],[],i,r,_,_,h=>by simp [mapFind] at h;subst h;rfl
 | [],_ :: _,_,_,hl,_,_=>by simp at hl
 | _ :: _,[],_,_,hl,_,_=>by simp at hl
 | x :: es,en :: ens,i,r,hl,hr,h=>by
  obtain ⟨h1,h2⟩:=hr 0 en x rfl rfl
  simp only [mapFind] at h
  split at h
  ·rename_i hs
   obtain ⟨k1,k2⟩:=keySame_rep hs rk h1 hk
   simp at h
   subst h
   exact ⟨en,x.1,by simp [Instr.findNow,k1],h2,Nat.le_refl _,by simp,by simp,(k2 rfl).symm⟩
  ·rename_i hs
   obtain ⟨k1,_⟩:=keySame_rep hs rk h1 hk
   have ih:=mapFind_rep rk hk es ens (i + 1) r (by simpa using hl) (fun j en x a b=>hr (j + 1) en x (by simpa using a) (by simpa using b)) h
   cases r with
   | none=>simp only at ih ⊢;simp [Instr.findNow,k1,ih]
   | some jx =>
    obtain ⟨j,xd⟩:=jx
    obtain ⟨en',xk,i1,i2,i3,i4,i5,i6⟩:=ih
    refine ⟨en',xk,by simp [Instr.findNow,k1,i1],i2,by omega,?_,?_,i6⟩
    ·rw [show j - i = (j - (i + 1)) + 1 by omega];simpa using i4
    ·rw [show j - i = (j - (i + 1)) + 1 by omega];simpa using i5
  ·cases h
theorem tup2 {w:World} {e:Nat→Nat} {v:Value} {d:D} (h:RepD w e v d) (b:Bool):RepD w e (.tuple #[v,.bool b]) (.tup [d,.bool b]) :=
 .tup _ _ rfl fun j x y h1 h2=>by
  match j with
  | 0=>simp at h1 h2;subst h1;subst h2;exact h
  | 1=>simp at h1 h2;subst h1;subst h2;exact .bool _
  | j + 2=>simp at h1
theorem zeroT_run {X:Ctx} {t:TypeId} {z:D} (hz:zeroT X.P t = some z) (w:World) (e:Nat→Nat):∃ zv,(zeroValue t).run X.P w = .ok zv w∧RepD w e zv z:=by
 unfold zeroT at hz
 cases hi:X.P.info? t with
 | none=>simp [hi] at hz
 | some i =>
  simp only [hi] at hz
  cases hzz:i.zero with
  | none=>simp [hzz] at hz
  | some zv =>
   simp [hzz] at hz
   subst hz
   exact ⟨zv,by simp [zeroValue,typeInfo,hi,hzz],RepD.ofVal 6 zv⟩
section
variable {X:Ctx} {base N:Nat} {st:St} {a:Act} {w:World} {g:Gh} {call:CallF} {o:Oper}
theorem step_makeMap {t kt et:TypeId} {x:Option Operand} (hop:o.op = .makeMap t x) (ht:X.P.underlying t = some (.map kt et)) (hx:x = none∨∃ y k n,x = some y∧st.get X y = .d (.int k n)) (hN:dstOk N o = true) (r:Rel X base N st a w g) {K:Act→World→Prop} {Q:Exit→Act→World→Prop}
  (hK:Goes X base N ({ st with h:=st.h ++ [Ob.map [] 0] }.put o.dst (.mp st.h.length)) g w K):o.wp X.P a w K Q:=by
 have hrun:(execOp a.eval o).run X.P w = .ok (.value (.map (some w.heap.size))) (w.alloc (.map #[] 0)):=by
  unfold execOp
  rcases hx with rfl | ⟨y,k,n,rfl,hy⟩
  ·simp [hop,Instr.makeMap]
  ·obtain ⟨q,hq⟩:=r.get y
   rw [hy] at hq
   generalize hve:a.eval y = v at hq
   cases hq with
   | d _ _ _ hd=>cases hd;simp [hop,hve,Instr.makeMap,run_underlying ht,asInt,asIntOf]
 exact wp_value hrun (hK _ _ _ ((grow_box r.sit.fresh _).later r.sit.fresh) (r.newOb ⟨#[],heap_alloc_new w _,rfl,(r.sit.fresh _ (Nat.le_refl _)).2,by simp⟩ (fun p=>.mp p _ _ r.boxAt) hN))
theorem mapOf_rep {x:V} {es:List (D × D)} (h:mapOf st.h x = some es) (r:RepH X w g st.h) {q:Own} {v:Value} (hv:RepV X w g q v x) :
  (v = .map none∧es = [])∨∃ b ens ck,v = .map (some b)∧w.heap[b]? = some (.map ens ck)∧ens.size = es.length∧∀ (j:Nat) (en:MapEntry) (kd:D × D),ens[j]? = some en→es[j]? = some kd→RepD w g.e en.key kd.1∧RepD w g.e en.val kd.2:=by
 unfold mapOf at h
 split at h
 ·rename_i id
  split at h
  ·rename_i es' ck hh
   simp at h
   subst h
   cases hv with
   | mp _ _ b hb =>
    obtain ⟨ens,k1,k2,k3,k4⟩:=r.ob id b _ hb hh
    exact .inr ⟨b,ens,ck,rfl,k1,k2,k4⟩
  ·cases h
 ·simp at h
  subst h
  cases hv with
  | d _ _ _ hd=>cases hd;exact .inl ⟨rfl,rfl⟩
 ·cases h
theorem step_lookup {t:TypeId} {x k:Operand} {ok:Bool} {y:V} (hop:o.op = .lookup t x k ok) (hy:mapGet X st t x k ok = some y) (hN:dstOk N o = true) (r:Rel X base N st a w g) {K:Act→World→Prop} {Q:Exit→Act→World→Prop}
  (hK:Goes X base N (st.put o.dst y) g w K):o.wp X.P a w K Q:=by
 unfold mapGet lookV at hy
 split at hy
 ·rename_i kt et ht
  split at hy
  ·rename_i es kd hes hkd
   split at hy
   ·rename_i hko
    obtain ⟨q,hq⟩:=r.get k
    rw [hkd] at hq
    obtain ⟨qx,hqx⟩:=r.get x
    generalize hke:a.eval k = kv at hq
    generalize hxe:a.eval x = xv at hqx
    cases hq with
    | d _ _ _ rk =>
     obtain ⟨d,hud,hik⟩:=keyOk_rep hko rk
     have main:∃ ens:Array MapEntry,((xv = .map none∧ens = #[])∨∃ b ck,xv = .map (some b)∧w.heap[b]? = some (.map ens ck))∧ens.toList.length = es.length ∧
       ∀ (j:Nat) (en:MapEntry) (x:D × D),ens.toList[j]? = some en→es[j]? = some x→RepD w g.e en.key x.1∧RepD w g.e en.val x.2:=by
      rcases mapOf_rep hes r.sit.heap hqx with ⟨rfl,rfl⟩ | ⟨b,ens,ck,rfl,h1,h2,h3⟩
      ·exact ⟨#[],.inl ⟨rfl,rfl⟩,rfl,by simp⟩
      ·exact ⟨ens,.inr ⟨b,ck,rfl,h1⟩,by simpa using h2,fun j en x a b=>h3 j en x (by simpa using a) b⟩
     obtain ⟨ens,hens,hlen,hrep⟩:=main
     have fin:∀ v:Value,(execOp a.eval o).run X.P w = .ok (.value v) w→(∀ p,RepV X w g p v y)→o.wp X.P a w K Q:=fun v h1 h2=>step_plain h1 h2 hN r hK
     split at hy
     ·rename_i i xd hf
      obtain ⟨en,xk,f1,f2,_,_,_,_⟩:=mapFind_rep rk hik es ens.toList 0 _ hlen hrep hf
      have hrun:(execOp a.eval o).run X.P w = .ok (.value (if ok then .tuple #[en.val,.bool true] else en.val)) w:=by
       unfold execOp
       rcases hens with ⟨rfl,rfl⟩ | ⟨b,ck,rfl,hb⟩
       ·simp at f1;cases f1
       ·cases ok <;> simp [hop,hke,hxe,Instr.lookup,run_underlying ht,MapKept.run_getObj_map hb,MapKept.run_checkKey hud hik,MapKept.run_findKey hud f1]
      refine fin _ hrun fun p=>?_
      simp at hy
      subst hy
      cases ok
      ·exact .d _ _ _ f2
      ·exact .d _ _ _ (tup2 f2 true)
     ·rename_i hf
      have f1:=mapFind_rep rk hik es ens.toList 0 _ hlen hrep hf
      simp only at f1
      cases hz:zeroT X.P et with
      | none=>simp [hz] at hy
      | some z =>
       simp [hz] at hy
       obtain ⟨zv,z1,z2⟩:=zeroT_run hz w g.e
       have hrun:(execOp a.eval o).run X.P w = .ok (.value (if ok then .tuple #[zv,.bool false] else zv)) w:=by
        unfold execOp
        rcases hens with ⟨rfl,rfl⟩ | ⟨b,ck,rfl,hb⟩
        ·cases ok <;> simp [hop,hke,hxe,Instr.lookup,run_underlying ht,MapKept.run_checkKey hud hik,MapKept.run_findKey hud f1,z1]
        ·cases ok <;> simp [hop,hke,hxe,Instr.lookup,run_underlying ht,MapKept.run_getObj_map hb,MapKept.run_checkKey hud hik,MapKept.run_findKey hud f1,z1]
       refine fin _ hrun fun p=>?_
       subst hy
       cases ok
       ·exact .d _ _ _ z2
       ·exact .d _ _ _ (tup2 z2 false)
     ·cases hy
   ·cases hy
  ·cases hy
 ·cases hy
theorem step_mapSet {t:TypeId} {m k x:Operand} {st':St} (hop:o.op = .mapUpdate t m k x∨o.op = .insert t m k x) (hy:mapSet X st t m k x = some st') (hN:dstOk N o = true) (r:Rel X base N st a w g) {K:Act→World→Prop} {Q:Exit→Act→World→Prop}
  (hK:Goes X base N (st'.put o.dst undefV) g w K):o.wp X.P a w K Q:=by
 unfold mapSet at hy
 split at hy
 ·rename_i kt et ht
  split at hy
  ·rename_i id kd xd hm hkd hxd
   split at hy
   ·rename_i es ck hh
    split at hy
    ·rename_i hko
     obtain ⟨q,hq⟩:=r.get k
     rw [hkd] at hq
     obtain ⟨qm,hqm⟩:=r.get m
     rw [hm] at hqm
     obtain ⟨qx,hqx⟩:=r.get x
     have rx:=hqx.toD hxd
     generalize hke:a.eval k = kv at hq
     generalize hme:a.eval m = mv at hqm
     generalize hxe:a.eval x = xv at rx
     cases hq with
     | d _ _ _ rk =>
      cases hqm with
      | mp _ _ b hb =>
       obtain ⟨d,hud,hik⟩:=keyOk_rep hko rk
       obtain ⟨ens,k1,k2,k3,k4⟩:=r.sit.heap.ob id b _ hb hh
       have hlen:ens.toList.length = es.length:=by simpa using k2
       have hrep:∀ (j:Nat) (en:MapEntry) (x:D × D),ens.toList[j]? = some en→es[j]? = some x→RepD w g.e en.key x.1∧RepD w g.e en.val x.2:=fun j en x a b=>k4 j en x (by simpa using a) b
       have hbl:b < w.heap.size:=(Array.getElem?_eq_some_iff.1 k1).1
       have fin:∀ (ens':Array MapEntry) (es':List (D × D)) (ck':Nat),(Instr.mapUpdate t (.map (some b)) kv xv).run X.P w = .ok () { w with heap:=w.heap.setIfInBounds b (.map ens' ck') } → ens'.size = es'.length →
         (∀ (j:Nat) (en:MapEntry) (x:D × D),ens'[j]? = some en→es'[j]? = some x→RepD w g.e en.key x.1∧RepD w g.e en.val x.2)→st' = { s:=st.s,h:=st.h.set id (.map es' ck'),og:=ogBut id st.og } → o.wp X.P a w K Q:=by
        intro ens' es' ck' h1 h2 h3 h4
        have hrun:(execOp a.eval o).run X.P w = .ok .skip { w with heap:=w.heap.setIfInBounds b (.map ens' ck') }:=by
         unfold execOp
         rcases hop with hop | hop <;> simp [hop,hke,hme,hxe,h1]
        have hmod:Mod b w { w with heap:=w.heap.setIfInBounds b (.map ens' ck') }:=mod_set
        obtain ⟨r2,hl⟩:=r.setOb (ob':=.map es' ck') hb hh hmod k3 (fun g2 hg2=>⟨ens',by simp [hbl],h2,by rw [hg2];exact k3,fun j en x a1 a2=>by rw [hg2];exact ⟨hmod.repD k3 (h3 j en x a1 a2).1,hmod.repD k3 (h3 j en x a1 a2).2⟩⟩)
        unfold Oper.wp
        rw [hrun]
        subst h4
        exact hK _ _ g hl (r2.put hN fun d _=>.d _ _ _ (.tup [] [] rfl (by simp)))
       split at hy
       ·rename_i i xd0 hf
        obtain ⟨en,xk,f1,f2,_,f4,f5,f6⟩:=mapFind_rep rk hik es ens.toList 0 _ hlen hrep hf
        simp at hy
        have f4':ens[i]? = some en:=by simpa using f4
        refine fin (ens.modify i fun e=>{ e with key:=kv,val:=xv }) (es.set i (kd,xd)) ck ?_ (by simpa using k2) ?_ hy.symm
        ·simp [Instr.mapUpdate,run_underlying ht,MapKept.run_getObj_map k1,MapKept.run_checkKey hud hik,MapKept.run_findKey hud f1,f4',f6,MapKept.run_keyThatStays hik,MapKept.run_setObj_map _ k1]
        ·intro j en' x' a1 a2
         rw [List.getElem?_set] at a2
         rw [Array.getElem?_modify] at a1
         by_cases hj:i = j
         ·subst hj
          rw [if_pos rfl] at a1 a2
          rw [f4'] at a1
          simp at a1
          subst a1
          split at a2
          ·cases a2;exact ⟨rk,rx⟩
          ·cases a2
         ·rw [if_neg hj] at a1 a2
          exact k4 j en' x' a1 a2
       ·rename_i hf
        have f1:=mapFind_rep rk hik es ens.toList 0 _ hlen hrep hf
        simp only at f1
        simp at hy
        refine fin (ens.push { key:=kv,val:=xv,born:=ck }) (es ++ [(kd,xd)]) (ck + 1) ?_ (by simp [k2]) ?_ hy.symm
        ·simp [Instr.mapUpdate,run_underlying ht,MapKept.run_getObj_map k1,MapKept.run_checkKey hud hik,MapKept.run_findKey hud f1,MapKept.run_setObj_map _ k1]
        ·intro j en' x' a1 a2
         rw [Array.getElem?_push] at a1
         rw [List.getElem?_append] at a2
         by_cases hj:j = ens.size
         ·subst hj
          rw [if_pos rfl] at a1
          rw [if_neg (by omega)] at a2
          simp at a1
          subst a1
          simp [k2] at a2
          subst a2
          exact ⟨rk,rx⟩
         ·rw [if_neg hj] at a1
          have hlt:j < ens.size:=(Array.getElem?_eq_some_iff.1 a1).1
          rw [if_pos (by omega)] at a2
          exact k4 j en' x' a1 a2
       ·cases hy
    ·cases hy
   ·cases hy
  ·cases hy
 ·cases hy
end
section
variable {X:Ctx} {base N:Nat} {st:St} {a:Act} {w:World} {g:Gh} {call:CallF} {o:Oper}
theorem step_makeInterface {t:TypeId} {x:Operand} {td:TypeDesc} {d:D} (hop:o.op = .makeInterface t x) (ht:X.P.underlying t = some td) (hni:∀ m,td ≠ .interface m) (hd:(st.get X x).toD = some d) (hN:dstOk N o = true) (r:Rel X base N st a w g) {K:Act→World→Prop} {Q:Exit→Act→World→Prop}
  (hK:Goes X base N (st.put o.dst (.d (.ifc t d))) g w K):o.wp X.P a w K Q:=by
 obtain ⟨q,hq⟩:=r.get x
 have hr:=hq.toD hd
 have hrun:(execOp a.eval o).run X.P w = .ok (.value (.iface t (a.eval x))) w:=by
  unfold execOp
  cases td <;> first | (exact absurd rfl (hni _)) | simp [hop,Instr.makeInterface,run_underlying ht]
 exact step_plain hrun (fun p=>.d _ _ _ (.ifc _ _ _ hr)) hN r hK
theorem step_assert {x:Operand} {u t:TypeId} {ok:Bool} {y:V} (hop:o.op = .typeAssert x u t ok) (hy:assertOp X st x t ok = some y) (hN:dstOk N o = true) (r:Rel X base N st a w g) {K:Act→World→Prop} {Q:Exit→Act→World→Prop}
  (hK:Goes X base N (st.put o.dst y) g w K):o.wp X.P a w K Q:=by
 obtain ⟨q,hq⟩:=r.get x
 generalize hve:a.eval x = v at hq
 have fin:∀ v:Value,(execOp a.eval o).run X.P w = .ok (.value v) w→(∀ p,RepV X w g p v y)→o.wp X.P a w K Q:=fun v h1 h2=>step_plain h1 h2 hN r hK
 unfold assertOp at hy
 split at hy
 ·cases hy
 ·cases hy
 ·rename_i td hni ht
  have hni':∀ m,td ≠ .interface m:=fun m h=>hni m (by rw [h])
  split at hy
  ·rename_i u' d hx
   rw [hx] at hq
   cases hq with
   | d _ _ _ hd =>
    cases hd with
    | ifc _ v' _ hd =>
     split at hy
     ·rename_i hut
      subst hut
      simp at hy
      subst hy
      refine fin (if ok then .tuple #[v',.bool true] else v') ?_ fun p=>?_
      ·unfold execOp
       cases td <;> first | (exact absurd rfl (hni' _)) | (cases ok <;> simp [hop,hve,Instr.typeAssert,run_underlying ht])
      ·cases ok
       ·exact .d _ _ _ hd
       ·exact .d _ _ _ (tup2 hd true)
     ·rename_i hut
      split at hy
      ·rename_i hok
       cases hz:zeroT X.P t with
       | none=>simp [hz] at hy
       | some z =>
        simp [hz] at hy
        subst hy
        obtain ⟨zv,z1,z2⟩:=zeroT_run hz w g.e
        refine fin (.tuple #[zv,.bool false]) ?_ fun p=>.d _ _ _ (tup2 z2 false)
        unfold execOp
        cases td <;> first | (exact absurd rfl (hni' _)) | simp [hop,hve,hok,Instr.typeAssert,run_underlying ht,hut,z1]
      ·cases hy
  ·rename_i hx
   rw [hx] at hq
   cases hq with
   | d _ _ _ hd =>
    cases hd
    split at hy
    ·rename_i hok
     cases hz:zeroT X.P t with
     | none=>simp [hz] at hy
     | some z =>
      simp [hz] at hy
      subst hy
      obtain ⟨zv,z1,z2⟩:=zeroT_run hz w g.e
      refine fin (.tuple #[zv,.bool false]) ?_ fun p=>.d _ _ _ (tup2 z2 false)
      unfold execOp
      cases td <;> first | (exact absurd rfl (hni' _)) | simp [hop,hve,hok,Instr.typeAssert,run_underlying ht,z1]
    ·cases hy
  ·cases hy
theorem bytesOf_spec {w:World} {e:Nat→Nat}:∀ {c:List D} {l:List UInt8} {vals:List Value},bytesOf c = some l→PtD w e vals c→∃ ns:List Int,vals = ns.map (Value.int .u8)∧∀ s:ByteArray,ns.foldl (fun r n=>r.push (UInt8.ofNat n.toNat)) s = ⟨s.data ++ l.toArray⟩
 | [],l,vals,h,hp=>by
  simp [bytesOf] at h
  subst h
  have:vals = []:=List.eq_nil_of_length_eq_zero (by rw [hp.1];rfl)
  subst this
  exact ⟨[],rfl,fun s=>by simp⟩
 | x :: c,l,[],h,hp=>by have:=hp.1;simp at this
 | x :: c,l,v :: vals,h,hp=>by
  unfold bytesOf at h
  split at h
  ·rename_i heq;cases heq
  ·rename_i n r heq
   cases heq
   split at h
   ·rename_i l' hl'
    simp at h
    subst h
    have h0:=hp.2 0 v _ rfl rfl
    cases h0
    obtain ⟨ns,h1,h2⟩:=bytesOf_spec (vals:=vals) hl' ⟨by simpa using hp.1,fun j v d a b=>hp.2 (j + 1) v d (by simpa using a) (by simpa using b)⟩
    refine ⟨n :: ns,by simp [h1],fun s=>?_⟩
    rw [List.foldl_cons,h2]
    congr 1
    simp [ByteArray.push,← Array.toList_inj]
   ·cases h
  ·cases h
theorem step_bytesToString {s t e:TypeId} {x:Operand} {c:List D} {n:Nat} {l:List UInt8} (hop:o.op = .convert s t x) (hs:X.P.underlying s = some (.slice e)) (ht:X.P.underlying t = some .string) (he:X.P.underlying e = some (.int .u8))
  (hx:(st.get X x).slice? = some (c,n)) (hn:c.length = n) (hl:bytesOf c = some l) (hN:dstOk N o = true) (r:Rel X base N st a w g) {K:Act→World→Prop} {Q:Exit→Act→World→Prop}
  (hK:Goes X base N (st.put o.dst (.d (.str l))) g w K):o.wp X.P a w K Q:=by
 obtain ⟨q,hq⟩:=r.get x
 generalize hve:a.eval x = v at hq
 have fin:(convert s t v).run X.P w = .ok (.string ⟨l.toArray⟩) w→o.wp X.P a w K Q:=fun h=>by
  refine step_plain (v:=.string ⟨l.toArray⟩) ?_ (fun p=>.d _ _ _ (.str _)) hN r hK
  unfold execOp
  simp [hop,hve,h]
 rcases V.slice?_rep hx hq with ⟨_,rfl,rfl,rfl⟩ | hr
 ·simp [bytesOf] at hl
  subst hl
  refine fin ?_
  simp [convert,run_underlying hs,run_underlying ht,run_underlying he,Conv.bytesToString]
  rfl
 ·cases hr with
  | sl0 ad cp _ =>
   simp [bytesOf] at hl
   subst hl
   refine fin ?_
   cases ad with
   | none=>simp [convert,run_underlying hs,run_underlying ht,run_underlying he,Conv.bytesToString];rfl
   | some ad =>
    have:=run_bytesToString (P:=X.P) w ad 0 cp [] (by simp [loadCells,loadCellsFrom])
    simp [convert,run_underlying hs,run_underlying ht,run_underlying he,this]
    rfl
  | sl b o' _ cp _ vals hnc hlv hee hc hrr =>
   obtain ⟨ns,h1,h2⟩:=bytesOf_spec hl ⟨hlv,hrr⟩
   refine fin ?_
   have hload:(loadCells ⟨b,o',none⟩ n).run X.P w = .ok (ns.map (Value.int .u8)).toArray w:=by
    have:=run_loadCells_list (P:=X.P) (w:=w) ⟨b,o',none⟩ vals (fun j v hj=>by rw [Addr.add_lit];exact hc j v hj)
    rw [← h1]
    rw [show n = vals.length by rw [hlv,hn]]
    exact this
   have:=run_bytesToString (P:=X.P) w ⟨b,o',none⟩ n cp ns hload
   simp [convert,run_underlying hs,run_underlying ht,run_underlying he,this,h2]
end
section
variable {X:Ctx} {base N:Nat} {st:St} {a:Act} {w:World} {g:Gh} {call:CallF} {o:Oper}
theorem keep_bytes {g:Gh} {w:World} (hf:Fresh g w) (e:TypeId) (s:ByteArray) (n:Nat):Keep g w (g.row w.heap.size n .free) (Lib.bytesWorld w e s) where
 os:=by simp [Lib.bytesWorld,World.freeze,World.alloc,World.drew,-World.alloc_eq,-World.drew_eq]
 tape:=by simp [Lib.bytesWorld,World.freeze,World.alloc,World.drew,-World.alloc_eq,-World.drew_eq]
 output:=by simp [Lib.bytesWorld,World.freeze,World.alloc,World.drew,-World.alloc_eq,-World.drew_eq]
 size:=by rw [Lib.bytesWorld_size];omega
 block:=fun b hb=>Lib.bytesWorld_at_old w e s b hb
 own:=fun b hb=>by simp only [Gh.row];rw [if_neg (by omega)]
 e:=fun b hb=>by simp only [Gh.row];rw [if_neg (by omega)]
 μ:=fun _ _ h=>h
 pin:=rfl
 μeq:=rfl
 fresh:=fun b hb=>by
  rw [Lib.bytesWorld_size] at hb
  simp only [Gh.row]
  rw [if_neg (by omega),if_neg (by omega)]
  exact hf b (by omega)
theorem step_stringToBytes {s t e:TypeId} {x:Operand} {l:List UInt8} (hop:o.op = .convert s t x) (hs:X.P.underlying s = some .string) (ht:X.P.underlying t = some (.slice e)) (he:X.P.underlying e = some (.int .u8))
  (hx:st.get X x = .d (.str l)) (hN:dstOk N o = true) (r:Rel X base N st a w g) {K:Act→World→Prop} {Q:Exit→Act→World→Prop}
  (hK:Goes X base N (st.put o.dst (.d (.sl (l.map fun b=>.int .u8 b.toNat) l.length))) g w K):o.wp X.P a w K Q:=by
 obtain ⟨q,hq⟩:=r.get x
 rw [hx] at hq
 generalize hve:a.eval x = v at hq
 cases hq with
 | d _ _ _ hd =>
  cases hd
  have hr:=Lib.run_convert_string_bytes (P:=X.P) w s t e ⟨l.toArray⟩ hs ht he
  have hrun:(execOp a.eval o).run X.P w = .ok (.value (.slice (some ⟨w.heap.size,0,none⟩) l.length (grownCap w l.length 0 e))) (Lib.bytesWorld w e ⟨l.toArray⟩):=by
   unfold execOp
   have hsz:(⟨l.toArray⟩:ByteArray).size = l.length:=by simp [ByteArray.size]
   rw [hsz] at hr
   simp [hop,hve,hr]
  have hk:=keep_bytes r.sit.fresh e ⟨l.toArray⟩ l.length
  refine wp_value hrun (hK _ _ _ (hk.later r.sit.fresh) ((r.keep hk).put hN fun d _=>.d _ _ _ (.sl _ 0 _ _ _ (l.map fun b=>.int .u8 b.toNat) ?_ (by simp) (by simp [Gh.row]) (fun j v hj=>?_) (fun j v d h1 h2=>?_))))
  ·exact grownCap_ge w l.length 0 e
  ·have hlt:j < l.length:=by simpa using (List.getElem?_eq_some_iff.1 hj).1
   rw [Nat.zero_add,Lib.bytesWorld_cell w e ⟨l.toArray⟩ j (by simpa [ByteArray.size] using hlt)]
   rw [List.getElem?_map,List.getElem?_eq_getElem hlt] at hj
   simp at hj
   simp [List.getD_eq_getElem?_getD,List.getElem?_eq_getElem hlt,← hj]
  ·rw [List.getElem?_map] at h1 h2
   cases hs:l[j]? with
   | none=>simp [hs] at h1
   | some b=>simp [hs] at h1 h2;subst h1;subst h2;exact .int _ _
theorem step_mapLen {c:Call} {x:Operand} {t:TypeId} {es:List (D × D)} (hop:o.op = .call c) (hc:c.callee = .builtin .len) (hargs:c.args.toList = [x]) (hts:c.argTypes.toList = [t]) (ht:isMapT X.P t = true)
  (hes:mapOf st.h (st.get X x) = some es) (hN:dstOk N o = true) (r:Rel X base N st a w g) {K:Act→World→Prop} {Q:Exit→Act→World→Prop}
  (hK:Goes X base N (st.put o.dst (.d (.int .i64 es.length))) g w K):o.wp X.P a w K Q:=by
 have hargs':c.args = #[x]:=by apply Array.ext';simpa using hargs
 have hts':c.argTypes = #[t]:=by apply Array.ext';simpa using hts
 obtain ⟨q,hq⟩:=r.get x
 generalize hve:a.eval x = v at hq
 have hu:∃ k e,X.P.underlying t = some (.map k e):=by
  unfold isMapT at ht
  split at ht
  ·rename_i k e hu;exact ⟨k,e,hu⟩
  ·cases ht
 obtain ⟨k,e,hu⟩:=hu
 refine step_plain (v:=.int .i64 es.length) ?_ (fun p=>.d _ _ _ (.int _ _)) hN r hK
 unfold execOp
 rcases mapOf_rep hes r.sit.heap hq with ⟨rfl,rfl⟩ | ⟨b,ens,ck,rfl,h1,h2,h3⟩
 ·simp [hop,resolve,hc,hargs',hts',invoke,builtin,hve,Builtin.len_,run_underlying hu,goInt]
 ·simp [hop,resolve,hc,hargs',hts',invoke,builtin,hve,Builtin.len_,run_underlying hu,MapKept.run_getObj_map h1,goInt,h2]
theorem step_makeSlice {t:TypeId} {l c:Operand} {y:V} {h':List Ob} (hop:o.op = .makeSlice t l c) (hy:makeSliceOp X st t l c = some (y,h')) (hN:dstOk N o = true) (r:Rel X base N st a w g) {K:Act→World→Prop} {Q:Exit→Act→World→Prop}
  (hK:Goes X base N ({ st with h:=h' }.put o.dst y) g w K):o.wp X.P a w K Q:=by
 have hf:=r.sit.fresh
 unfold makeSliceOp at hy
 split at hy
 ·rename_i e kl l' kc c' hE hl hc
  obtain ⟨ql,hql⟩:=r.get l
  obtain ⟨qc,hqc⟩:=r.get c
  have hle:∃ kl,a.eval l = .int kl l':=by
   unfold intOfV at hl
   split at hl
   ·rename_i k n hx;simp at hl;obtain ⟨rfl,rfl⟩:=hl;rw [hx] at hql;generalize a.eval l = v at hql;cases hql with | d _ _ _ hd=>cases hd;exact ⟨_,rfl⟩
   ·cases hl
  have hce:∃ kc,a.eval c = .int kc c':=by
   unfold intOfV at hc
   split at hc
   ·rename_i k n hx;simp at hc;obtain ⟨rfl,rfl⟩:=hc;rw [hx] at hqc;generalize a.eval c = v at hqc;cases hqc with | d _ _ _ hd=>cases hd;exact ⟨_,rfl⟩
   ·cases hc
  obtain ⟨kl1,hle⟩:=hle
  obtain ⟨kc1,hce⟩:=hce
  have ht:X.P.underlying t = some (.slice e):=by
   unfold elemT at hE
   split at hE
   ·rename_i e' hu;simp at hE;subst hE;exact hu
   ·cases hE
  split at hy
  ·rename_i i z hi hz
   split at hy
   ·rename_i hcnd
    obtain ⟨h0,hlc,hby,hcb,hs0,hzl⟩:=hcnd
    unfold zeroT at hz
    simp only [hi] at hz
    cases hzz:i.zero with
    | none=>simp [hzz] at hz
    | some zv =>
     simp [hzz] at hz
     subst hz
     have hzsz:zv.cells.size = i.size:=by
      have:=(cells_ofVal (w:=w) (e:=g.e) 4 zv).1
      rw [Array.length_toList] at this
      rw [this];exact hzl
     have hmk:=run_make (P:=X.P) w t e i zv ht hi hzz kl1 kc1 l' c' h0 hlc (by have:=hby;simp only [bigLen] at this;rw [Int.mul_comm];omega) (by simp only [bigLen] at hcb;omega)
     have hrun:(execOp a.eval o).run X.P w = .ok (.value (.slice (some ⟨w.heap.size,0,none⟩) l'.toNat c'.toNat)) (w.alloc (.cells (madeCells zv.cells (c'.toNat * i.size)) e)):=by
      unfold execOp
      simp [hop,hle,hce,hmk]
     split at hy
     ·rename_i hl0
      simp at hy
      obtain ⟨rfl,rfl⟩:=hy
      have hk:=keep_row (q:=dstPos o) hf rfl rfl rfl rfl (.cells ⟨(madeCells zv.cells (c'.toNat * i.size)).toList⟩ e) 0
      have hrep:=row_rep (X:=X) (w:=w) (w1:=w) (g:=g) (E:=e) (z:=i.size) (c:=c'.toNat) (k:=0) (vals:=[]) (rest:=(madeCells zv.cells (c'.toNat * i.size)).toList) (ds:=[]) hf rfl rfl rfl rfl (by simp [sizeT,hi]) (Nat.pos_of_ne_zero hs0) ⟨rfl,by simp⟩ (by simp) (Nat.zero_le _) (by simp only [bigLen] at hcb;simp only [maxLen];omega) (by simp [size_madeCells]) (dstPos_pos o)
      simp only [Nat.zero_mul,List.nil_append] at hrep
      refine wp_value hrun (hK _ _ _ (hk.later hf) ((r.keep hk).put hN fun d hd=>?_))
      rw [← dstPos_eq hd,hl0]
      exact hrep
     ·rename_i hl0
      split at hy
      ·rename_i hlceq
       subst hlceq
       simp only [Option.some.injEq,Prod.mk.injEq] at hy
       obtain ⟨rfl,rfl⟩:=hy
       have hpt:PtD w g.e (madeCells zv.cells (l'.toNat * i.size)).toList ((List.replicate l'.toNat (D.ofVal 6 zv).cells).flatten):=zero_rows (len:=l'.toNat) (n:=i.size) hzl
       have hpv:PtV X w g (madeCells zv.cells (l'.toNat * i.size)).toList (((List.replicate l'.toNat (D.ofVal 6 zv).cells).flatten).map .d):=PtD.toV hpt
       have k:=grow_box hf (.cells ⟨(madeCells zv.cells (l'.toNat * i.size)).toList⟩ e)
       refine wp_value hrun (hK _ _ _ (k.later hf) (r.newOb (obj:=.cells ⟨(madeCells zv.cells (l'.toNat * i.size)).toList⟩ e) ⟨_,e,heap_alloc_new w _,hpv.1,(hf _ (Nat.le_refl _)).2,fun j v x h1 h2=>(k.repV hf (hpv.2 j v x h1 h2)).anyPos⟩ (fun p=>.osl p _ _ _ _ _ r.boxAt (Nat.le_refl _)) hN))
      ·cases hy
   ·cases hy
  ·cases hy
 ·cases hy
theorem copySrc_rep {z m:Nat} {x:V} {cs:List V} (h:copySrc st.h z x = some (cs,m)) (hh:RepH X w g st.h) {q:Own} {v:Value} (hv:RepV X w g q v x) :
  ∃ news:List Value,(Builtin.lenOf v).run X.P w = .ok m w∧(∀ k,k≤m→(Builtin.firstCells z k v).run X.P w = .ok ⟨news.take (k * z)⟩ w)∧news.length = cs.length∧cs.length = m * z ∧
   ∀ (j:Nat) (u:Value) (y:V),news[j]? = some u→cs[j]? = some y→∀ p,RepV X w g p u y:=by
 unfold copySrc at h
 split at h
 ·rename_i s
  split at h
  ·rename_i hz
   subst hz
   simp at h
   obtain ⟨rfl,rfl⟩:=h
   cases hv with
   | d _ _ _ hd =>
    cases hd
    refine ⟨s.map fun b=>.int .u8 b.toNat,by simp [Builtin.lenOf,ByteArray.size],fun k hk=>?_,by simp,by simp,fun j u y h1 h2 p=>?_⟩
    ·simp only [Builtin.firstCells,Sem.run_pure]
     congr 1
     apply Array.ext'
     rw [extract_mk]
     simp [List.map_take]
    ·rw [List.getElem?_map] at h1 h2
     cases hs:s[j]? with
     | none=>simp [hs] at h1
     | some b=>simp [hs] at h1 h2;subst h1;subst h2;exact .d _ _ _ (.int _ _)
  ·cases h
 ·rename_i id off n
  split at h
  ·rename_i vs ho
   split at h
   ·rename_i hle
    simp at h
    obtain ⟨rfl,rfl⟩:=h
    cases hv with
    | osl _ _ _ _ c b hb hn =>
     obtain ⟨vals,T,k1,k2,k3,k4⟩:=hh.ob id b _ hb ho
     refine ⟨(vals.drop off).take (n * z),by simp [Builtin.lenOf],fun k hk=>?_,by simp [k2],by simp;omega,fun j u y h1 h2 p=>?_⟩
     ·have hkz:k * z≤n * z:=Nat.mul_le_mul_right z hk
      have:=run_firstCells_some (P:=X.P) w z k ⟨b,off,none⟩ n c ((vals.drop off).take (k * z)) (by simp [k2];omega) (fun j v hj=>by
       rw [Addr.add_lit,cell_of_heap k1]
       rw [List.getElem?_take] at hj
       split at hj
       ·rw [List.getElem?_drop] at hj;simpa using hj
       ·cases hj)
      rw [this,List.take_take,Nat.min_eq_left hkz]
     ·rw [List.getElem?_take] at h1
      split at h1
      ·rename_i hj
       rw [List.getElem?_drop] at h1
       rw [List.getElem?_take,if_pos hj,List.getElem?_drop,List.getElem?_map] at h2
       cases hx:vs[off + j]? with
       | none=>simp [hx] at h2
       | some x' => simp [hx] at h2;subst h2;exact (k4 _ u x' h1 hx).copy
      ·cases h1
   ·cases h
  ·cases h
 ·rename_i x _ _
  split at h
  ·rename_i c n hs
   split at h
   ·rename_i hcl
    simp at h
    obtain ⟨rfl,rfl⟩:=h
    rcases V.slice?_rep hs hv with ⟨_,rfl,rfl,rfl⟩ | hr
    ·exact ⟨[],by simp [Builtin.lenOf],fun k hk=>by simp [Builtin.firstCells],by simp,by simp,by simp⟩
    ·cases hr with
     | sl0 ad cp _ =>
      refine ⟨[],by simp [Builtin.lenOf],fun k hk=>?_,by simp,by simp,by simp⟩
      obtain rfl:k = 0:=by omega
      cases ad <;> simp [Builtin.firstCells,loadCells,loadCellsFrom]
     | sl b o' _ cp _ vals hnc hlv hee hc hrr =>
      refine ⟨vals,by simp [Builtin.lenOf],fun k hk=>?_,by simp [hlv],by simp [hcl],fun j u y h1 h2 p=>?_⟩
      ·have hkz:k * z≤n * z:=Nat.mul_le_mul_right z hk
       exact run_firstCells_some (P:=X.P) w z k ⟨b,o',none⟩ n cp (vals.take (k * z)) (by rw [List.length_take,hlv,hcl];exact Nat.min_eq_left hkz) (fun j v hj=>by
        rw [Addr.add_lit]
        rw [List.getElem?_take] at hj
        split at hj
        ·exact hc j v hj
        ·cases hj)
      ·rw [List.getElem?_map] at h2
       cases hd:c[j]? with
       | none=>simp [hd] at h2
       | some d=>simp [hd] at h2;subst h2;exact .d _ _ _ (hrr j u d h1 hd)
   ·cases h
  ·cases h
theorem step_copy {c:Call} {d x:Operand} {t u e:TypeId} {id off n z m:Nat} {vs cs:List V} (hop:o.op = .call c) (hc:c.callee = .builtin .copy) (hargs:c.args.toList = [d,x]) (hts:c.argTypes.toList = [t,u])
  (he:elemT X.P t = some e) (hd:st.get X d = .osl id off n) (hz:sizeT X.P e = some z) (ho:st.h[id]? = some (.cells vs)) (hsrc:copySrc st.h z (st.get X x) = some (cs,m)) (hle:off + n * z≤vs.length)
  (hone:(cs.take (min m n * z)).all V.one = true) (hbase:base≤id∨(toDs (cs.take (min m n * z))).isSome = true) (hN:dstOk N o = true) (r:Rel X base N st a w g) {K:Act→World→Prop} {Q:Exit→Act→World→Prop}
  (hK:Goes X base N ({ s:=st.s,h:=st.h.set id (.cells (splice vs off (cs.take (min m n * z)))),og:=ogBut id st.og:St }.put o.dst (.d (.int .i64 (min m n:Nat)))) g w K):o.wp X.P a w K Q:=by
 have hargs':c.args = #[d,x]:=by apply Array.ext';simpa using hargs
 have hts':c.argTypes = #[t,u]:=by apply Array.ext';simpa using hts
 have ht:X.P.underlying t = some (.slice e):=by
  unfold elemT at he
  split at he
  ·rename_i e' hu;simp at he;subst he;exact hu
  ·cases he
 obtain ⟨qd,hqd⟩:=r.get d
 rw [hd] at hqd
 obtain ⟨qx,hqx⟩:=r.get x
 generalize hde:a.eval d = dv at hqd
 generalize hxe:a.eval x = xv at hqx
 obtain ⟨news,n1,n2,n3,n4,n5⟩:=copySrc_rep hsrc r.sit.heap hqx
 cases hqd with
 | osl _ _ _ _ cp b hb hn =>
  obtain ⟨vals,T,k1,k2,k3,k4⟩:=r.sit.heap.ob id b _ hb ho
  have hmz:min m n * z≤n * z:=Nat.mul_le_mul_right z (Nat.min_le_right _ _)
  have hmz2:min m n * z≤m * z:=Nat.mul_le_mul_right z (Nat.min_le_left _ _)
  have hlu:(news.take (min m n * z)).length = (cs.take (min m n * z)).length:=by simp [n3]
  have hrep:∀ (j:Nat) (v:Value) (y:V),(news.take (min m n * z))[j]? = some v→(cs.take (min m n * z))[j]? = some y→∀ p,RepV X w g p v y:=by
   intro j v y h1 h2 p
   rw [List.getElem?_take] at h1 h2
   split at h1
   ·rename_i hj;rw [if_pos hj] at h2;exact n5 j v y h1 h2 p
   ·cases h1
  have hone':∀ v ∈ news.take (min m n * z),v.oneCell' = true:=by
   intro v hv
   obtain ⟨j,hj,rfl⟩:=List.mem_iff_getElem.1 hv
   have hj2:j < (cs.take (min m n * z)).length:=by rw [← hlu];exact hj
   simp only [List.all_eq_true] at hone
   exact one_valV (hrep j _ _ (List.getElem?_eq_getElem hj) (List.getElem?_eq_getElem hj2) .free) (hone _ (List.getElem_mem hj2))
  have hle2:off + (cs.take (min m n * z)).length≤vs.length:=by simp;omega
  have hst:=run_storeCells_at (P:=X.P) b off T (news.take (min m n * z)) 0 ⟨vals⟩ w k1 (by show off + 0 + _≤vals.length;rw [hlu,k2];omega) hone'
  simp only [Nat.add_zero] at hst
  have hrun:(execOp a.eval o).run X.P w = .ok (.value (.int .i64 (min m n:Nat))) (w.setRow b ⟨splice vals off (news.take (min m n * z))⟩):=by
   have hcopy:(Builtin.copy_ #[t,u] o.type #[.slice (some ⟨b,off,none⟩) n cp,xv]).run X.P w = .ok (.int .i64 (min m n:Nat)) (w.setRow b ⟨splice vals off (news.take (min m n * z))⟩):=by
    have hf:=n2 (min m n) (Nat.min_le_left _ _)
    simp [Builtin.copy_,run_underlying ht,n1,hf,run_sizeT hz,hst,goInt,splice]
   unfold execOp
   simp [hop,resolve,hc,hargs',hts',invoke,builtin,hde,hxe,hcopy]
  obtain ⟨r2,hl⟩:=r.store (id:=id) (b:=b) (off:=off) (vs:=vs) (xs:=cs.take (min m n * z)) (us:=news.take (min m n * z)) (vals:=vals) (T:=T) hb ho k1 k2 hlu (fun j v y h1 h2=>hrep j v y h1 h2 _) hle2 hbase
  exact wp_value hrun (hK _ _ _ hl (r2.put hN fun d _=>.d _ _ _ (.int _ _)))
end
section
variable {X:Ctx} {base N:Nat} {st:St} {a:Act} {w:World} {g:Gh} {call:CallF} {o:Oper}
theorem stepNew_sound {st':St} (hnew:isNew X.P o = true) (hst:stepNew X base st o = some st') (hN:dstOk N o = true) (r:Rel X base N st a w g) {K:Act→World→Prop} {Q:Exit→Act→World→Prop}
  (hK:Goes X base N st' g w K):o.wp X.P a w K Q:=by
 unfold stepNew at hst
 split at hst
 ·rename_i t x hop
  split at hst
  ·rename_i s ht hx
   simp only [Option.some.injEq] at hst
   subst hst
   exact step_range hop ht hx hN r hK
  ·cases hst
 ·rename_i it hop
  split at hst
  ·rename_i id hx
   split at hst
   ·rename_i s pos hh
    simp only [Option.some.injEq] at hst
    subst hst
    exact step_next hop hx hh hN r hK
   ·cases hst
  ·cases hst
 ·rename_i t x hop
  split at hst
  ·rename_i kt et ht
   have fin:(x = none∨∃ y k n,x = some y∧st.get X y = .d (.int k n))→st' = ({ st with h:=st.h ++ [Ob.map [] 0] }:St).put o.dst (.mp st.h.length)→o.wp X.P a w K Q:=fun h1 h2=>by subst h2;exact step_makeMap hop ht h1 hN r hK
   split at hst
   ·rename_i hx
    simp only [Option.some.injEq] at hst
    refine fin (.inl ?_) hst.symm
    cases x with
    | none=>rfl
    | some y=>simp at hx
   ·rename_i k n hx
    simp only [Option.some.injEq] at hst
    refine fin (.inr ?_) hst.symm
    cases x with
    | none=>simp at hx
    | some y=>exact ⟨y,k,n,rfl,by simpa using hx⟩
   ·cases hst
  ·cases hst
 ·rename_i t x k ok hop
  cases hy:mapGet X st t x k ok with
  | none=>simp [hy] at hst
  | some y=>simp [hy] at hst;subst hst;exact step_lookup hop hy hN r hK
 ·rename_i t m k x hop
  cases hy:mapSet X st t m k x with
  | none=>simp [hy] at hst
  | some y=>simp [hy] at hst;subst hst;exact step_mapSet (.inl hop) hy hN r hK
 ·rename_i t m k x hop
  cases hy:mapSet X st t m k x with
  | none=>simp [hy] at hst
  | some y=>simp [hy] at hst;subst hst;exact step_mapSet (.inr hop) hy hN r hK
 ·rename_i t x hop
  split at hst
  ·cases hst
  ·cases hst
  ·rename_i td hni ht
   cases hd:(st.get X x).toD with
   | none=>simp [hd] at hst
   | some d=>simp [hd] at hst;subst hst;exact step_makeInterface hop ht (fun m h=>hni m (by rw [h])) hd hN r hK
 ·rename_i x u t ok hop
  cases hy:assertOp X st x t ok with
  | none=>simp [hy] at hst
  | some y=>simp [hy] at hst;subst hst;exact step_assert hop hy hN r hK
 ·rename_i t l c hop
  cases hy:makeSliceOp X st t l c with
  | none=>simp [hy] at hst
  | some y=>simp only [hy,Option.map_some,Option.some.injEq] at hst;subst hst;exact step_makeSlice hop hy hN r hK
 ·rename_i s t x hop
  cases hcv:convV X s t (st.get X x) with
  | none=>simp [hcv] at hst
  | some y =>
   simp [hcv] at hst
   subst hst
   unfold convV at hcv
   split at hcv
   ·rename_i e hs ht
    split at hcv
    ·rename_i c n he hx
     split at hcv
     ·rename_i hn
      cases hl:bytesOf c with
      | none=>simp [hl] at hcv
      | some l=>simp [hl] at hcv;subst hcv;exact step_bytesToString hop hs ht he hx hn hl hN r hK
     ·cases hcv
    ·cases hcv
   ·rename_i e hs ht
    split at hcv
    ·rename_i l he hx
     split at hcv
     ·simp only [Option.some.injEq] at hcv
      subst hcv
      exact step_stringToBytes hop hs ht he hx hN r hK
     ·cases hcv
    ·cases hcv
   ·cases hcv
 ·rename_i c hop
  split at hst
  ·rename_i hc
   split at hst
   ·rename_i d x t u hargs hts
    split at hst
    ·rename_i e id off n he hd
     split at hst
     ·rename_i z vs hz ho
      split at hst
      ·rename_i cs m hsrc
       simp only at hst
       split at hst
       ·rename_i hcnd
        simp only [Option.some.injEq] at hst
        subst hst
        exact step_copy hop hc hargs hts he hd hz ho hsrc hcnd.1 hcnd.2.1 hcnd.2.2 hN r hK
       ·cases hst
      ·cases hst
     ·cases hst
    ·cases hst
   ·cases hst
  ·rename_i hc
   split at hst
   ·rename_i x hargs
    cases hes:mapOf st.h (st.get X x) with
    | none=>simp [hes] at hst
    | some es =>
     simp only [hes,Option.map_some,Option.some.injEq] at hst
     subst hst
     have hm:∃ t,c.argTypes.toList = [t] ∧ isMapT X.P t = true:=by
      unfold isNew at hnew
      rw [hop] at hnew
      simp only [hc] at hnew
      split at hnew
      ·rename_i t ht;exact ⟨t,ht,hnew⟩
      ·cases hnew
     obtain ⟨t,hts,hmt⟩:=hm
     exact step_mapLen hop hc hargs hts hmt hes hN r hK
   ·cases hst
  ·cases hst
 ·cases hst
theorem stepAll_sound {st':St} (hst:stepAll X call base o st = some st') (hN:dstOk N o = true) (r:Rel X base N st a w g) (hc:CallPOk X call) (hci:CallIOk X call) {K:Act→World→Prop} {Q:Exit→Act→World→Prop}
  (hK:Goes X base N st' g w K):o.wp X.P a w K Q:=by
 unfold stepAll at hst
 split at hst
 ·rename_i hn;exact stepNew_sound hn hst hN r hK
 ·exact step_sound hst hN r hc hci hK
end
section
variable {X:Ctx} {base N:Nat} {st:St} {a:Act} {w:World} {g:Gh} {call:CallF} {o:Oper} {ops:Array Oper}
theorem Goes.trans {st':St} {w1:World} {g1:Gh} {K:Act→World→Prop} (h:Goes X base N st' g w K) (l:Later g w g1 w1):Goes X base N st' g1 w1 K :=
 fun a' w' g' k r=>h a' w' g' (l.trans k) r
theorem tmp_some {a:Act} {t:Nat} {v:Value} (h:a.tmps.getD t undef = v) (hv:v ≠ undef):a.tmps[t]? = some v:=by
 rw [Array.getD_eq_getD_getElem?] at h
 cases hh:a.tmps[t]? with
 | none=>rw [hh] at h;exact absurd h.symm hv
 | some u=>rw [hh] at h;simpa using h
theorem guard_sound {b:Bool} (h:guardOf X ops st o = some b) (r:Rel X base N st a w g):Region.wanted o (yielded ops a.tmps) = b:=by
 unfold guardOf at h
 cases hg:o.guard with
 | none=>simp [hg] at h;simp [Region.wanted,hg,h]
 | some jw =>
  obtain ⟨j,want⟩:=jw
  simp only [hg] at h
  cases ht:(ops[j]?).bind (·.dst) with
  | none=>simp [ht] at h
  | some t =>
   simp only [ht] at h
   have hs:=r.slots t
   simp only [Region.wanted,hg,yielded,ht,Option.bind_some]
   split at h
   ·rename_i c hc
    simp only [St.get] at hc
    rw [hc] at hs
    generalize hv:a.tmps.getD t undef = v at hs
    cases hs with
    | d _ _ _ hd =>
     cases hd
     rw [tmp_some hv (by simp [undef])]
     simp at h
     rw [← h]
     cases c <;> cases want <;> rfl
   ·rename_i hc
    simp only [St.get] at hc
    rw [hc] at hs
    generalize hv:a.tmps.getD t undef = v at hs
    simp at h
    subst h
    cases hs with
    | d _ _ _ hd =>
     cases hd with
     | tup vals cells hl _ =>
      cases hh:a.tmps[t]? with
      | none=>rfl
      | some u =>
       rw [Array.getD_eq_getD_getElem?,hh] at hv
       simp at hv
       subst hv
       rfl
   ·cases h
theorem runOps_sound (hc:CallPOk X call) (hci:CallIOk X call) {Q:Exit→Act→World→Prop}:∀ (l:List Oper) (st st':St) (a:Act) (w:World) (g:Gh),runOps X call base N ops l st = some st' → Rel X base N st a w g →
  Goes X base N st' g w (fun a w=>Q .normal a w)→wpList X.P ops Q l a w:=by
 intro l
 induction l with
 | nil =>
  intro st st' a w g h r hK
  simp [runOps] at h
  subst h
  exact hK a w g (Later.refl g w) r
 | cons o rest ih =>
  intro st st' a w g h r hK
  simp only [runOps] at h
  split at h
  ·rename_i hN
   unfold wpList
   split at h
   ·rename_i hg
    rw [if_pos (guard_sound hg r)]
    left
    split at h
    ·rename_i st1 hs
     exact stepAll_sound hs hN r hc hci fun a' w' g' l r' => ih st1 st' a' w' g' h r' (hK.trans l)
    ·cases h
   ·rename_i hg
    rw [if_neg (by rw [guard_sound hg r];simp)]
    exact ih _ st' _ w g h (r.put hN fun d _=>.d _ _ _ (.tup [] [] rfl (by intro j v d hj;simp at hj))) hK
   ·cases h
  ·cases h
end
section
variable {X:Ctx} {w w':World} {g g2:Gh}
theorem RepV.reown (he:g2.e = g.e) (hμ:∀ (id b:Nat),g.μ[id]? = some b→g2.μ[id]? = some b) {q:Own} {v:Value} {x:V} (r:RepV X w g q v x):∀ q2,(IsPos q→IsPos q2∧∀ b,g.own b = q→g2.own b = q2)→RepV X w g2 q2 v x:=by
 induction r with
 | d p v x r=>intro q2 _;exact .d _ _ _ (by rw [he];exact r)
 | tail p E cells m b c cur z vals hz hz0 hb hn hm hcur hcl hee ho hp hv hr =>
  intro q2 h
  obtain ⟨h1,h2⟩:=h hp
  exact .tail _ E cells m b c cur z vals hz hz0 hb hn hm hcur hcl (by rw [he];exact hee) (h2 b ho) h1 hv fun j v d k1 k2=>by rw [he];exact hr j v d k1 k2
 | tail0 _ E=>intro q2 _;exact .tail0 _ E
 | full p b o cells n r=>intro q2 _;exact .full _ b o cells n (by rw [he];exact r)
 | obj p id off b r=>intro q2 _;exact .obj _ id off b (hμ _ _ r)
 | osl p id off n c b r hn=>intro q2 _;exact .osl _ id off n c b (hμ _ _ r) hn
 | clo p fn va vb a b hla hlb _ _ iha ihb =>
  intro q2 _
  have nf:IsPos Own.free→IsPos Own.free∧∀ b,g.own b = .free→g2.own b = .free:=fun hh=>(hh.ne_free rfl).elim
  exact .clo _ fn va vb a b hla hlb (fun j v x h1 h2=>iha j v x h1 h2 _ nf) (fun j v x h1 h2=>ihb j v x h1 h2 _ nf)
 | agg p vals vs hl _ ih =>
  intro q2 _
  exact .agg _ vals vs hl (fun j v x h1 h2=>ih j v x h1 h2 _ fun hh=>(hh.ne_free rfl).elim)
 | tup p vals vs hl _ ih =>
  intro q2 _
  exact .tup _ vals vs hl (fun j v x h1 h2=>ih j v x h1 h2 _ fun hh=>(hh.ne_free rfl).elim)
 | mp p id b r=>intro q2 _;exact .mp _ id b (hμ _ _ r)
 | it p id b r=>intro q2 _;exact .it _ id b (hμ _ _ r)
theorem RepOb.reown (he:g2.e = g.e) (hμ:∀ (id b:Nat),g.μ[id]? = some b→g2.μ[id]? = some b) (ho:∀ (b id j:Nat),g.own b = .cell id j→g2.own b = .cell id j) {id b:Nat} {o:Ob} (r:RepOb X w g id b o):RepOb X w g2 id b o:=by
 cases o with
 | cells vs =>
  obtain ⟨vals,T,h1,h2,h3,h4⟩:=r
  exact ⟨vals,T,h1,h2,by rw [he];exact h3,fun j v x k1 k2=>(h4 j v x k1 k2).reown he hμ _ fun hp=>⟨hp,fun b hb=>ho b id j hb⟩⟩
 | frozen ds=>obtain ⟨vals,T,h1,h2,h3,h4⟩:=r;exact ⟨vals,T,h1,h2,by rw [he];exact h3,fun j v x k1 k2=>by rw [he];exact h4 j v x k1 k2⟩
 | map es ck=>obtain ⟨en,h1,h2,h3,h4⟩:=r;exact ⟨en,h1,h2,by rw [he];exact h3,fun j v x k1 k2=>by rw [he];exact h4 j v x k1 k2⟩
 | iter s pos=>exact ⟨r.1,by rw [he];exact r.2⟩
def Own.first (m:Nat):Own→Prop
 | .obj id=>id < m
 | .cell id _=>id < m
 | _=>False
instance (m:Nat) (o:Own):Decidable (o.first m):=by cases o <;> unfold Own.first <;> infer_instance
def Gh.head (g:Gh) (n m:Nat):Gh:={ μ:=g.μ.take m,e:=g.e,own:=fun b=>if b < n∧¬ (g.own b).first m then .fgn else g.own b,pin:=g.pin }
def Gh.rejoin (g g':Gh) (n m:Nat):Gh:={ μ:=g.μ,e:=g'.e,own:=fun b=>if b < n∧¬ (g.own b).first m then g.own b else g'.own b,pin:=g.pin }
theorem head_get {n m id b:Nat} (h:(g.head n m).μ[id]? = some b):id < m∧g.μ[id]? = some b:=by
 simp only [Gh.head,List.getElem?_take] at h
 split at h
 ·exact ⟨‹_›,h⟩
 ·cases h
theorem head_put {n m id b:Nat} (hi:id < m) (h:g.μ[id]? = some b):(g.head n m).μ[id]? = some b:=by
 simp only [Gh.head,List.getElem?_take,if_pos hi]
 exact h
theorem head_own {n m b:Nat} (h:(g.own b).first m):(g.head n m).own b = g.own b:=by
 simp only [Gh.head]
 rw [if_neg (fun hh=>hh.2 h)]
theorem RepV.head0 {n m:Nat} {p:Own} {v:Value} {x:V} (r:RepV X w g p v x) (hx:x.low0 m = true):RepV X w (g.head n m) p v x:=by
 cases r with
 | d _ _ _ r=>exact .d _ _ _ r
 | full _ b o cells k r=>exact .full _ b o cells k r
 | obj _ id off b r=>exact .obj _ id off b (head_put (by simpa [V.low0] using hx) r)
 | _=>simp [V.low0] at hx
theorem RepV.head {n m:Nat} {p:Own} {v:Value} {x:V} (r:RepV X w g p v x) (hx:x.low m = true) (hp:IsPos p→p.first m):RepV X w (g.head n m) p v x:=by
 cases r with
 | d _ _ _ r=>exact .d _ _ _ r
 | tail _ E cells k b c cur z vals hz hz0 hb hn hm hcur hcl hee ho hpos hv hr =>
  have hf:(g.own b).first m:=by rw [ho];exact hp hpos
  exact .tail _ E cells k b c cur z vals hz hz0 hb hn hm hcur hcl hee (by rw [head_own hf];exact ho) hpos hv hr
 | tail0 _ E=>exact .tail0 _ E
 | full _ b o cells k r=>exact .full _ b o cells k r
 | obj _ id off b r=>exact .obj _ id off b (head_put (by simpa [V.low] using hx) r)
 | osl _ id off k c b r hn=>exact .osl _ id off k c b (head_put (by simpa [V.low] using hx) r) hn
 | clo _ fn va vb a b hla hlb ha hb =>
  simp only [V.low,Bool.and_eq_true] at hx
  exact .clo _ fn va vb a b hla hlb (fun j v x k1 k2=>(ha j v x k1 k2).head0 (List.all_eq_true.1 hx.1 x (List.mem_of_getElem? k2))) (fun j v x k1 k2=>(hb j v x k1 k2).head0 (List.all_eq_true.1 hx.2 x (List.mem_of_getElem? k2)))
 | agg=>simp [V.low] at hx
 | tup=>simp [V.low] at hx
 | mp _ id b r=>exact .mp _ id b (head_put (by simpa [V.low] using hx) r)
 | it _ id b r=>exact .it _ id b (head_put (by simpa [V.low] using hx) r)
theorem RepOb.head {n m:Nat} {id b:Nat} {o:Ob} (hid:id < m) (hx:o.low m = true) (r:RepOb X w g id b o):RepOb X w (g.head n m) id b o:=by
 cases o with
 | cells vs =>
  obtain ⟨vals,T,h1,h2,h3,h4⟩:=r
  exact ⟨vals,T,h1,h2,h3,fun j v x k1 k2=>(h4 j v x k1 k2).head (List.all_eq_true.1 hx x (List.mem_of_getElem? k2)) fun _=>hid⟩
 | frozen ds=>exact r
 | map es ck=>exact r
 | iter s pos=>exact r
theorem head_sit {h:List Ob} {m:Nat} (s:Sit X w g h) (hm:m≤h.length) (hl:(h.take m).all (Ob.low m) = true):Sit X w (g.head w.heap.size m) (h.take m) where
 fresh:=fun b hb=>by
  refine ⟨?_,(s.fresh b hb).2⟩
  simp only [Gh.head]
  rw [if_neg (by omega)]
  exact (s.fresh b hb).1
 heap:={
  len:=by simp only [Gh.head,List.length_take,s.heap.len]
  own:=fun id b hb=>by
   obtain ⟨h1,h2⟩:=head_get hb
   have ho:=s.heap.own id b h2
   rw [head_own (by rw [ho];exact h1)]
   exact ho
  ob:=fun id b o hb ho=>by
   obtain ⟨h1,h2⟩:=head_get hb
   rw [List.getElem?_take,if_pos h1] at ho
   exact (s.heap.ob id b o h2 ho).head h1 (List.all_eq_true.1 hl o (List.mem_of_getElem? (i:=id) (by rw [List.getElem?_take,if_pos h1];exact ho))) }
 glob:=by
  obtain ⟨ms,h⟩:=s.glob
  refine ⟨ms,fun i cs hi=>?_⟩
  obtain ⟨h0,vals,T,fz,h1,h2,h3⟩:=h i cs hi
  refine ⟨?_,vals,T,fz,h1,h2,h3⟩
  simp only [Gh.head]
  rw [if_pos ⟨(Array.getElem?_eq_some_iff.1 h1).1,by rw [h0];exact fun h=>h⟩]
structure Rest (g:Gh) (w:World) (m:Nat) (g':Gh) (w':World):Prop where
 later:Later g w g' w'
 μ:g'.μ = g.μ
 hid:∀ b,b < w.heap.size→¬ (g.own b).first m→w'.heap[b]? = w.heap[b]? ∧ g'.own b = g.own b∧g'.e b = g.e b
theorem Rest.repV {m:Nat} {g':Gh} (k:Rest g w m g' w') {p:Own} {v:Value} {x:V} (r:RepV X w g p v x):(IsPos p→¬ p.first m)→RepV X w' g' p v x:=by
 induction r with
 | d p v x r=>intro _;exact .d _ _ _ (r.mono k.later.cells k.later.e)
 | tail p E cells n b c cur z vals hz hz0 hb hn hm hcur hcl he ho hpos hv hr =>
  intro hp
  obtain ⟨h1,h2,h3⟩:=k.hid b (Array.getElem?_eq_some_iff.1 hb).1 (by rw [ho];exact hp hpos)
  exact .tail _ E cells n b c cur z vals hz hz0 (h1.trans hb) hn hm hcur hcl (h3.trans he) (h2.trans ho) hpos hv fun j v d k1 k2=>(hr j v d k1 k2).mono k.later.cells k.later.e
 | tail0 p E=>intro _;exact .tail0 _ E
 | full p b o cells n r=>intro _;exact .full _ b o cells n (r.mono k.later.cells k.later.e)
 | obj p id off b r=>intro _;exact .obj _ id off b (by rw [k.μ];exact r)
 | osl p id off n c b r hn=>intro _;exact .osl _ id off n c b (by rw [k.μ];exact r) hn
 | clo p fn va vb a b hla hlb _ _ iha ihb=>intro _;exact .clo _ fn va vb a b hla hlb (fun j v x h1 h2=>iha j v x h1 h2 fun hh=>(hh.ne_free rfl).elim) (fun j v x h1 h2=>ihb j v x h1 h2 fun hh=>(hh.ne_free rfl).elim)
 | agg p vals vs hl _ ih=>intro _;exact .agg _ vals vs hl fun j v x h1 h2=>ih j v x h1 h2 fun hh=>(hh.ne_free rfl).elim
 | tup p vals vs hl _ ih=>intro _;exact .tup _ vals vs hl fun j v x h1 h2=>ih j v x h1 h2 fun hh=>(hh.ne_free rfl).elim
 | mp p id b r=>intro _;exact .mp _ id b (by rw [k.μ];exact r)
 | it p id b r=>intro _;exact .it _ id b (by rw [k.μ];exact r)
theorem Rest.repOb {m:Nat} {g':Gh} (k:Rest g w m g' w') {id b:Nat} {o:Ob} (hid:m≤id) (ho:g.own b = .obj id) (r:RepOb X w g id b o):RepOb X w' g' id b o:=by
 have hnf:¬ (g.own b).first m:=by rw [ho];simp only [Own.first];omega
 obtain ⟨e1,e2,e3⟩:=k.hid b r.lt hnf
 cases o with
 | cells vs =>
  obtain ⟨vals,T,h1,h2,h3,h4⟩:=r
  exact ⟨vals,T,e1.trans h1,h2,e3.trans h3,fun j v x k1 k2=>k.repV (h4 j v x k1 k2) fun _=>by simp only [Own.first];omega⟩
 | frozen ds =>
  obtain ⟨vals,T,h1,h2,h3,h4⟩:=r
  exact ⟨vals,T,e1.trans h1,h2,e3.trans h3,fun j v x k1 k2=>(h4 j v x k1 k2).mono k.later.cells k.later.e⟩
 | map es ck =>
  obtain ⟨en,h1,h2,h3,h4⟩:=r
  exact ⟨en,e1.trans h1,h2,e3.trans h3,fun j v x k1 k2=>⟨(h4 j v x k1 k2).1.mono k.later.cells k.later.e,(h4 j v x k1 k2).2.mono k.later.cells k.later.e⟩⟩
 | iter s pos=>exact ⟨e1.trans r.1,e3.trans r.2⟩
theorem Rest.trunc {m n:Nat} {g':Gh} (k:Rest g w m g' w'):Rest (g.trunc n) w m (g'.trunc n) w' where
 later:=⟨k.later.os,k.later.tape,k.later.output,k.later.size,k.later.cells,k.later.e,k.later.fgn,k.later.pin⟩
 μ:=by simp only [Gh.trunc,k.μ]
 hid:=k.hid
theorem callF_sound {call:CallF} (hci:CallIOk X call) {f:FuncId} {args:List V} {h h1:List Ob} {m:Nat} {y:V} (hcall:call.i f args (h.take m) = some (y,h1)) (hl1:h1.length = m) (hm:m≤h.length) (hargs:args.all (V.low m) = true) (hlow:(h.take m).all (Ob.low m) = true) (hy:y.pure = true)
  {vargs:List Value} (sit:Sit X w g h) (hp:PtV X w g vargs args) (p:Own) (hpos:IsPos p) {base:Nat} (low:Low X w g base h) :
  ∃ fn,X.P.funcs[f]? = some fn∧(fn.name == "runtime.NumGoroutine") = false∧((∃ c,fn.body = some c)∧Calls X.P f ⟨vargs⟩ w fun E w' => ∃ v g',E = .returned v∧Rest g w m g' w' ∧ Sit X w' g' (h1 ++ h.drop m)∧RepV X w' g' p v y∧Low X w' g' base (h1 ++ h.drop m)):=by
 have hptv:PtV X w (g.head w.heap.size m) vargs args:=⟨hp.1,fun j v x k1 k2=>(hp.2 j v x k1 k2).head (List.all_eq_true.1 hargs x (List.mem_of_getElem? k2)) fun hh=>(hh.ne_free rfl).elim⟩
 obtain ⟨fn,k1,k2,k3,k4⟩:=hci f args (h.take m) y h1 hcall w (g.head w.heap.size m) vargs (head_sit sit hm hlow) hptv p hpos
 refine ⟨fn,k1,k2,k3,k4.mono ?_⟩
 rintro E w' ⟨v,g',rfl,l,sit',hr,hμ,hsl,hlw⟩
 have hid:∀ b,b < w.heap.size→¬ (g.own b).first m→w'.heap[b]? = w.heap[b]? ∧ g'.own b = .fgn∧g'.e b = g.e b:=fun b hb hn=>l.fgn b (by simp only [Gh.head];rw [if_pos ⟨hb,hn⟩])
 have hμ':g'.μ = g.μ.take m:=by
  have e1:g'.μ.length = m:=by rw [sit'.heap.len,hl1]
  have e2:(g.μ.take m).length = m:=by rw [List.length_take,sit.heap.len];omega
  apply List.ext_getElem?
  intro i
  by_cases hi:i < m
  ·have hx:(g.μ.take m)[i]? = some ((g.μ.take m)[i]'(by omega)):=List.getElem?_eq_getElem (by omega)
   rw [hx]
   exact hμ i _ hx
  ·rw [List.getElem?_eq_none (by omega),List.getElem?_eq_none (by omega)]
 have own2:∀ b q,IsPos q∨(∃ id,q = .obj id)→g'.own b = q→(g.rejoin g' w.heap.size m).own b = q:=by
  intro b q hq hb
  simp only [Gh.rejoin]
  split
  ·rename_i hh
   have:=(hid b hh.1 hh.2).2.1
   rw [hb] at this
   rcases hq with ⟨t,i,j,hq | hq⟩ | ⟨id,hq⟩ <;> rw [hq] at this <;> cases this
  ·exact hb
 have rest:Rest g w m (g.rejoin g' w.heap.size m) w':=by
  refine ⟨⟨l.os,l.tape,l.output,l.size,l.cells,l.e,fun b hb=>?_,rfl⟩,rfl,fun b hb hn=>?_⟩
  ·have hlt:b < w.heap.size:=by
    apply Classical.byContradiction;intro hn
    rw [(sit.fresh b (by omega)).1] at hb;cases hb
   have hnf:¬ (g.own b).first m:=by rw [hb];exact fun h=>h
   obtain ⟨e1,_,e3⟩:=hid b hlt hnf
   refine ⟨e1,?_,e3⟩
   simp only [Gh.rejoin]
   rw [if_pos ⟨hlt,hnf⟩]
   exact hb
  ·obtain ⟨e1,_,e3⟩:=hid b hb hn
   refine ⟨e1,?_,e3⟩
   simp only [Gh.rejoin]
   rw [if_pos ⟨hb,hn⟩]
 have hμ2:∀ (id b:Nat),g'.μ[id]? = some b→(g.rejoin g' w.heap.size m).μ[id]? = some b:=by
  intro id b hb
  rw [hμ'] at hb
  exact (head_get (n:=0) hb).2
 have hcell:∀ (b id j:Nat),g'.own b = .cell id j→(g.rejoin g' w.heap.size m).own b = .cell id j:=fun b id j hb=>own2 b _ (.inl ⟨0,id,j,.inr rfl⟩) hb
 have reob:∀ {id b:Nat} {o:Ob},RepOb X w' g' id b o→RepOb X w' (g.rejoin g' w.heap.size m) id b o:=fun r=>RepOb.reown (g:=g') (g2:=g.rejoin g' w.heap.size m) rfl hμ2 hcell r
 have split:∀ (id:Nat) (o:Ob),(h1 ++ h.drop m)[id]? = some o→(id < m∧h1[id]? = some o)∨(m≤id∧h[id]? = some o):=by
  intro id o ho
  by_cases hi:id < m
  ·rw [List.getElem?_append_left (by omega)] at ho
   exact .inl ⟨hi,ho⟩
  ·rw [List.getElem?_append_right (by omega),List.getElem?_drop,hl1,show m + (id - m) = id by omega] at ho
   exact .inr ⟨by omega,ho⟩
 refine ⟨v,g.rejoin g' w.heap.size m,rfl,rest,⟨fun b hb=>?_,⟨?_,fun id b hb=>?_,fun id b o hb ho=>?_⟩,sit.glob.later rest.later⟩,?_,?_⟩
 ·have:=sit'.fresh b hb
  refine ⟨?_,this.2⟩
  simp only [Gh.rejoin]
  rw [if_neg (by have:=l.size;omega)]
  exact this.1
 ·show g.μ.length = _
  rw [sit.heap.len,List.length_append,hl1,List.length_drop]
  omega
 ·have hb':g.μ[id]? = some b:=hb
  by_cases hi:id < m
  ·exact own2 b _ (.inr ⟨id,rfl⟩) (sit'.heap.own id b (by rw [hμ'];exact head_put (n:=0) hi hb'))
  ·have ho:=sit.heap.own id b hb'
   rw [(rest.hid b (sit.heap.lt hb') (by rw [ho];simp only [Own.first];omega)).2.1]
   exact ho
 ·have hb':g.μ[id]? = some b:=hb
  rcases split id o ho with ⟨hi,ho⟩ | ⟨hi,ho⟩
  ·exact reob (sit'.heap.ob id b o (by rw [hμ'];exact head_put (n:=0) hi hb') ho)
  ·exact rest.repOb hi (sit.heap.own id b hb') (sit.heap.ob id b o hb' ho)
 ·exact RepV.reown (g:=g') (g2:=g.rejoin g' w.heap.size m) rfl hμ2 hr p fun _=>⟨hpos,fun b hb=>own2 b p (.inl hpos) hb⟩
 ·
  have hlow1:Low X w (g.head w.heap.size m) (min base m) (h.take m):=by
   refine ⟨by rw [List.length_take];have:=low.1;omega,fun n hn he id b o hid hb ho=>?_,fun id b hid hb=>?_⟩
   ·obtain ⟨hidm,hb'⟩:=head_get hb
    rw [List.getElem?_take,if_pos hidm] at ho
    have hob:=List.all_eq_true.1 hlow o (List.mem_of_getElem? (i:=id) (by rw [List.getElem?_take,if_pos hidm];exact ho))
    have key:∀ {n:Nat},RepOb X w (g.trunc n) id b o→n≤m→RepOb X w ((g.head w.heap.size m).trunc n) id b o:=by
     intro n r hn
     have:=r.head (n:=w.heap.size) hidm hob
     have e:(g.trunc n).head w.heap.size m = (g.head w.heap.size m).trunc n:=by
      simp only [Gh.trunc,Gh.head,List.take_take,Nat.min_comm];rfl
     rw [e] at this
     exact this
    by_cases hne:n = base∨g.pin.eld n
    ·exact key (low.2.1 n (by omega) hne id b o hid hb' ho) (by omega)
    ·have hnm:n = m:=by
      rcases he with he | he
      ·have:¬ n = base:=fun h=>hne (.inl h)
       omega
      ·exact (hne (.inr he)).elim
     subst hnm
     have:=(sit.heap.ob id b o hb' ho).head (n:=w.heap.size) hidm hob
     have e:g.head w.heap.size n = (g.head w.heap.size n).trunc n:=by
      simp only [Gh.trunc,Gh.head,List.take_take,Nat.min_self]
     rw [e] at this
     exact this
   ·exact head_put (by omega) (low.2.2 id b (by omega) hb)
  obtain ⟨_,q2,_⟩:=hlw _ hlow1
  have q2':∀ n,n≤min base m→(n = min base m∨g.pin.eld n)→Elder X w' g' n h1:=fun n hn he=>q2 n hn (by rw [show g'.pin = g.pin from l.pin];exact he)
  refine ⟨by rw [List.length_append,hl1,List.length_drop];have:=low.1;omega,fun n hn he id b o hid hb ho=>?_,fun id b hid hb=>low.2.2 id b hid hb⟩
  have hb':g.μ[id]? = some b:=hb
  have he':n = base∨g.pin.eld n:=he
  rcases split id o ho with ⟨hi,ho⟩ | ⟨hi,ho⟩
  ·have hbg:g'.μ[id]? = some b:=by rw [hμ'];exact head_put (n:=0) hi hb'
   have tr:∀ {k:Nat},RepOb X w' (g'.trunc k) id b o→k≤n→RepOb X w' ((g.rejoin g' w.heap.size m).trunc n) id b o:=by
    intro k r hk
    refine RepOb.reown (g:=g'.trunc k) (g2:=(g.rejoin g' w.heap.size m).trunc n) rfl (fun i c hc=>?_) hcell r
    obtain ⟨t1,t2⟩:=trunc_get hc
    exact trunc_put (by omega) (hμ2 i c t2)
   by_cases hnm:n≤m
   ·refine tr (q2' n (by omega) ?_ id b o hid hbg ho) (Nat.le_refl _)
    rcases he' with he' | he'
    ·left;omega
    ·exact .inr he'
   ·exact tr (q2' (min base m) (Nat.le_refl _) (.inl rfl) id b o (by omega) hbg ho) (by omega)
  ·exact rest.trunc.repOb hi (sit.heap.own id b hb') (low.2.1 n hn he' id b o hid hb' ho)
theorem step_callF {base N:Nat} {st:St} {a:Act} {call:CallF} {o:Oper} {c:Call} {f:Operand} {gf:FuncId} {ca cb:List V} {y:V} {h1:List Ob} {m:Nat} (hop:o.op = .call c) (hc:c.callee = .value f) (hcal:calleeOf (st.get X f) = some (gf,ca,cb))
  (hst:call.i gf (ca ++ copies (st.get X) c.args ++ cb) (st.h.take m) = some (y,h1)) (hl1:h1.length = m) (hm:m≤st.h.length) (hargs:(ca ++ copies (st.get X) c.args ++ cb).all (V.low m) = true) (hlow:(st.h.take m).all (Ob.low m) = true) (hy:y.pure = true)
  (hog:∀ (t id j:Nat),(t,Loc.cell id j) ∈ st.og→m≤id) (hci:CallIOk X call) (hN:dstOk N o = true) (r:Rel X base N st a w g) {K:Act→World→Prop} {Q:Exit→Act→World→Prop}
  (hK:Goes X base N ({ s:=st.s,h:=h1 ++ st.h.drop m,og:=st.og:St }.put o.dst y) g w K):o.wp X.P a w K Q:=by
 obtain ⟨q,hq⟩:=r.get f
 obtain ⟨ua,ub,hve,ha,hb⟩:=calleeOf_val hq hcal
 have hcs:=copies_rep (X:=X) (w:=w) (g:=g) (a:=a) (ρ:=st.get X) (xs:=c.args) (fun x _=>r.get x)
 obtain ⟨fn,hfn,hname,⟨cbody,hcb⟩,hcalls⟩:=callF_sound hci hst hl1 hm hargs hlow hy r.sit ((ha.append hcs).append hb) (dstPos o) (dstPos_pos o) r.low
 have hrun:=run_call_value (P:=X.P) hop hc hve hfn hname (by simp [hcb]) w
 unfold Oper.wp
 rw [hrun]
 refine hcalls.mono ?_
 rintro E w' ⟨v,g',rfl,rest,hsit,hrv,hlw⟩
 refine hK _ w' g' rest.later (rel_put (st':={ s:=st.s,h:=h1 ++ st.h.drop m,og:=st.og }) r.defers r.size hN (fun t _=>rest.repV (r.slots t) fun _ hf=>hf) hsit hlw (fun t l hm=>?_) fun d hd=>by rw [← dstPos_eq hd];exact hrv)
 have hok:=r.og t l hm
 cases l with
 | slot u=>exact hok
 | cell id j =>
  obtain ⟨b,hb,hcl⟩:=hok
  have hb':g'.μ[id]? = some b:=by rw [rest.μ];exact hb
  refine ⟨b,hb',?_⟩
  have ho:=r.sit.heap.own id b hb
  have hid:=hog t id j hm
  have e:=(rest.hid b (r.sit.heap.lt hb) (by rw [ho];simp only [Own.first];omega)).1
  rw [← hcl]
  exact World.cell?_of_block (w:=w) (a:=⟨b,j,none⟩) e
end
end Go.Proofs.Ytaobccodpdmieaa.Pv
