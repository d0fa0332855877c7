/- Lemmas for the law SessionNilLaw: texts of mine, merged. -/
import Derived.Deep.LoopGhost
import Derived.Scope
import Derived.Test.YtdbmhmembmgndaaGreatDoorMSessionNilLaw1
set_option linter.unusedSimpArgs false
set_option linter.unusedVariables false
set_option maxHeartbeats 4000000
namespace Go.Proofs.YtdbmhmembmgndaaGreatDoor.Pv
open Go
section
variable {X:Ctx} {base N:Nat} {st:St} {a:Act} {w:World} {g:Gh} {call:CallF} {o:Oper}
theorem keep_bytes {g:Gh} {w:World} (hf:Fresh g w) (e:TypeId) (s:ByteArray) (n:Nat):Keep g w (g.row w.heap.size n .free) (Lib.bytesWorld w e s) where
 os:=by simp [Lib.bytesWorld,World.freeze,World.alloc,World.drew,-World.alloc_eq,-World.drew_eq]
 tape:=by simp [Lib.bytesWorld,World.freeze,World.alloc,World.drew,-World.alloc_eq,-World.drew_eq]
 output:=by simp [Lib.bytesWorld,World.freeze,World.alloc,World.drew,-World.alloc_eq,-World.drew_eq]
 size:=by rw [Lib.bytesWorld_size];omega
 block:=fun b hb=>Lib.bytesWorld_at_old w e s b hb
 own:=fun b hb=>by simp only [Gh.row];rw [if_neg (by omega)]
 e:=fun b hb=>by simp only [Gh.row];rw [if_neg (by omega)]
 μ:=fun _ _ h=>h
 pin:=rfl
 μeq:=rfl
 fresh:=fun b hb=>by
  rw [Lib.bytesWorld_size] at hb
  simp only [Gh.row]
  rw [if_neg (by omega),if_neg (by omega)]
  exact hf b (by omega)
theorem step_stringToBytes {s t e:TypeId} {x:Operand} {l:List UInt8} (hop:o.op = .convert s t x) (hs:X.P.underlying s = some .string) (ht:X.P.underlying t = some (.slice e)) (he:X.P.underlying e = some (.int .u8))
  (hx:st.get X x = .d (.str l)) (hN:dstOk N o = true) (r:Rel X base N st a w g) {K:Act→World→Prop} {Q:Exit→Act→World→Prop}
  (hK:Goes X base N (st.put o.dst (.d (.sl (l.map fun b=>.int .u8 b.toNat) l.length))) g w K):o.wp X.P a w K Q:=by
 obtain ⟨q,hq⟩:=r.get x
 rw [hx] at hq
 generalize hve:a.eval x = v at hq
 cases hq with
 | d _ _ _ hd =>
  cases hd
  have hr:=Lib.run_convert_string_bytes (P:=X.P) w s t e ⟨l.toArray⟩ hs ht he
  have hrun:(execOp a.eval o).run X.P w = .ok (.value (.slice (some ⟨w.heap.size,0,none⟩) l.length (grownCap w l.length 0 e))) (Lib.bytesWorld w e ⟨l.toArray⟩):=by
   unfold execOp
   have hsz:(⟨l.toArray⟩:ByteArray).size = l.length:=by simp [ByteArray.size]
   rw [hsz] at hr
   simp [hop,hve,hr]
  have hk:=keep_bytes r.sit.fresh e ⟨l.toArray⟩ l.length
  refine wp_value hrun (hK _ _ _ (hk.later r.sit.fresh) ((r.keep hk).put hN fun d _=>.d _ _ _ (.sl _ 0 _ _ _ (l.map fun b=>.int .u8 b.toNat) ?_ (by simp) (by simp [Gh.row]) (fun j v hj=>?_) (fun j v d h1 h2=>?_))))
  ·exact grownCap_ge w l.length 0 e
  ·have hlt:j < l.length:=by simpa using (List.getElem?_eq_some_iff.1 hj).1
   rw [Nat.zero_add,Lib.bytesWorld_cell w e ⟨l.toArray⟩ j (by simpa [ByteArray.size] using hlt)]
   rw [List.getElem?_map,List.getElem?_eq_getElem hlt] at hj
   simp at hj
   simp [List.getD_eq_getElem?_getD,List.getElem?_eq_getElem hlt,← hj]
  ·rw [List.getElem?_map] at h1 h2
   cases hs:l[j]? with
   | none=>simp [hs] at h1
   | some b=>simp [hs] at h1 h2;subst h1;subst h2;exact .int _ _
theorem step_mapLen {c:Call} {x:Operand} {t:TypeId} {es:List (D × D)} (hop:o.op = .call c) (hc:c.callee = .builtin .len) (hargs:c.args.toList = [x]) (hts:c.argTypes.toList = [t]) (ht:isMapT X.P t = true)
  (hes:mapOf st.h (st.get X x) = some es) (hN:dstOk N o = true) (r:Rel X base N st a w g) {K:Act→World→Prop} {Q:Exit→Act→World→Prop}
  (hK:Goes X base N (st.put o.dst (.d (.int .i64 es.length))) g w K):o.wp X.P a w K Q:=by
 have hargs':c.args = #[x]:=by apply Array.ext';simpa using hargs
 have hts':c.argTypes = #[t]:=by apply Array.ext';simpa using hts
 obtain ⟨q,hq⟩:=r.get x
 generalize hve:a.eval x = v at hq
 have hu:∃ k e,X.P.underlying t = some (.map k e):=by
  unfold isMapT at ht
  split at ht
  ·rename_i k e hu;exact ⟨k,e,hu⟩
  ·cases ht
 obtain ⟨k,e,hu⟩:=hu
 refine step_plain (v:=.int .i64 es.length) ?_ (fun p=>.d _ _ _ (.int _ _)) hN r hK
 unfold execOp
 rcases mapOf_rep hes r.sit.heap hq with ⟨rfl,rfl⟩ | ⟨b,ens,ck,rfl,h1,h2,h3⟩
 ·simp [hop,resolve,hc,hargs',hts',invoke,builtin,hve,Builtin.len_,run_underlying hu,goInt]
 ·simp [hop,resolve,hc,hargs',hts',invoke,builtin,hve,Builtin.len_,run_underlying hu,MapKept.run_getObj_map h1,goInt,h2]
theorem step_makeSlice {t:TypeId} {l c:Operand} {y:V} {h':List Ob} (hop:o.op = .makeSlice t l c) (hy:makeSliceOp X st t l c = some (y,h')) (hN:dstOk N o = true) (r:Rel X base N st a w g) {K:Act→World→Prop} {Q:Exit→Act→World→Prop}
  (hK:Goes X base N ({ st with h:=h' }.put o.dst y) g w K):o.wp X.P a w K Q:=by
 have hf:=r.sit.fresh
 unfold makeSliceOp at hy
 split at hy
 ·rename_i e kl l' kc c' hE hl hc
  obtain ⟨ql,hql⟩:=r.get l
  obtain ⟨qc,hqc⟩:=r.get c
  have hle:∃ kl,a.eval l = .int kl l':=by
   unfold intOfV at hl
   split at hl
   ·rename_i k n hx;simp at hl;obtain ⟨rfl,rfl⟩:=hl;rw [hx] at hql;generalize a.eval l = v at hql;cases hql with | d _ _ _ hd=>cases hd;exact ⟨_,rfl⟩
   ·cases hl
  have hce:∃ kc,a.eval c = .int kc c':=by
   unfold intOfV at hc
   split at hc
   ·rename_i k n hx;simp at hc;obtain ⟨rfl,rfl⟩:=hc;rw [hx] at hqc;generalize a.eval c = v at hqc;cases hqc with | d _ _ _ hd=>cases hd;exact ⟨_,rfl⟩
   ·cases hc
  obtain ⟨kl1,hle⟩:=hle
  obtain ⟨kc1,hce⟩:=hce
  have ht:X.P.underlying t = some (.slice e):=by
   unfold elemT at hE
   split at hE
   ·rename_i e' hu;simp at hE;subst hE;exact hu
   ·cases hE
  split at hy
  ·rename_i i z hi hz
   split at hy
   ·rename_i hcnd
    obtain ⟨h0,hlc,hby,hcb,hs0,hzl⟩:=hcnd
    unfold zeroT at hz
    simp only [hi] at hz
    cases hzz:i.zero with
    | none=>simp [hzz] at hz
    | some zv =>
     simp [hzz] at hz
     subst hz
     have hzsz:zv.cells.size = i.size:=by
      have:=(cells_ofVal (w:=w) (e:=g.e) 4 zv).1
      rw [Array.length_toList] at this
      rw [this];exact hzl
     have hmk:=run_make (P:=X.P) w t e i zv ht hi hzz kl1 kc1 l' c' h0 hlc (by have:=hby;simp only [bigLen] at this;rw [Int.mul_comm];omega) (by simp only [bigLen] at hcb;omega)
     have hrun:(execOp a.eval o).run X.P w = .ok (.value (.slice (some ⟨w.heap.size,0,none⟩) l'.toNat c'.toNat)) (w.alloc (.cells (madeCells zv.cells (c'.toNat * i.size)) e)):=by
      unfold execOp
      simp [hop,hle,hce,hmk]
     split at hy
     ·rename_i hl0
      simp at hy
      obtain ⟨rfl,rfl⟩:=hy
      have hk:=keep_row (q:=dstPos o) hf rfl rfl rfl rfl (.cells ⟨(madeCells zv.cells (c'.toNat * i.size)).toList⟩ e) 0
      have hrep:=row_rep (X:=X) (w:=w) (w1:=w) (g:=g) (E:=e) (z:=i.size) (c:=c'.toNat) (k:=0) (vals:=[]) (rest:=(madeCells zv.cells (c'.toNat * i.size)).toList) (ds:=[]) hf rfl rfl rfl rfl (by simp [sizeT,hi]) (Nat.pos_of_ne_zero hs0) ⟨rfl,by simp⟩ (by simp) (Nat.zero_le _) (by simp only [bigLen] at hcb;simp only [maxLen];omega) (by simp [size_madeCells]) (dstPos_pos o)
      simp only [Nat.zero_mul,List.nil_append] at hrep
      refine wp_value hrun (hK _ _ _ (hk.later hf) ((r.keep hk).put hN fun d hd=>?_))
      rw [← dstPos_eq hd,hl0]
      exact hrep
     ·rename_i hl0
      split at hy
      ·rename_i hlceq
       subst hlceq
       simp only [Option.some.injEq,Prod.mk.injEq] at hy
       obtain ⟨rfl,rfl⟩:=hy
       have hpt:PtD w g.e (madeCells zv.cells (l'.toNat * i.size)).toList ((List.replicate l'.toNat (D.ofVal 6 zv).cells).flatten):=zero_rows (len:=l'.toNat) (n:=i.size) hzl
       have hpv:PtV X w g (madeCells zv.cells (l'.toNat * i.size)).toList (((List.replicate l'.toNat (D.ofVal 6 zv).cells).flatten).map .d):=PtD.toV hpt
       have k:=grow_box hf (.cells ⟨(madeCells zv.cells (l'.toNat * i.size)).toList⟩ e)
       refine wp_value hrun (hK _ _ _ (k.later hf) (r.newOb (obj:=.cells ⟨(madeCells zv.cells (l'.toNat * i.size)).toList⟩ e) ⟨_,e,heap_alloc_new w _,Nat.le_of_eq hpv.1.symm,(hf _ (Nat.le_refl _)).2,fun j v x h1 h2=>(k.repV hf (hpv.2 j v x h1 h2)).anyPos⟩ (fun p=>.osl p _ _ _ _ _ r.boxAt (Nat.le_refl _)) hN))
      ·cases hy
   ·cases hy
  ·cases hy
 ·cases hy
theorem copySrc_rep {z m:Nat} {x:V} {cs:List V} (h:copySrc st.h z x = some (cs,m)) (hh:RepH X w g st.h) {q:Own} {v:Value} (hv:RepV X w g q v x) :
  ∃ news:List Value,(Builtin.lenOf v).run X.P w = .ok m w∧(∀ k,k≤m→(Builtin.firstCells z k v).run X.P w = .ok ⟨news.take (k * z)⟩ w)∧news.length = cs.length∧cs.length = m * z ∧
   ∀ (j:Nat) (u:Value) (y:V),news[j]? = some u→cs[j]? = some y→∀ p,RepV X w g p u y:=by
 unfold copySrc at h
 split at h
 ·rename_i s
  split at h
  ·rename_i hz
   subst hz
   simp at h
   obtain ⟨rfl,rfl⟩:=h
   cases hv with
   | d _ _ _ hd =>
    cases hd
    refine ⟨s.map fun b=>.int .u8 b.toNat,by simp [Builtin.lenOf,ByteArray.size],fun k hk=>?_,by simp,by simp,fun j u y h1 h2 p=>?_⟩
    ·simp only [Builtin.firstCells,Sem.run_pure]
     congr 1
     apply Array.ext'
     rw [extract_mk]
     simp [List.map_take]
    ·rw [List.getElem?_map] at h1 h2
     cases hs:s[j]? with
     | none=>simp [hs] at h1
     | some b=>simp [hs] at h1 h2;subst h1;subst h2;exact .d _ _ _ (.int _ _)
  ·cases h
 ·rename_i id off n
  split at h
  ·rename_i vs ho
   split at h
   ·rename_i hle
    simp at h
    obtain ⟨rfl,rfl⟩:=h
    cases hv with
    | osl _ _ _ _ c b hb hn =>
     obtain ⟨vals,T,k1,k2,k3,k4⟩:=hh.ob id b _ hb ho
     refine ⟨(vals.drop off).take (n * z),by simp [Builtin.lenOf],fun k hk=>?_,by simp;omega,by simp;omega,fun j u y h1 h2 p=>?_⟩
     ·have hkz:k * z≤n * z:=Nat.mul_le_mul_right z hk
      have:=run_firstCells_some (P:=X.P) w z k ⟨b,off,none⟩ n c ((vals.drop off).take (k * z)) (by simp [k2];omega) (fun j v hj=>by
       rw [Addr.add_lit,cell_of_heap k1]
       rw [List.getElem?_take] at hj
       split at hj
       ·rw [List.getElem?_drop] at hj;simpa using hj
       ·cases hj)
      rw [this,List.take_take,Nat.min_eq_left hkz]
     ·rw [List.getElem?_take] at h1
      split at h1
      ·rename_i hj
       rw [List.getElem?_drop] at h1
       rw [List.getElem?_take,if_pos hj,List.getElem?_drop,List.getElem?_map] at h2
       cases hx:vs[off + j]? with
       | none=>simp [hx] at h2
       | some x' => simp [hx] at h2;subst h2;exact (k4 _ u x' h1 hx).copy
      ·cases h1
   ·cases h
  ·cases h
 ·rename_i x _ _
  split at h
  ·rename_i c n hs
   split at h
   ·rename_i hcl
    simp at h
    obtain ⟨rfl,rfl⟩:=h
    rcases V.slice?_rep hs hv with ⟨_,rfl,rfl,rfl⟩ | hr
    ·exact ⟨[],by simp [Builtin.lenOf],fun k hk=>by simp [Builtin.firstCells],by simp,by simp,by simp⟩
    ·cases hr with
     | sl0 ad cp _ =>
      refine ⟨[],by simp [Builtin.lenOf],fun k hk=>?_,by simp,by simp,by simp⟩
      obtain rfl:k = 0:=by omega
      cases ad <;> simp [Builtin.firstCells,loadCells,loadCellsFrom]
     | sl b o' _ cp _ vals hnc hlv hee hc hrr =>
      refine ⟨vals,by simp [Builtin.lenOf],fun k hk=>?_,by simp [hlv],by simp [hcl],fun j u y h1 h2 p=>?_⟩
      ·have hkz:k * z≤n * z:=Nat.mul_le_mul_right z hk
       exact run_firstCells_some (P:=X.P) w z k ⟨b,o',none⟩ n cp (vals.take (k * z)) (by rw [List.length_take,hlv,hcl];exact Nat.min_eq_left hkz) (fun j v hj=>by
        rw [Addr.add_lit]
        rw [List.getElem?_take] at hj
        split at hj
        ·exact hc j v hj
        ·cases hj)
      ·rw [List.getElem?_map] at h2
       cases hd:c[j]? with
       | none=>simp [hd] at h2
       | some d=>simp [hd] at h2;subst h2;exact .d _ _ _ (hrr j u d h1 hd)
   ·cases h
  ·cases h
theorem step_copy {c:Call} {d x:Operand} {t u e:TypeId} {id off n z m:Nat} {vs cs:List V} (hop:o.op = .call c) (hc:c.callee = .builtin .copy) (hargs:c.args.toList = [d,x]) (hts:c.argTypes.toList = [t,u])
  (he:elemT X.P t = some e) (hd:st.get X d = .osl id off n) (hz:sizeT X.P e = some z) (ho:st.h[id]? = some (.cells vs)) (hsrc:copySrc st.h z (st.get X x) = some (cs,m)) (hle:off + n * z≤vs.length)
  (hone:(cs.take (min m n * z)).all V.one = true) (hbase:base≤id∨(toDs (cs.take (min m n * z))).isSome = true) (hN:dstOk N o = true) (r:Rel X base N st a w g) {K:Act→World→Prop} {Q:Exit→Act→World→Prop}
  (hK:Goes X base N ({ s:=st.s,h:=st.h.set id (.cells (splice vs off (cs.take (min m n * z)))),og:=ogBut id st.og:St }.put o.dst (.d (.int .i64 (min m n:Nat)))) g w K):o.wp X.P a w K Q:=by
 have hargs':c.args = #[d,x]:=by apply Array.ext';simpa using hargs
 have hts':c.argTypes = #[t,u]:=by apply Array.ext';simpa using hts
 have ht:X.P.underlying t = some (.slice e):=by
  unfold elemT at he
  split at he
  ·rename_i e' hu;simp at he;subst he;exact hu
  ·cases he
 obtain ⟨qd,hqd⟩:=r.get d
 rw [hd] at hqd
 obtain ⟨qx,hqx⟩:=r.get x
 generalize hde:a.eval d = dv at hqd
 generalize hxe:a.eval x = xv at hqx
 obtain ⟨news,n1,n2,n3,n4,n5⟩:=copySrc_rep hsrc r.sit.heap hqx
 cases hqd with
 | osl _ _ _ _ cp b hb hn =>
  obtain ⟨vals,T,k1,k2,k3,k4⟩:=r.sit.heap.ob id b _ hb ho
  have hmz:min m n * z≤n * z:=Nat.mul_le_mul_right z (Nat.min_le_right _ _)
  have hmz2:min m n * z≤m * z:=Nat.mul_le_mul_right z (Nat.min_le_left _ _)
  have hlu:(news.take (min m n * z)).length = (cs.take (min m n * z)).length:=by simp [n3]
  have hrep:∀ (j:Nat) (v:Value) (y:V),(news.take (min m n * z))[j]? = some v→(cs.take (min m n * z))[j]? = some y→∀ p,RepV X w g p v y:=by
   intro j v y h1 h2 p
   rw [List.getElem?_take] at h1 h2
   split at h1
   ·rename_i hj;rw [if_pos hj] at h2;exact n5 j v y h1 h2 p
   ·cases h1
  have hone':∀ v ∈ news.take (min m n * z),v.oneCell' = true:=by
   intro v hv
   obtain ⟨j,hj,rfl⟩:=List.mem_iff_getElem.1 hv
   have hj2:j < (cs.take (min m n * z)).length:=by rw [← hlu];exact hj
   simp only [List.all_eq_true] at hone
   exact one_valV (hrep j _ _ (List.getElem?_eq_getElem hj) (List.getElem?_eq_getElem hj2) .free) (hone _ (List.getElem_mem hj2))
  have hle2:off + (cs.take (min m n * z)).length≤vs.length:=by simp;omega
  have hst:=run_storeCells_at (P:=X.P) b off T (news.take (min m n * z)) 0 ⟨vals⟩ w k1 (by show off + 0 + _≤vals.length;rw [hlu];omega) hone'
  simp only [Nat.add_zero] at hst
  have hrun:(execOp a.eval o).run X.P w = .ok (.value (.int .i64 (min m n:Nat))) (w.setRow b ⟨splice vals off (news.take (min m n * z))⟩):=by
   have hcopy:(Builtin.copy_ #[t,u] o.type #[.slice (some ⟨b,off,none⟩) n cp,xv]).run X.P w = .ok (.int .i64 (min m n:Nat)) (w.setRow b ⟨splice vals off (news.take (min m n * z))⟩):=by
    have hf:=n2 (min m n) (Nat.min_le_left _ _)
    simp [Builtin.copy_,run_underlying ht,n1,hf,run_sizeT hz,hst,goInt,splice]
   unfold execOp
   simp [hop,resolve,hc,hargs',hts',invoke,builtin,hde,hxe,hcopy]
  obtain ⟨r2,hl⟩:=r.store (id:=id) (b:=b) (off:=off) (vs:=vs) (xs:=cs.take (min m n * z)) (us:=news.take (min m n * z)) (vals:=vals) (T:=T) hb ho k1 k2 hlu (fun j v y h1 h2=>hrep j v y h1 h2 _) hle2 hbase
  exact wp_value hrun (hK _ _ _ hl (r2.put hN fun d _=>.d _ _ _ (.int _ _)))
end
theorem flat_rep {w w':World} {e e':Nat→Nat} {v:Value} {d:D} (hd:flatD d = true) (h:RepD w e v d):RepD w' e' v d:=by
 cases h with
 | int k n=>exact .int k n
 | bool b=>exact .bool b
 | str s=>exact .str s
 | _=>simp [flatD] at hd
theorem slot_free (f:Nat→Own):∀ n:Nat,∃ M,∀ N,M≤N→∀ b,b < n→f b ≠ .slot N:=by
 intro n
 induction n with
 | zero=>exact ⟨0,fun N _ b hb=>by omega⟩
 | succ n ih =>
  obtain ⟨M,hM⟩:=ih
  cases hf:f n with
  | slot t =>
   refine ⟨M + t + 1,fun N hN b hb=>?_⟩
   by_cases hbn:b = n
   ·rw [hbn,hf];intro h;cases h;omega
   ·exact hM N (by omega) b (by omega)
  | _ =>
   refine ⟨M,fun N hN b hb=>?_⟩
   by_cases hbn:b = n
   ·rw [hbn,hf];intro h;cases h
   ·exact hM N hN b (by omega)
def Gh.thaw (g:Gh) (b:Nat):Gh:={ μ:=g.μ ++ [b],e:=fun x=>if x = b then 0 else g.e x,own:=fun x=>if x = b then .obj g.μ.length else g.own x,pin:=g.pin }
section
variable {X:Ctx} {base N:Nat} {st:St} {a:Act} {w:World} {g:Gh} {call:CallF} {o:Oper}
theorem grow_thaw {w':World} {g':Gh} {b:Nat} (k:Keep g w g' w') (hb:w.heap.size≤b) (hb':b < w'.heap.size):Grow g w (g'.thaw b) w' where
 os:=k.os
 tape:=k.tape
 output:=k.output
 size:=k.size
 block:=k.block
 own:=fun x hx=>by simp only [Gh.thaw];rw [if_neg (by omega)];exact k.own x hx
 e:=fun x hx=>by simp only [Gh.thaw];rw [if_neg (by omega)];exact k.e x hx
 μ:=fun id x hx=>by
  have hlt:=(List.getElem?_eq_some_iff.1 hx).1
  simp only [Gh.thaw]
  rw [k.μeq,List.getElem?_append_left hlt]
  exact hx
 pin:=k.pin
 fresh:=fun x hx=>by
  simp only [Gh.thaw]
  rw [if_neg (by omega),if_neg (by omega)]
  exact k.fresh x hx
theorem step_thaw {st':St} (hst:thawOp X call o st = some st') (hN:dstOk N o = true) (r:Rel X base N st a w g) (hc:CallPOk X call) {K:Act→World→Prop} {Q:Exit→Act→World→Prop}
  (hK:Goes X base N st' g w K):o.wp X.P a w K Q:=by
 unfold thawOp at hst
 split at hst
 ·split at hst
  ·rename_i E c n hv
   split at hst
   ·rename_i hcond
    simp only [Option.some.injEq] at hst
    subst hst
    simp only [Bool.and_eq_true,Bool.not_eq_true',List.isEmpty_eq_false_iff] at hcond
    obtain ⟨hflat,hne⟩:=hcond
    obtain ⟨M,hM⟩:=slot_free g.own w.heap.size
    refine val_sound hv (r.ops o) r.sit hc (p:=.slot M) ⟨M,0,0,.inl rfl⟩ (fun v w' g' k hr=>?_)
    cases hr with
    | tail0=>exact (hne rfl).elim
    | tail _ _ _ _ b cap cur z vals hz hz0 hb hn hm hcur hcl he ho hp hvv hrr =>
     have hbs:w.heap.size≤b:=by
      apply Classical.byContradiction
      intro hlt
      have:=k.own b (by omega)
      rw [ho] at this
      exact hM M (Nat.le_refl M) b (by omega) this.symm
     have hb':b < w'.heap.size:=(Array.getElem?_eq_some_iff.1 hb).1
     have kk:=grow_thaw k hbs hb'
     have hf:=r.sit.fresh
     have hμ:(g'.thaw b).μ = g.μ ++ [b]:=by simp only [Gh.thaw];rw [k.μeq]
     have hnew:(g'.thaw b).μ[st.h.length]? = some b:=by rw [hμ,← r.sit.heap.len];simp
     have hold:∀ (id x:Nat),id < st.h.length→(g'.thaw b).μ[id]? = some x→g.μ[id]? = some x:=by
      intro id x hid hx
      rw [hμ,List.getElem?_append_left (by rw [r.sit.heap.len];exact hid)] at hx
      exact hx
     refine hK _ w' (g'.thaw b) (kk.later hf) (rel_put r.defers r.size hN (fun t _=>kk.repV hf (r.slots t)) ⟨kk.fresh,⟨by simp [hμ,r.sit.heap.len],fun id x hx=>?_,fun id x ob hx hoo=>?_⟩,?_⟩ ?_ (fun t l hm=>(r.og t l hm).grow kk) (fun d _=>.osl _ _ _ _ cap b hnew hn))
     ·by_cases hid:id < st.h.length
      ·have hb0:=hold id x hid hx
       rw [kk.own x (r.sit.heap.lt hb0)]
       exact r.sit.heap.own id x hb0
      ·have hlt:=(List.getElem?_eq_some_iff.1 hx).1
       rw [hμ] at hlt
       simp [r.sit.heap.len] at hlt
       obtain rfl:id = st.h.length:=by omega
       rw [hnew] at hx
       cases hx
       simp [Gh.thaw,k.μeq,r.sit.heap.len]
     ·by_cases hid:id < st.h.length
      ·have hb0:=hold id x hid hx
       rw [List.getElem?_append_left hid] at hoo
       exact kk.repOb hf (r.sit.heap.ob id x ob hb0 hoo)
      ·have hlt:=(List.getElem?_eq_some_iff.1 hoo).1
       simp at hlt
       obtain rfl:id = st.h.length:=by omega
       rw [hnew] at hx
       cases hx
       simp at hoo
       subst hoo
       refine ⟨cur.toList,E,hb,?_,by simp [Gh.thaw],fun j u y h1 h2=>?_⟩
       ·have e1:cur.toList.length = cap * z:=hcur
        rw [e1,List.length_map,hcl]
        exact Nat.mul_le_mul_right z hn
       ·rw [List.getElem?_map] at h2
        cases hcj:c[j]? with
        | none=>rw [hcj] at h2;cases h2
        | some d =>
         rw [hcj] at h2
         cases h2
         have hj:j < n * z:=by rw [← hcl];exact (List.getElem?_eq_some_iff.1 hcj).1
         have hvj:vals[j]? = some u:=by rw [← hvv,List.getElem?_take,if_pos hj];exact h1
         exact .d _ _ _ (flat_rep (List.all_eq_true.1 hflat d (List.mem_of_getElem? hcj)) (hrr j u d hvj hcj))
     ·exact r.sit.glob.later (kk.later hf)
     ·refine r.low.grow hf kk r.sit.heap.len (fun id ob hid hoo=>?_) (by simp)
      rw [List.getElem?_append_left (Nat.lt_of_lt_of_le hid r.low.1)] at hoo
      exact hoo
   ·cases hst
  ·cases hst
 ·cases hst
end
section
variable {X:Ctx} {base N:Nat} {st:St} {a:Act} {w:World} {g:Gh} {call:CallF} {o:Oper}
theorem stepNew_sound {st':St} (hnew:isNew X.P o = true) (hst:stepNew X base st o = some st') (hN:dstOk N o = true) (r:Rel X base N st a w g) {K:Act→World→Prop} {Q:Exit→Act→World→Prop}
  (hK:Goes X base N st' g w K):o.wp X.P a w K Q:=by
 unfold stepNew at hst
 split at hst
 ·rename_i t x hop
  split at hst
  ·rename_i s ht hx
   simp only [Option.some.injEq] at hst
   subst hst
   exact step_range hop ht hx hN r hK
  ·cases hst
 ·rename_i it hop
  split at hst
  ·rename_i id hx
   split at hst
   ·rename_i s pos hh
    simp only [Option.some.injEq] at hst
    subst hst
    exact step_next hop hx hh hN r hK
   ·cases hst
  ·cases hst
 ·rename_i t x hop
  split at hst
  ·rename_i kt et ht
   have fin:(x = none∨∃ y k n,x = some y∧st.get X y = .d (.int k n))→st' = ({ st with h:=st.h ++ [Ob.map [] 0] }:St).put o.dst (.mp st.h.length)→o.wp X.P a w K Q:=fun h1 h2=>by subst h2;exact step_makeMap hop ht h1 hN r hK
   split at hst
   ·rename_i hx
    simp only [Option.some.injEq] at hst
    refine fin (.inl ?_) hst.symm
    cases x with
    | none=>rfl
    | some y=>simp at hx
   ·rename_i k n hx
    simp only [Option.some.injEq] at hst
    refine fin (.inr ?_) hst.symm
    cases x with
    | none=>simp at hx
    | some y=>exact ⟨y,k,n,rfl,by simpa using hx⟩
   ·cases hst
  ·cases hst
 ·rename_i t x k ok hop
  cases hy:mapGet X st t x k ok with
  | none=>simp [hy] at hst
  | some y=>simp [hy] at hst;subst hst;exact step_lookup hop hy hN r hK
 ·rename_i t m k x hop
  cases hy:mapSet X st t m k x with
  | none=>simp [hy] at hst
  | some y=>simp [hy] at hst;subst hst;exact step_mapSet (.inl hop) hy hN r hK
 ·rename_i t m k x hop
  cases hy:mapSet X st t m k x with
  | none=>simp [hy] at hst
  | some y=>simp [hy] at hst;subst hst;exact step_mapSet (.inr hop) hy hN r hK
 ·rename_i t x hop
  split at hst
  ·cases hst
  ·cases hst
  ·rename_i td hni ht
   cases hd:(st.get X x).toD with
   | none=>simp [hd] at hst
   | some d=>simp [hd] at hst;subst hst;exact step_makeInterface hop ht (fun m h=>hni m (by rw [h])) hd hN r hK
 ·rename_i x u t ok hop
  cases hy:assertOp X st x t ok with
  | none=>simp [hy] at hst
  | some y=>simp [hy] at hst;subst hst;exact step_assert hop hy hN r hK
 ·rename_i t l c hop
  cases hy:makeSliceOp X st t l c with
  | none=>simp [hy] at hst
  | some y=>simp only [hy,Option.map_some,Option.some.injEq] at hst;subst hst;exact step_makeSlice hop hy hN r hK
 ·rename_i s t x hop
  cases hcv:convV X s t (st.get X x) with
  | none=>simp [hcv] at hst
  | some y =>
   simp [hcv] at hst
   subst hst
   unfold convV at hcv
   split at hcv
   ·rename_i e hs ht
    split at hcv
    ·rename_i c n he hx
     split at hcv
     ·rename_i hn
      cases hl:bytesOf c with
      | none=>simp [hl] at hcv
      | some l=>simp [hl] at hcv;subst hcv;exact step_bytesToString hop hs ht he hx hn hl hN r hK
     ·cases hcv
    ·cases hcv
   ·rename_i e hs ht
    split at hcv
    ·rename_i l he hx
     split at hcv
     ·simp only [Option.some.injEq] at hcv
      subst hcv
      exact step_stringToBytes hop hs ht he hx hN r hK
     ·cases hcv
    ·cases hcv
   ·cases hcv
 ·rename_i c hop
  split at hst
  ·rename_i hc
   split at hst
   ·rename_i d x t u hargs hts
    split at hst
    ·rename_i e id off n he hd
     split at hst
     ·rename_i z vs hz ho
      split at hst
      ·rename_i cs m hsrc
       simp only at hst
       split at hst
       ·rename_i hcnd
        simp only [Option.some.injEq] at hst
        subst hst
        exact step_copy hop hc hargs hts he hd hz ho hsrc hcnd.1 hcnd.2.1 hcnd.2.2 hN r hK
       ·cases hst
      ·cases hst
     ·cases hst
    ·cases hst
   ·cases hst
  ·rename_i hc
   split at hst
   ·rename_i x hargs
    cases hes:mapOf st.h (st.get X x) with
    | none=>simp [hes] at hst
    | some es =>
     simp only [hes,Option.map_some,Option.some.injEq] at hst
     subst hst
     have hm:∃ t,c.argTypes.toList = [t] ∧ isMapT X.P t = true:=by
      unfold isNew at hnew
      rw [hop] at hnew
      simp only [hc] at hnew
      split at hnew
      ·rename_i t ht;exact ⟨t,ht,hnew⟩
      ·cases hnew
     obtain ⟨t,hts,hmt⟩:=hm
     exact step_mapLen hop hc hargs hts hmt hes hN r hK
   ·cases hst
  ·cases hst
 ·cases hst
theorem stepAll_sound {st':St} (hst:stepAll X call base o st = some st') (hN:dstOk N o = true) (r:Rel X base N st a w g) (hc:CallPOk X call) (hci:CallIOk X call) {K:Act→World→Prop} {Q:Exit→Act→World→Prop}
  (hK:Goes X base N st' g w K):o.wp X.P a w K Q:=by
 unfold stepAll at hst
 split at hst
 ·rename_i st1 ht
  cases hst
  exact step_thaw ht hN r hc hK
 ·split at hst
  ·rename_i hn;exact stepNew_sound hn hst hN r hK
  ·exact step_sound hst hN r hc hci hK
end
section
variable {X:Ctx} {base N:Nat} {st:St} {a:Act} {w:World} {g:Gh} {call:CallF} {o:Oper} {ops:Array Oper}
theorem Goes.trans {st':St} {w1:World} {g1:Gh} {K:Act→World→Prop} (h:Goes X base N st' g w K) (l:Later g w g1 w1):Goes X base N st' g1 w1 K :=
 fun a' w' g' k r=>h a' w' g' (l.trans k) r
theorem tmp_some {a:Act} {t:Nat} {v:Value} (h:a.tmps.getD t undef = v) (hv:v ≠ undef):a.tmps[t]? = some v:=by
 rw [Array.getD_eq_getD_getElem?] at h
 cases hh:a.tmps[t]? with
 | none=>rw [hh] at h;exact absurd h.symm hv
 | some u=>rw [hh] at h;simpa using h
theorem guard_sound {b:Bool} (h:guardOf X ops st o = some b) (r:Rel X base N st a w g):Region.wanted o (yielded ops a.tmps) = b:=by
 unfold guardOf at h
 cases hg:o.guard with
 | none=>simp [hg] at h;simp [Region.wanted,hg,h]
 | some jw =>
  obtain ⟨j,want⟩:=jw
  simp only [hg] at h
  cases ht:(ops[j]?).bind (·.dst) with
  | none=>simp [ht] at h
  | some t =>
   simp only [ht] at h
   have hs:=r.slots t
   simp only [Region.wanted,hg,yielded,ht,Option.bind_some]
   split at h
   ·rename_i c hc
    simp only [St.get] at hc
    rw [hc] at hs
    generalize hv:a.tmps.getD t undef = v at hs
    cases hs with
    | d _ _ _ hd =>
     cases hd
     rw [tmp_some hv (by simp [undef])]
     simp at h
     rw [← h]
     cases c <;> cases want <;> rfl
   ·rename_i hc
    simp only [St.get] at hc
    rw [hc] at hs
    generalize hv:a.tmps.getD t undef = v at hs
    simp at h
    subst h
    cases hs with
    | d _ _ _ hd =>
     cases hd with
     | tup vals cells hl _ =>
      cases hh:a.tmps[t]? with
      | none=>rfl
      | some u =>
       rw [Array.getD_eq_getD_getElem?,hh] at hv
       simp at hv
       subst hv
       rfl
   ·cases h
theorem runOps_sound (hc:CallPOk X call) (hci:CallIOk X call) {Q:Exit→Act→World→Prop}:∀ (l:List Oper) (st st':St) (a:Act) (w:World) (g:Gh),runOps X call base N ops l st = some st' → Rel X base N st a w g →
  Goes X base N st' g w (fun a w=>Q .normal a w)→wpList X.P ops Q l a w:=by
 intro l
 induction l with
 | nil =>
  intro st st' a w g h r hK
  simp [runOps] at h
  subst h
  exact hK a w g (Later.refl g w) r
 | cons o rest ih =>
  intro st st' a w g h r hK
  simp only [runOps] at h
  split at h
  ·rename_i hN
   unfold wpList
   split at h
   ·rename_i hg
    rw [if_pos (guard_sound hg r)]
    left
    split at h
    ·rename_i st1 hs
     exact stepAll_sound hs hN r hc hci fun a' w' g' l r' => ih st1 st' a' w' g' h r' (hK.trans l)
    ·cases h
   ·rename_i hg
    rw [if_neg (by rw [guard_sound hg r];simp)]
    exact ih _ st' _ w g h (r.put hN fun d _=>.d _ _ _ (.tup [] [] rfl (by intro j v d hj;simp at hj))) hK
   ·cases h
  ·cases h
end
section
variable {X:Ctx} {w w':World} {g g2:Gh}
theorem RepV.reown (he:g2.e = g.e) (hμ:∀ (id b:Nat),g.μ[id]? = some b→g2.μ[id]? = some b) {q:Own} {v:Value} {x:V} (r:RepV X w g q v x):∀ q2,(IsPos q→IsPos q2∧∀ b,g.own b = q→g2.own b = q2)→RepV X w g2 q2 v x:=by
 induction r with
 | d p v x r=>intro q2 _;exact .d _ _ _ (by rw [he];exact r)
 | tail p E cells m b c cur z vals hz hz0 hb hn hm hcur hcl hee ho hp hv hr =>
  intro q2 h
  obtain ⟨h1,h2⟩:=h hp
  exact .tail _ E cells m b c cur z vals hz hz0 hb hn hm hcur hcl (by rw [he];exact hee) (h2 b ho) h1 hv fun j v d k1 k2=>by rw [he];exact hr j v d k1 k2
 | tail0 _ E a0=>intro q2 _;exact .tail0 _ E _
 | full p b o cells n r=>intro q2 _;exact .full _ b o cells n (by rw [he];exact r)
 | obj p id off b r=>intro q2 _;exact .obj _ id off b (hμ _ _ r)
 | osl p id off n c b r hn=>intro q2 _;exact .osl _ id off n c b (hμ _ _ r) hn
 | clo p fn va vb a b hla hlb _ _ iha ihb =>
  intro q2 _
  have nf:IsPos Own.free→IsPos Own.free∧∀ b,g.own b = .free→g2.own b = .free:=fun hh=>(hh.ne_free rfl).elim
  exact .clo _ fn va vb a b hla hlb (fun j v x h1 h2=>iha j v x h1 h2 _ nf) (fun j v x h1 h2=>ihb j v x h1 h2 _ nf)
 | agg p vals vs hl _ ih =>
  intro q2 _
  exact .agg _ vals vs hl (fun j v x h1 h2=>ih j v x h1 h2 _ fun hh=>(hh.ne_free rfl).elim)
 | tup p vals vs hl _ ih =>
  intro q2 _
  exact .tup _ vals vs hl (fun j v x h1 h2=>ih j v x h1 h2 _ fun hh=>(hh.ne_free rfl).elim)
 | mp p id b r=>intro q2 _;exact .mp _ id b (hμ _ _ r)
 | it p id b r=>intro q2 _;exact .it _ id b (hμ _ _ r)
theorem RepOb.reown (he:g2.e = g.e) (hμ:∀ (id b:Nat),g.μ[id]? = some b→g2.μ[id]? = some b) (ho:∀ (b id j:Nat),g.own b = .cell id j→g2.own b = .cell id j) {id b:Nat} {o:Ob} (r:RepOb X w g id b o):RepOb X w g2 id b o:=by
 cases o with
 | cells vs =>
  obtain ⟨vals,T,h1,h2,h3,h4⟩:=r
  exact ⟨vals,T,h1,h2,by rw [he];exact h3,fun j v x k1 k2=>(h4 j v x k1 k2).reown he hμ _ fun hp=>⟨hp,fun b hb=>ho b id j hb⟩⟩
 | frozen ds=>obtain ⟨vals,T,h1,h2,h3,h4⟩:=r;exact ⟨vals,T,h1,h2,by rw [he];exact h3,fun j v x k1 k2=>by rw [he];exact h4 j v x k1 k2⟩
 | map es ck=>obtain ⟨en,h1,h2,h3,h4⟩:=r;exact ⟨en,h1,h2,by rw [he];exact h3,fun j v x k1 k2=>by rw [he];exact h4 j v x k1 k2⟩
 | iter s pos=>exact ⟨r.1,by rw [he];exact r.2⟩
def Own.first (m:Nat):Own→Prop
 | .obj id=>id < m
 | .cell id _=>id < m
 | _=>False
instance (m:Nat) (o:Own):Decidable (o.first m):=by cases o <;> unfold Own.first <;> infer_instance
def Gh.head (g:Gh) (n m:Nat):Gh:={ μ:=g.μ.take m,e:=g.e,own:=fun b=>if b < n∧¬ (g.own b).first m then .fgn else g.own b,pin:=g.pin }
def Gh.rejoin (g g':Gh) (n m:Nat):Gh:={ μ:=g.μ,e:=g'.e,own:=fun b=>if b < n∧¬ (g.own b).first m then g.own b else g'.own b,pin:=g.pin }
theorem head_get {n m id b:Nat} (h:(g.head n m).μ[id]? = some b):id < m∧g.μ[id]? = some b:=by
 simp only [Gh.head,List.getElem?_take] at h
 split at h
 ·exact ⟨‹_›,h⟩
 ·cases h
theorem head_put {n m id b:Nat} (hi:id < m) (h:g.μ[id]? = some b):(g.head n m).μ[id]? = some b:=by
 simp only [Gh.head,List.getElem?_take,if_pos hi]
 exact h
theorem head_own {n m b:Nat} (h:(g.own b).first m):(g.head n m).own b = g.own b:=by
 simp only [Gh.head]
 rw [if_neg (fun hh=>hh.2 h)]
theorem RepV.head0 {n m:Nat} {p:Own} {v:Value} {x:V} (r:RepV X w g p v x) (hx:x.low0 m = true):RepV X w (g.head n m) p v x:=by
 cases r with
 | d _ _ _ r=>exact .d _ _ _ r
 | full _ b o cells k r=>exact .full _ b o cells k r
 | obj _ id off b r=>exact .obj _ id off b (head_put (by simpa [V.low0] using hx) r)
 | osl _ id off k c b r hn=>exact .osl _ id off k c b (head_put (by simpa [V.low0] using hx) r) hn
 | mp _ id b r=>exact .mp _ id b (head_put (by simpa [V.low0] using hx) r)
 | it _ id b r=>exact .it _ id b (head_put (by simpa [V.low0] using hx) r)
 | _=>simp [V.low0] at hx
theorem RepV.head {n m:Nat} {p:Own} {v:Value} {x:V} (r:RepV X w g p v x) (hx:x.low m = true) (hp:IsPos p→p.first m):RepV X w (g.head n m) p v x:=by
 cases r with
 | d _ _ _ r=>exact .d _ _ _ r
 | tail _ E cells k b c cur z vals hz hz0 hb hn hm hcur hcl hee ho hpos hv hr =>
  have hf:(g.own b).first m:=by rw [ho];exact hp hpos
  exact .tail _ E cells k b c cur z vals hz hz0 hb hn hm hcur hcl hee (by rw [head_own hf];exact ho) hpos hv hr
 | tail0 _ E a0=>exact .tail0 _ E _
 | full _ b o cells k r=>exact .full _ b o cells k r
 | obj _ id off b r=>exact .obj _ id off b (head_put (by simpa [V.low] using hx) r)
 | osl _ id off k c b r hn=>exact .osl _ id off k c b (head_put (by simpa [V.low] using hx) r) hn
 | clo _ fn va vb a b hla hlb ha hb =>
  simp only [V.low,Bool.and_eq_true] at hx
  exact .clo _ fn va vb a b hla hlb (fun j v x k1 k2=>(ha j v x k1 k2).head0 (List.all_eq_true.1 hx.1 x (List.mem_of_getElem? k2))) (fun j v x k1 k2=>(hb j v x k1 k2).head0 (List.all_eq_true.1 hx.2 x (List.mem_of_getElem? k2)))
 | agg _ vals vs hl hr =>
  simp only [V.low] at hx
  exact .agg _ vals vs hl (fun j v x k1 k2=>(hr j v x k1 k2).head0 (List.all_eq_true.1 hx x (List.mem_of_getElem? k2)))
 | tup _ vals vs hl hr =>
  simp only [V.low] at hx
  exact .tup _ vals vs hl (fun j v x k1 k2=>(hr j v x k1 k2).head0 (List.all_eq_true.1 hx x (List.mem_of_getElem? k2)))
 | mp _ id b r=>exact .mp _ id b (head_put (by simpa [V.low] using hx) r)
 | it _ id b r=>exact .it _ id b (head_put (by simpa [V.low] using hx) r)
theorem RepOb.head {n m:Nat} {id b:Nat} {o:Ob} (hid:id < m) (hx:o.low m = true) (r:RepOb X w g id b o):RepOb X w (g.head n m) id b o:=by
 cases o with
 | cells vs =>
  obtain ⟨vals,T,h1,h2,h3,h4⟩:=r
  exact ⟨vals,T,h1,h2,h3,fun j v x k1 k2=>(h4 j v x k1 k2).head (List.all_eq_true.1 hx x (List.mem_of_getElem? k2)) fun _=>hid⟩
 | frozen ds=>exact r
 | map es ck=>exact r
 | iter s pos=>exact r
theorem head_sit {h:List Ob} {m:Nat} (s:Sit X w g h) (hm:m≤h.length) (hl:(h.take m).all (Ob.low m) = true):Sit X w (g.head w.heap.size m) (h.take m) where
 fresh:=fun b hb=>by
  refine ⟨?_,(s.fresh b hb).2⟩
  simp only [Gh.head]
  rw [if_neg (by omega)]
  exact (s.fresh b hb).1
 heap:={
  len:=by simp only [Gh.head,List.length_take,s.heap.len]
  own:=fun id b hb=>by
   obtain ⟨h1,h2⟩:=head_get hb
   have ho:=s.heap.own id b h2
   rw [head_own (by rw [ho];exact h1)]
   exact ho
  ob:=fun id b o hb ho=>by
   obtain ⟨h1,h2⟩:=head_get hb
   rw [List.getElem?_take,if_pos h1] at ho
   exact (s.heap.ob id b o h2 ho).head h1 (List.all_eq_true.1 hl o (List.mem_of_getElem? (i:=id) (by rw [List.getElem?_take,if_pos h1];exact ho))) }
 glob:=by
  obtain ⟨ms,h⟩:=s.glob
  refine ⟨ms,fun i cs hi=>?_⟩
  obtain ⟨h0,vals,T,fz,h1,h2,h3⟩:=h i cs hi
  refine ⟨?_,vals,T,fz,h1,h2,h3⟩
  simp only [Gh.head]
  rw [if_pos ⟨(Array.getElem?_eq_some_iff.1 h1).1,by rw [h0];exact fun h=>h⟩]
structure Rest (g:Gh) (w:World) (m:Nat) (g':Gh) (w':World):Prop where
 later:Later g w g' w'
 μ:g'.μ = g.μ
 hid:∀ b,b < w.heap.size→¬ (g.own b).first m→w'.heap[b]? = w.heap[b]? ∧ g'.own b = g.own b∧g'.e b = g.e b
theorem Rest.repV {m:Nat} {g':Gh} (k:Rest g w m g' w') {p:Own} {v:Value} {x:V} (r:RepV X w g p v x):(IsPos p→¬ p.first m)→RepV X w' g' p v x:=by
 induction r with
 | d p v x r=>intro _;exact .d _ _ _ (r.mono k.later.cells k.later.e)
 | tail p E cells n b c cur z vals hz hz0 hb hn hm hcur hcl he ho hpos hv hr =>
  intro hp
  obtain ⟨h1,h2,h3⟩:=k.hid b (Array.getElem?_eq_some_iff.1 hb).1 (by rw [ho];exact hp hpos)
  exact .tail _ E cells n b c cur z vals hz hz0 (h1.trans hb) hn hm hcur hcl (h3.trans he) (h2.trans ho) hpos hv fun j v d k1 k2=>(hr j v d k1 k2).mono k.later.cells k.later.e
 | tail0 p E a0=>intro _;exact .tail0 _ E _
 | full p b o cells n r=>intro _;exact .full _ b o cells n (r.mono k.later.cells k.later.e)
 | obj p id off b r=>intro _;exact .obj _ id off b (by rw [k.μ];exact r)
 | osl p id off n c b r hn=>intro _;exact .osl _ id off n c b (by rw [k.μ];exact r) hn
 | clo p fn va vb a b hla hlb _ _ iha ihb=>intro _;exact .clo _ fn va vb a b hla hlb (fun j v x h1 h2=>iha j v x h1 h2 fun hh=>(hh.ne_free rfl).elim) (fun j v x h1 h2=>ihb j v x h1 h2 fun hh=>(hh.ne_free rfl).elim)
 | agg p vals vs hl _ ih=>intro _;exact .agg _ vals vs hl fun j v x h1 h2=>ih j v x h1 h2 fun hh=>(hh.ne_free rfl).elim
 | tup p vals vs hl _ ih=>intro _;exact .tup _ vals vs hl fun j v x h1 h2=>ih j v x h1 h2 fun hh=>(hh.ne_free rfl).elim
 | mp p id b r=>intro _;exact .mp _ id b (by rw [k.μ];exact r)
 | it p id b r=>intro _;exact .it _ id b (by rw [k.μ];exact r)
theorem Rest.repOb {m:Nat} {g':Gh} (k:Rest g w m g' w') {id b:Nat} {o:Ob} (hid:m≤id) (ho:g.own b = .obj id) (r:RepOb X w g id b o):RepOb X w' g' id b o:=by
 have hnf:¬ (g.own b).first m:=by rw [ho];simp only [Own.first];omega
 obtain ⟨e1,e2,e3⟩:=k.hid b r.lt hnf
 cases o with
 | cells vs =>
  obtain ⟨vals,T,h1,h2,h3,h4⟩:=r
  exact ⟨vals,T,e1.trans h1,h2,e3.trans h3,fun j v x k1 k2=>k.repV (h4 j v x k1 k2) fun _=>by simp only [Own.first];omega⟩
 | frozen ds =>
  obtain ⟨vals,T,h1,h2,h3,h4⟩:=r
  exact ⟨vals,T,e1.trans h1,h2,e3.trans h3,fun j v x k1 k2=>(h4 j v x k1 k2).mono k.later.cells k.later.e⟩
 | map es ck =>
  obtain ⟨en,h1,h2,h3,h4⟩:=r
  exact ⟨en,e1.trans h1,h2,e3.trans h3,fun j v x k1 k2=>⟨(h4 j v x k1 k2).1.mono k.later.cells k.later.e,(h4 j v x k1 k2).2.mono k.later.cells k.later.e⟩⟩
 | iter s pos=>exact ⟨e1.trans r.1,e3.trans r.2⟩
theorem Rest.trunc {m n:Nat} {g':Gh} (k:Rest g w m g' w'):Rest (g.trunc n) w m (g'.trunc n) w' where
 later:=⟨k.later.os,k.later.tape,k.later.output,k.later.size,k.later.cells,k.later.e,k.later.fgn,k.later.pin⟩
 μ:=by simp only [Gh.trunc,k.μ]
 hid:=k.hid
theorem callF_sound {call:CallF} (hci:CallIOk X call) {f:FuncId} {args:List V} {h h1:List Ob} {m:Nat} {y:V} (hcall:call.i f args (h.take m) = some (y,h1)) (hl1:h1.length = m) (hm:m≤h.length) (hargs:args.all (V.low m) = true) (hlow:(h.take m).all (Ob.low m) = true) (hy:y.pure = true)
  {vargs:List Value} (sit:Sit X w g h) (hp:PtV X w g vargs args) (p:Own) (hpos:IsPos p) {base:Nat} (low:Low X w g base h) :
  ∃ fn,X.P.funcs[f]? = some fn∧(fn.name == "runtime.NumGoroutine") = false∧((∃ c,fn.body = some c)∧Calls X.P f ⟨vargs⟩ w fun E w' => ∃ v g',E = .returned v∧Rest g w m g' w' ∧ Sit X w' g' (h1 ++ h.drop m)∧RepV X w' g' p v y∧Low X w' g' base (h1 ++ h.drop m)):=by
 have hptv:PtV X w (g.head w.heap.size m) vargs args:=⟨hp.1,fun j v x k1 k2=>(hp.2 j v x k1 k2).head (List.all_eq_true.1 hargs x (List.mem_of_getElem? k2)) fun hh=>(hh.ne_free rfl).elim⟩
 obtain ⟨fn,k1,k2,k3,k4⟩:=hci f args (h.take m) y h1 hcall w (g.head w.heap.size m) vargs (head_sit sit hm hlow) hptv p hpos
 refine ⟨fn,k1,k2,k3,k4.mono ?_⟩
 rintro E w' ⟨v,g',rfl,l,sit',hr,hμ,hsl,hlw⟩
 have hid:∀ b,b < w.heap.size→¬ (g.own b).first m→w'.heap[b]? = w.heap[b]? ∧ g'.own b = .fgn∧g'.e b = g.e b:=fun b hb hn=>l.fgn b (by simp only [Gh.head];rw [if_pos ⟨hb,hn⟩])
 have hμ':g'.μ = g.μ.take m:=by
  have e1:g'.μ.length = m:=by rw [sit'.heap.len,hl1]
  have e2:(g.μ.take m).length = m:=by rw [List.length_take,sit.heap.len];omega
  apply List.ext_getElem?
  intro i
  by_cases hi:i < m
  ·have hx:(g.μ.take m)[i]? = some ((g.μ.take m)[i]'(by omega)):=List.getElem?_eq_getElem (by omega)
   rw [hx]
   exact hμ i _ hx
  ·rw [List.getElem?_eq_none (by omega),List.getElem?_eq_none (by omega)]
 have own2:∀ b q,IsPos q∨(∃ id,q = .obj id)→g'.own b = q→(g.rejoin g' w.heap.size m).own b = q:=by
  intro b q hq hb
  simp only [Gh.rejoin]
  split
  ·rename_i hh
   have:=(hid b hh.1 hh.2).2.1
   rw [hb] at this
   rcases hq with ⟨t,i,j,hq | hq⟩ | ⟨id,hq⟩ <;> rw [hq] at this <;> cases this
  ·exact hb
 have rest:Rest g w m (g.rejoin g' w.heap.size m) w':=by
  refine ⟨⟨l.os,l.tape,l.output,l.size,l.cells,l.e,fun b hb=>?_,rfl⟩,rfl,fun b hb hn=>?_⟩
  ·have hlt:b < w.heap.size:=by
    apply Classical.byContradiction;intro hn
    rw [(sit.fresh b (by omega)).1] at hb;cases hb
   have hnf:¬ (g.own b).first m:=by rw [hb];exact fun h=>h
   obtain ⟨e1,_,e3⟩:=hid b hlt hnf
   refine ⟨e1,?_,e3⟩
   simp only [Gh.rejoin]
   rw [if_pos ⟨hlt,hnf⟩]
   exact hb
  ·obtain ⟨e1,_,e3⟩:=hid b hb hn
   refine ⟨e1,?_,e3⟩
   simp only [Gh.rejoin]
   rw [if_pos ⟨hb,hn⟩]
 have hμ2:∀ (id b:Nat),g'.μ[id]? = some b→(g.rejoin g' w.heap.size m).μ[id]? = some b:=by
  intro id b hb
  rw [hμ'] at hb
  exact (head_get (n:=0) hb).2
 have hcell:∀ (b id j:Nat),g'.own b = .cell id j→(g.rejoin g' w.heap.size m).own b = .cell id j:=fun b id j hb=>own2 b _ (.inl ⟨0,id,j,.inr rfl⟩) hb
 have reob:∀ {id b:Nat} {o:Ob},RepOb X w' g' id b o→RepOb X w' (g.rejoin g' w.heap.size m) id b o:=fun r=>RepOb.reown (g:=g') (g2:=g.rejoin g' w.heap.size m) rfl hμ2 hcell r
 have split:∀ (id:Nat) (o:Ob),(h1 ++ h.drop m)[id]? = some o→(id < m∧h1[id]? = some o)∨(m≤id∧h[id]? = some o):=by
  intro id o ho
  by_cases hi:id < m
  ·rw [List.getElem?_append_left (by omega)] at ho
   exact .inl ⟨hi,ho⟩
  ·rw [List.getElem?_append_right (by omega),List.getElem?_drop,hl1,show m + (id - m) = id by omega] at ho
   exact .inr ⟨by omega,ho⟩
 refine ⟨v,g.rejoin g' w.heap.size m,rfl,rest,⟨fun b hb=>?_,⟨?_,fun id b hb=>?_,fun id b o hb ho=>?_⟩,sit.glob.later rest.later⟩,?_,?_⟩
 ·have:=sit'.fresh b hb
  refine ⟨?_,this.2⟩
  simp only [Gh.rejoin]
  rw [if_neg (by have:=l.size;omega)]
  exact this.1
 ·show g.μ.length = _
  rw [sit.heap.len,List.length_append,hl1,List.length_drop]
  omega
 ·have hb':g.μ[id]? = some b:=hb
  by_cases hi:id < m
  ·exact own2 b _ (.inr ⟨id,rfl⟩) (sit'.heap.own id b (by rw [hμ'];exact head_put (n:=0) hi hb'))
  ·have ho:=sit.heap.own id b hb'
   rw [(rest.hid b (sit.heap.lt hb') (by rw [ho];simp only [Own.first];omega)).2.1]
   exact ho
 ·have hb':g.μ[id]? = some b:=hb
  rcases split id o ho with ⟨hi,ho⟩ | ⟨hi,ho⟩
  ·exact reob (sit'.heap.ob id b o (by rw [hμ'];exact head_put (n:=0) hi hb') ho)
  ·exact rest.repOb hi (sit.heap.own id b hb') (sit.heap.ob id b o hb' ho)
 ·exact RepV.reown (g:=g') (g2:=g.rejoin g' w.heap.size m) rfl hμ2 hr p fun _=>⟨hpos,fun b hb=>own2 b p (.inl hpos) hb⟩
 ·
  have hlow1:Low X w (g.head w.heap.size m) (min base m) (h.take m):=by
   refine ⟨by rw [List.length_take];have:=low.1;omega,fun n hn he id b o hid hb ho=>?_,fun id b hid hb=>?_⟩
   ·obtain ⟨hidm,hb'⟩:=head_get hb
    rw [List.getElem?_take,if_pos hidm] at ho
    have hob:=List.all_eq_true.1 hlow o (List.mem_of_getElem? (i:=id) (by rw [List.getElem?_take,if_pos hidm];exact ho))
    have key:∀ {n:Nat},RepOb X w (g.trunc n) id b o→n≤m→RepOb X w ((g.head w.heap.size m).trunc n) id b o:=by
     intro n r hn
     have:=r.head (n:=w.heap.size) hidm hob
     have e:(g.trunc n).head w.heap.size m = (g.head w.heap.size m).trunc n:=by
      simp only [Gh.trunc,Gh.head,List.take_take,Nat.min_comm];rfl
     rw [e] at this
     exact this
    by_cases hne:n = base∨g.pin.eld n
    ·exact key (low.2.1 n (by omega) hne id b o hid hb' ho) (by omega)
    ·have hnm:n = m:=by
      rcases he with he | he
      ·have:¬ n = base:=fun h=>hne (.inl h)
       omega
      ·exact (hne (.inr he)).elim
     subst hnm
     have:=(sit.heap.ob id b o hb' ho).head (n:=w.heap.size) hidm hob
     have e:g.head w.heap.size n = (g.head w.heap.size n).trunc n:=by
      simp only [Gh.trunc,Gh.head,List.take_take,Nat.min_self]
     rw [e] at this
     exact this
   ·exact head_put (by omega) (low.2.2 id b (by omega) hb)
  obtain ⟨_,q2,_⟩:=hlw _ hlow1
  have q2':∀ n,n≤min base m→(n = min base m∨g.pin.eld n)→Elder X w' g' n h1:=fun n hn he=>q2 n hn (by rw [show g'.pin = g.pin from l.pin];exact he)
  refine ⟨by rw [List.length_append,hl1,List.length_drop];have:=low.1;omega,fun n hn he id b o hid hb ho=>?_,fun id b hid hb=>low.2.2 id b hid hb⟩
  have hb':g.μ[id]? = some b:=hb
  have he':n = base∨g.pin.eld n:=he
  rcases split id o ho with ⟨hi,ho⟩ | ⟨hi,ho⟩
  ·have hbg:g'.μ[id]? = some b:=by rw [hμ'];exact head_put (n:=0) hi hb'
   have tr:∀ {k:Nat},RepOb X w' (g'.trunc k) id b o→k≤n→RepOb X w' ((g.rejoin g' w.heap.size m).trunc n) id b o:=by
    intro k r hk
    refine RepOb.reown (g:=g'.trunc k) (g2:=(g.rejoin g' w.heap.size m).trunc n) rfl (fun i c hc=>?_) hcell r
    obtain ⟨t1,t2⟩:=trunc_get hc
    exact trunc_put (by omega) (hμ2 i c t2)
   by_cases hnm:n≤m
   ·refine tr (q2' n (by omega) ?_ id b o hid hbg ho) (Nat.le_refl _)
    rcases he' with he' | he'
    ·left;omega
    ·exact .inr he'
   ·exact tr (q2' (min base m) (Nat.le_refl _) (.inl rfl) id b o (by omega) hbg ho) (by omega)
  ·exact rest.trunc.repOb hi (sit.heap.own id b hb') (low.2.1 n hn he' id b o hid hb' ho)
theorem step_callF {base N:Nat} {st:St} {a:Act} {call:CallF} {o:Oper} {c:Call} {f:Operand} {gf:FuncId} {ca cb:List V} {y:V} {h1:List Ob} {m:Nat} (hop:o.op = .call c) (hc:c.callee = .value f) (hcal:calleeOf (st.get X f) = some (gf,ca,cb))
  (hst:call.i gf (ca ++ copies (st.get X) c.args ++ cb) (st.h.take m) = some (y,h1)) (hl1:h1.length = m) (hm:m≤st.h.length) (hargs:(ca ++ copies (st.get X) c.args ++ cb).all (V.low m) = true) (hlow:(st.h.take m).all (Ob.low m) = true) (hy:y.pure = true)
  (hog:∀ (t id j:Nat),(t,Loc.cell id j) ∈ st.og→m≤id) (hci:CallIOk X call) (hN:dstOk N o = true) (r:Rel X base N st a w g) {K:Act→World→Prop} {Q:Exit→Act→World→Prop}
  (hK:Goes X base N ({ s:=st.s,h:=h1 ++ st.h.drop m,og:=st.og:St }.put o.dst y) g w K):o.wp X.P a w K Q:=by
 obtain ⟨q,hq⟩:=r.get f
 obtain ⟨ua,ub,hve,ha,hb⟩:=calleeOf_val hq hcal
 have hcs:=copies_rep (X:=X) (w:=w) (g:=g) (a:=a) (ρ:=st.get X) (xs:=c.args) (fun x _=>r.get x)
 obtain ⟨fn,hfn,hname,⟨cbody,hcb⟩,hcalls⟩:=callF_sound hci hst hl1 hm hargs hlow hy r.sit ((ha.append hcs).append hb) (dstPos o) (dstPos_pos o) r.low
 have hrun:=run_call_value (P:=X.P) hop hc hve hfn hname (by simp [hcb]) w
 unfold Oper.wp
 rw [hrun]
 refine hcalls.mono ?_
 rintro E w' ⟨v,g',rfl,rest,hsit,hrv,hlw⟩
 refine hK _ w' g' rest.later (rel_put (st':={ s:=st.s,h:=h1 ++ st.h.drop m,og:=st.og }) r.defers r.size hN (fun t _=>rest.repV (r.slots t) fun _ hf=>hf) hsit hlw (fun t l hm=>?_) fun d hd=>by rw [← dstPos_eq hd];exact hrv)
 have hok:=r.og t l hm
 cases l with
 | slot u=>exact hok
 | cell id j =>
  obtain ⟨b,hb,hcl⟩:=hok
  have hb':g'.μ[id]? = some b:=by rw [rest.μ];exact hb
  refine ⟨b,hb',?_⟩
  have ho:=r.sit.heap.own id b hb
  have hid:=hog t id j hm
  have e:=(rest.hid b (r.sit.heap.lt hb) (by rw [ho];simp only [Own.first];omega)).1
  rw [← hcl]
  exact World.cell?_of_block (w:=w) (a:=⟨b,j,none⟩) e
end
inductive Anc (ops:Array Oper):Nat→Nat→Prop where
 | base (j i:Nat) (o:Oper) (ho:ops[i]? = some o) (h:j ∈ directs o):Anc ops j i
 | step (j m i:Nat) (o:Oper) (ho:ops[i]? = some o) (h:m ∈ directs o) (k:Anc ops j m):Anc ops j i
theorem maskOf_spec {ops:Array Oper} {ms:List Nat} {i:Nat} {o:Oper} (ho:ops[i]? = some o) (hms:∀ m x,ms[m]? = some x→∀ j,x.testBit j = true→Anc ops j m) (j:Nat) (h:(maskOf ms o).testBit j = true):Anc ops j i:=by
 have key:∀ (l:List Nat) (m0:Nat),(∀ x ∈ l,x ∈ directs o)→(∀ j,m0.testBit j = true→Anc ops j i)→∀ j,(l.foldl (fun m j=>m ||| (1 <<< j) ||| ms.getD j 0) m0).testBit j = true→Anc ops j i:=by
  intro l
  induction l with
  | nil=>intro m0 _ h0 j hj;exact h0 j hj
  | cons y l ih =>
   intro m0 hl h0 j hj
   simp only [List.foldl_cons] at hj
   refine ih _ (fun x hx=>hl x (by simp [hx])) (fun j hj=>?_) j hj
   rw [Nat.testBit_or,Nat.testBit_or] at hj
   simp only [Bool.or_eq_true] at hj
   have hy:y ∈ directs o:=hl y (by simp)
   rcases hj with (hj | hj) | hj
   ·exact h0 j hj
   ·have:y = j:=by
     rw [Nat.one_shiftLeft,Nat.testBit_two_pow] at hj
     simpa using hj
    rw [← this]
    exact .base y i o ho hy
   ·cases hm:ms[y]? with
    | none=>simp [hm] at hj
    | some x =>
     simp [hm] at hj
     exact .step j y i o ho hy (hms y x hm j hj)
 exact key (directs o) 0 (fun _ h=>h) (by simp) j h
theorem masks_length (l:List Oper):∀ ms,(masks l ms).length = ms.length + l.length:=by
 induction l with
 | nil=>simp [masks]
 | cons o l ih=>intro ms;simp only [masks,ih,List.length_append,List.length_cons,List.length_nil];omega
theorem masks_spec {ops:Array Oper} (l:List Oper):∀ ms,(∀ j,l[j]? = ops[ms.length + j]?)→(∀ m x,ms[m]? = some x→∀ j,x.testBit j = true→Anc ops j m)→∀ m x,(masks l ms)[m]? = some x→∀ j,x.testBit j = true→Anc ops j m:=by
 induction l with
 | nil=>intro ms _ h;exact h
 | cons o l ih =>
  intro ms hl h
  have ho:ops[ms.length]? = some o:=by simpa using (hl 0).symm
  refine ih (ms ++ [maskOf ms o]) (fun j=>?_) (fun m x hm j hj=>?_)
  ·have:=hl (j + 1)
   simp only [List.getElem?_cons_succ] at this
   rw [this]
   simp [Nat.add_assoc,Nat.add_comm 1 j]
  ·rw [List.getElem?_append] at hm
   split at hm
   ·exact h m x hm j hj
   ·have:m = ms.length:=by
     have:=(List.getElem?_eq_some_iff.1 hm).1
     simp at this
     omega
    subst this
    simp at hm
    subst hm
    exact maskOf_spec ho h j hj
structure DrawOk (ops:Array Oper) (k:Nat) (F:List Nat):Prop where
 hk:k≤ops.size
 lt:∀ (i:Nat) (o:Oper),ops[i]? = some o→∀ j ∈ directs o,j < i
 look:∀ (i j:Nat) (o p:Oper) (t:Tmp),ops[i]? = some o→i < k→t ∈ o.looksAt ops→ops[j]? = some p→j < k→p.dst = some t→j < i∧Anc ops j i
 dist:∀ (i j:Nat) (o p:Oper) (t:Tmp),ops[i]? = some o→i < k→ops[j]? = some p→j < k→o.dst = some t→p.dst = some t→i = j
 full:∀ i,k≤i→i < ops.size→∀ j,j < i→Anc ops j i∨j ∈ F
 free:∀ j ∈ F,j < k∧freeMv ops j = true
 nosel:F ≠ [] → Region.noSelect ops = true
 nodup:F.Nodup
 len:F.length≤ops.size
theorem mem_take_zipIdx {ops:Array Oper} {k i:Nat} {o:Oper} (ho:ops[i]? = some o) (hi:i < k):(o,i) ∈ (ops.toList.take k).zipIdx:=by
 rw [List.mem_zipIdx_iff_getElem?]
 simp only
 rw [List.getElem?_take,if_pos hi]
 simpa using ho
theorem maskL_mem {F:List Nat} {j:Nat} (h:(maskL F).testBit j = true):j ∈ F:=by
 have key:∀ (l:List Nat) (m0:Nat),(l.foldl (fun m j=>m ||| (1 <<< j)) m0).testBit j = true→m0.testBit j = true∨j ∈ l:=by
  intro l
  induction l with
  | nil=>intro m0 h;exact .inl h
  | cons y l ih =>
   intro m0 h
   rcases ih _ h with h | h
   ·rw [Nat.testBit_or,Bool.or_eq_true] at h
    rcases h with h | h
    ·exact .inl h
    ·rw [Nat.one_shiftLeft,Nat.testBit_two_pow] at h
     right
     have:y = j:=by simpa using h
     simp [this]
   ·exact .inr (List.mem_cons_of_mem _ h)
 rcases key F 0 h with h | h
 ·simp at h
 ·exact h
theorem fullAt_spec {F:List Nat} {m i j:Nat} (h:fullAt (maskL F) m i = true) (hj:j < i):m.testBit j = true∨j ∈ F:=by
 unfold fullAt at h
 have e:((m ||| maskL F) &&& ((1 <<< i) - 1)) = (1 <<< i) - 1:=by simpa using h
 have hb:((1 <<< i) - 1).testBit j = true:=by rw [Nat.one_shiftLeft,Nat.testBit_two_pow_sub_one];simpa using hj
 rw [← e,Nat.testBit_and,Nat.testBit_or,Bool.and_eq_true,Bool.or_eq_true] at hb
 exact hb.1.imp id maskL_mem
theorem drawF_spec {ops:Array Oper} {F0 F:List Nat} {k:Nat} (hF0:∀ j ∈ F0,freeMv ops j = true) (hns:F0 ≠ [] → Region.noSelect ops = true) (hnd:F0.Nodup) (hlen0:F0.length≤ops.size) (h:drawF ops F0 = some (k,F)):DrawOk ops k F:=by
 unfold drawF at h
 simp only at h
 split at h
 ·rename_i hc
  simp only [Option.some.injEq,Prod.mk.injEq] at h
  obtain ⟨hk,hF⟩:=h
  simp only [Bool.and_eq_true] at hc
  rw [hk] at hc hF
  rw [hF] at hc
  obtain ⟨⟨h1,h2⟩,h3⟩:=hc
  have hms:=masks_spec (ops:=ops) ops.toList [] (by simp) (by simp)
  have hlen:=masks_length ops.toList []
  have anc:∀ i j,((masks ops.toList []).getD i 0).testBit j = true→Anc ops j i:=by
   intro i j hj
   cases hm:(masks ops.toList [])[i]? with
   | none=>simp [hm] at hj
   | some x=>simp [hm] at hj;exact hms i x hm j hj
  refine ⟨by omega,fun i o ho j hj=>?_,fun i j o p t ho hi ht hp hj hd=>?_,fun i j o p t ho hi hp hj hd hd' => ?_,fun i hi hn j hj=>?_,fun j hj=>?_,fun hne=>?_,?_,?_⟩
  ·have hm:(o,i) ∈ ops.toList.zipIdx:=by
    rw [List.mem_zipIdx_iff_getElem?];simpa using ho
   have:=List.all_eq_true.1 h1 _ hm
   have:=List.all_eq_true.1 this j hj
   simpa using this
  ·have:=List.all_eq_true.1 (List.all_eq_true.1 h2 _ (mem_take_zipIdx ho hi)) _ (mem_take_zipIdx hp hj)
   simp only [hd,Bool.and_eq_true,Bool.or_eq_true,Bool.not_eq_true',decide_eq_true_eq] at this
   rcases this.1 with hh | hh
   ·simp at hh;exact (hh ht).elim
   ·exact ⟨hh.1,anc i j hh.2⟩
  ·have:=List.all_eq_true.1 (List.all_eq_true.1 h2 _ (mem_take_zipIdx ho hi)) _ (mem_take_zipIdx hp hj)
   simp only [hd',Bool.and_eq_true,Bool.or_eq_true,beq_iff_eq,bne_iff_ne,ne_eq] at this
   rcases this.2 with hh | hh
   ·exact hh
   ·exact (hh hd).elim
  ·have ho:ops[i]? = some ops[i]:=Array.getElem?_eq_getElem hn
   have hm:(ops[i],i) ∈ ops.toList.zipIdx.drop k:=by
    rw [List.mem_iff_getElem?]
    refine ⟨i - k,?_⟩
    rw [List.getElem?_drop,show k + (i - k) = i by omega]
    simp [List.getElem?_zipIdx,ho]
   have:=List.all_eq_true.1 h3 _ hm
   exact (fullAt_spec this hj).imp (anc i j) id
  ·rw [← hF,List.mem_filter] at hj
   exact ⟨by simpa using hj.2,hF0 j hj.1⟩
  ·refine hns fun e=>hne ?_
   rw [← hF,e];rfl
  ·rw [← hF];exact hnd.filter _
  ·rw [← hF];exact Nat.le_trans (List.length_filter_le _ _) hlen0
 ·cases h
theorem drawOk_spec {ops:Array Oper} {k:Nat} (h:drawOk ops = some k):∃ F,DrawOk ops k F:=by
 unfold drawOk at h
 split at h
 ·rename_i r hr
  obtain ⟨k',F⟩:=r
  cases h
  refine ⟨F,drawF_spec (fun j hj=>?_) (fun hne=>?_) ?_ ?_ hr⟩
  ·unfold freesOf at hj
   split at hj
   ·exact (List.mem_filter.1 hj).2
   ·cases hj
  ·unfold freesOf at hne
   split at hne
   ·assumption
   ·exact (hne rfl).elim
  ·unfold freesOf
   split
   ·exact List.nodup_range.filter _
   ·exact List.nodup_nil
  ·unfold freesOf
   split
   ·exact Nat.le_trans (List.length_filter_le _ _) (by simp)
   ·simp
 ·cases hd:drawF ops [] with
  | none=>rw [hd] at h;cases h
  | some r =>
   rw [hd] at h
   cases h
   exact ⟨r.2,drawF_spec (F0:=[]) (by simp) (by simp) List.nodup_nil (by simp) hd⟩
def Closed (ops:Array Oper) (L:Array Bool):Prop:=∀ (i:Nat) (o:Oper),ops[i]? = some o→L[i]? = some true→∀ j ∈ directs o,L[j]? = some true
theorem Closed.anc {ops:Array Oper} {L:Array Bool} (h:Closed ops L) {j i:Nat} (k:Anc ops j i):(∀ o,ops[i]? = some o→∀ m ∈ directs o,L[m]? = some true)→L[j]? = some true:=by
 induction k with
 | base i o ho hj=>intro hi;exact hi o ho j hj
 | step m i o ho hm _ ih=>intro hi;exact ih fun p hp=>h m p hp (hi o ho m hm)
theorem ready_iff {ops:Array Oper} {L:Array Bool} (hL:L.size = ops.size) {i:Nat} :
  i ∈ Region.ready .any ops L ↔ L[i]? = some false∧∀ o,ops[i]? = some o→∀ j ∈ directs o,L[j]? = some true:=by
 unfold Region.ready
 rw [List.mem_filter,List.mem_range]
 constructor
 ·rintro ⟨h1,h2⟩
  have ho:ops[i]? = some ops[i]:=Array.getElem?_eq_getElem h1
  simp only [ho,Option.map_some,Option.getD_some,Bool.and_eq_true,Bool.not_eq_true'] at h2
  refine ⟨?_,fun o hoo j hj=>?_⟩
  ·have hlt:i < L.size:=by omega
   rw [Array.getElem?_eq_getElem hlt]
   have:=h2.1
   rw [Array.getD_eq_getD_getElem?,Array.getElem?_eq_getElem hlt] at this
   simpa using this
  ·rw [ho] at hoo
   cases hoo
   simp only [directs,List.mem_filterMap] at hj
   obtain ⟨e,he,hh⟩:=hj
   split at hh
   ·rename_i hb
    simp at hh
    subst hh
    have:=Array.all_eq_true'.1 h2.2 e (by simpa using he)
    simp only [hb,Bool.not_true,Bool.false_or] at this
    cases hj:L[e.on]? with
    | none=>rw [Array.getD_eq_getD_getElem?,hj] at this;simp at this
    | some b=>rw [Array.getD_eq_getD_getElem?,hj] at this;simp at this;rw [this]
   ·cases hh
 ·rintro ⟨h1,h2⟩
  have hlt:i < ops.size:=by rw [← hL];exact (Array.getElem?_eq_some_iff.1 h1).1
  have ho:ops[i]? = some ops[i]:=Array.getElem?_eq_getElem hlt
  refine ⟨hlt,?_⟩
  simp only [ho,Option.map_some,Option.getD_some,Bool.and_eq_true,Bool.not_eq_true']
  refine ⟨by rw [Array.getD_eq_getD_getElem?,h1];rfl,Array.all_eq_true'.2 fun e he=>?_⟩
  by_cases hb:Region.binds .any e = true
  ·have:=h2 _ ho e.on (List.mem_filterMap.2 ⟨e,by simpa using he,by simp [hb]⟩)
   rw [Array.getD_eq_getD_getElem?,this]
   simp
  ·simp [hb]
def unl (L:Array Bool):Nat:=L.toList.countP fun b=>!b
theorem unl_zero {L:Array Bool} (h:unl L = 0) {i:Nat} (hi:i < L.size):L[i]? = some true:=by
 unfold unl at h
 rw [List.countP_eq_zero] at h
 have:=h L[i] (by simp)
 rw [Array.getElem?_eq_getElem hi]
 simpa using this
theorem countP_set {l:List Bool} {i:Nat} (h:l[i]? = some false):(l.set i true).countP (fun b=>!b) + 1 = l.countP fun b=>!b:=by
 induction l generalizing i with
 | nil=>simp at h
 | cons b l ih =>
  cases i with
  | zero=>simp at h;subst h;simp
  | succ i =>
   simp only [List.getElem?_cons_succ] at h
   have:=ih h
   simp only [List.set_cons_succ,List.countP_cons]
   omega
theorem unl_set {L:Array Bool} {i:Nat} (h:L[i]? = some false):unl (L.setIfInBounds i true) + 1 = unl L:=by
 unfold unl
 rw [Array.toList_setIfInBounds]
 exact countP_set (by simpa using h)
theorem unl_start (n:Nat):unl (Array.replicate n false) = n:=by
 simp [unl,List.countP_replicate]
theorem ready_ne {ops:Array Oper} {k:Nat} {F:List Nat} (d:DrawOk ops k F) {L:Array Bool} (hL:L.size = ops.size) (h:Region.ready .any ops L = []):∀ i,i < ops.size→L[i]? = some true:=by
 intro i
 induction i using Nat.strongRecOn with
 | ind i ih =>
  intro hi
  have hlt:i < L.size:=by omega
  cases hb:L[i] with
  | true=>rw [Array.getElem?_eq_getElem hlt,hb]
  | false =>
   have:i ∈ Region.ready .any ops L:=(ready_iff hL).2 ⟨by rw [Array.getElem?_eq_getElem hlt,hb],fun o ho j hj=>ih j (d.lt i o ho j hj) (by have:=d.lt i o ho j hj;omega)⟩
   rw [h] at this
   cases this
theorem binds_any {md:Region.Mode} {e:Edge} (h:Region.binds .any e = true):Region.binds md e = true:=by
 unfold Region.binds at h ⊢
 split at h
 ·cases h
 ·cases h
 ·rfl
theorem ready_md {md:Region.Mode} {ops:Array Oper} {L:Array Bool} (hL:L.size = ops.size) {i:Nat} (h:i ∈ Region.ready md ops L) :
  L[i]? = some false∧∀ o,ops[i]? = some o→∀ j ∈ directs o,L[j]? = some true:=by
 unfold Region.ready at h
 rw [List.mem_filter,List.mem_range] at h
 obtain ⟨h1,h2⟩:=h
 have ho:ops[i]? = some ops[i]:=Array.getElem?_eq_getElem h1
 simp only [ho,Option.map_some,Option.getD_some,Bool.and_eq_true,Bool.not_eq_true'] at h2
 refine ⟨?_,fun o hoo j hj=>?_⟩
 ·have hlt:i < L.size:=by omega
  rw [Array.getElem?_eq_getElem hlt]
  have:=h2.1
  rw [Array.getD_eq_getD_getElem?,Array.getElem?_eq_getElem hlt] at this
  simpa using this
 ·rw [ho] at hoo
  cases hoo
  simp only [directs,List.mem_filterMap] at hj
  obtain ⟨e,he,hh⟩:=hj
  split at hh
  ·rename_i hb
   simp at hh
   subst hh
   have:=Array.all_eq_true'.1 h2.2 e (by simpa using he)
   simp only [binds_any (md:=md) hb,Bool.not_true,Bool.false_or] at this
   cases hj:L[e.on]? with
   | none=>rw [Array.getD_eq_getD_getElem?,hj] at this;simp at this
   | some b=>rw [Array.getD_eq_getD_getElem?,hj] at this;simp at this;rw [this]
  ·cases hh
theorem ready_back {md:Region.Mode} {ops:Array Oper} (hb:backAll ops = true) {L:Array Bool} (hL:L.size = ops.size) (h:Region.ready md ops L = []):∀ i,i < ops.size→L[i]? = some true:=by
 intro i
 induction i using Nat.strongRecOn with
 | ind i ih =>
  intro hi
  have hlt:i < L.size:=by omega
  cases hbi:L[i] with
  | true=>rw [Array.getElem?_eq_getElem hlt,hbi]
  | false =>
   have hmem:i ∈ Region.ready md ops L:=by
    unfold Region.ready
    rw [List.mem_filter,List.mem_range]
    refine ⟨hi,?_⟩
    have ho:ops[i]? = some ops[i]:=Array.getElem?_eq_getElem hi
    simp only [ho,Option.map_some,Option.getD_some,Bool.and_eq_true,Bool.not_eq_true']
    refine ⟨by rw [Array.getD_eq_getD_getElem?,Array.getElem?_eq_getElem hlt,hbi];rfl,Array.all_eq_true'.2 fun e he=>?_⟩
    have hon:e.on < i:=by
     simp only [backAll,List.all_eq_true] at hb
     have h1:=hb (ops[i],i) (by rw [List.mem_zipIdx_iff_getElem?];simp [hi])
     exact of_decide_eq_true (h1 e (by simpa using he))
    have:=ih e.on hon (by omega)
    rw [Bool.or_eq_true]
    right
    rw [Array.getD_eq_getD_getElem?,this];rfl
   rw [h] at hmem
   cases hmem
theorem waitsIn_spec {md:Region.Mode} {ops:Array Oper} {R:List Nat} {i:Nat} (h:waitsIn md ops R i = true):∃ o,ops[i]? = some o∧∀ e ∈ o.after,Region.binds md e = true→e.on ∈ R:=by
 unfold waitsIn at h
 split at h
 ·rename_i o ho
  refine ⟨o,ho,fun e he hb=>?_⟩
  have:=List.all_eq_true.1 h e (by simpa using he)
  simpa [hb] using this
 ·cases h
theorem ready_prog {md:Region.Mode} {ops:Array Oper} (hp:prog md ops = true) {L:Array Bool} (hL:L.size = ops.size) (h:Region.ready md ops L = []):∀ i,i < ops.size→L[i]? = some true:=by
 unfold prog at hp
 rw [Bool.and_eq_true] at hp
 obtain ⟨hp1,hp2⟩:=hp
 have key:∀ T:List Nat,topoOk md ops T = true→∀ i ∈ T,L[i]? = some true:=by
  intro T
  induction T with
  | nil=>intro _ i hi;cases hi
  | cons x T ih =>
   intro ht i hi
   simp only [topoOk,Bool.and_eq_true] at ht
   rcases List.mem_cons.1 hi with rfl | hi
   ·obtain ⟨o,ho,hw⟩:=waitsIn_spec ht.1
    have hlt:i < L.size:=by rw [hL];exact (Array.getElem?_eq_some_iff.1 ho).1
    cases hb:L[i] with
    | true=>rw [Array.getElem?_eq_getElem hlt,hb]
    | false =>
     have hmem:i ∈ Region.ready md ops L:=by
      unfold Region.ready
      rw [List.mem_filter,List.mem_range]
      refine ⟨by omega,?_⟩
      simp only [ho,Option.map_some,Option.getD_some,Bool.and_eq_true,Bool.not_eq_true']
      refine ⟨by rw [Array.getD_eq_getD_getElem?,Array.getElem?_eq_getElem hlt,hb];rfl,Array.all_eq_true'.2 fun e he=>?_⟩
      by_cases hbd:Region.binds md e = true
      ·have:=ih ht.2 e.on (hw e he hbd)
       rw [Bool.or_eq_true]
       right
       rw [Array.getD_eq_getD_getElem?,this];rfl
      ·simp [hbd]
     rw [h] at hmem
     cases hmem
   ·exact ih ht.2 i hi
 intro i hi
 have:=List.all_eq_true.1 hp2 i (by simpa using hi)
 exact key _ hp1 i (by simpa using this)
theorem Anc.trans {ops:Array Oper} {a b c:Nat} (h:Anc ops a b) (k:Anc ops b c):Anc ops a c:=by
 induction k with
 | base i o ho hb=>exact .step a b i o ho hb h
 | step m i o ho hm _ ih=>exact .step a m i o ho hm ih
theorem masks_anc {ops:Array Oper} {i j:Nat} (h:((masks ops.toList []).getD i 0).testBit j = true):Anc ops j i:=by
 have hms:=masks_spec (ops:=ops) ops.toList [] (by simp) (by simp)
 cases hm:(masks ops.toList [])[i]? with
 | none=>simp [hm] at h
 | some x=>simp [hm] at h;exact hms i x hm j h
theorem listed_set {L:Array Bool} {i j:Nat} (hi:L[i]? = some false):(L.setIfInBounds i true)[j]? = some true ↔ j = i∨L[j]? = some true:=by
 rw [Array.getElem?_setIfInBounds]
 have hlt:=(Array.getElem?_eq_some_iff.1 hi).1
 by_cases h:i = j
 ·subst h;simp [hlt]
 ·rw [if_neg h]
  constructor
  ·exact .inr
  ·rintro (rfl | h')
   ·exact (h rfl).elim
   ·exact h'
theorem Closed.set {ops:Array Oper} {L:Array Bool} (hc:Closed ops L) {i:Nat} (hi:L[i]? = some false) (hd:∀ o,ops[i]? = some o→∀ j ∈ directs o,L[j]? = some true):Closed ops (L.setIfInBounds i true):=by
 intro m o ho hm j hj
 rw [listed_set hi] at hm ⊢
 rcases hm with rfl | hm
 ·exact .inr (hd o ho j hj)
 ·exact .inr (hc m o ho hm j hj)
section
variable {X:Ctx} {base N k:Nat} {call:CallF} {ops:Array Oper} {h0:List Ob}
structure RunA (X:Ctx) (call:CallF) (N:Nat) (ops:Array Oper) (k:Nat) (h0:List Ob) (S:Nat→St) (R:Nat→Rec) (B:Nat→Bk):Prop where
  step:∀ (i:Nat) (o:Oper),ops[i]? = some o→i < k→dstOk N o = true∧recA X call ops h0 o (S i) = some (R i)∧S (i + 1) = (R i).on o.dst (S i)∧beside ops ((S i).get X) o (R i) (B i) = some (B (i + 1))
  start:B 0 = bk0
theorem runA_states (l:List Oper):∀ q st st',runA X call N ops h0 l q st = some st' → ∃ S:Nat→St,∃ R:Nat→Rec,∃ B:Nat→Bk,S 0 = st∧S l.length = st' ∧ B 0 = q ∧
    ∀ (i:Nat) (o:Oper),l[i]? = some o→dstOk N o = true∧recA X call ops h0 o (S i) = some (R i)∧S (i + 1) = (R i).on o.dst (S i)∧beside ops ((S i).get X) o (R i) (B i) = some (B (i + 1)):=by
  induction l with
  | nil =>
    intro q st st' h
    simp [runA] at h
    exact ⟨fun _=>st,fun _=>⟨und,none,[],[]⟩,fun _=>q,rfl,h,rfl,by intro i o hi;simp at hi⟩
  | cons o l ih =>
    intro q st st' h
    simp only [runA] at h
    split at h
    · rename_i hN
      split at h
      · rename_i rc hrc
        split at h
        · rename_i q1 hq1
          obtain ⟨S,R,B,h1,h2,hb,h3⟩:=ih _ _ _ h
          refine ⟨fun i=>match i with | 0=>st | i + 1=>S i,fun i=>match i with | 0=>rc | i + 1=>R i,fun i=>match i with | 0=>q | i + 1=>B i,rfl,h2,rfl,fun i p hi=>?_⟩
          cases i with
          | zero=>simp at hi;subst hi;exact ⟨hN,hrc,h1,by simp only [hb];exact hq1⟩
          | succ i=>simp at hi;exact h3 i p hi
        · cases h
      · cases h
    · cases h
theorem runA_run {st st':St} (hk:k≤ops.size) (h:runA X call N ops h0 (ops.toList.take k) bk0 st = some st'):∃ S R B,RunA X call N ops k h0 S R B∧S 0 = st∧S k = st':=by
  obtain ⟨S,R,B,h1,h2,hb,h3⟩:=runA_states _ _ _ _ h
  refine ⟨S,R,B,⟨fun i o ho hi=>h3 i o (by rw [List.getElem?_take,if_pos hi];simpa using ho),by rw [hb]⟩,h1,?_⟩
  rw [← h2,List.length_take,Array.length_toList,Nat.min_eq_left hk]
theorem lookT_put (st:St) (dst:Option Tmp) (v:V) (t:Nat):lookT t (st.put dst v).s = if dst = some t then v else lookT t st.s:=by
  cases dst with
  | none=>simp [St.put]
  | some d =>
    simp only [St.put,lookT,Option.some.injEq]
    by_cases h:d = t
    · subst h;simp
    · rw [if_neg h];simp [h]
theorem put_h (st:St) (dst:Option Tmp) (v:V):(st.put dst v).h = st.h:=by cases dst <;> rfl
theorem setOg_s (st:St) (dst:Option Tmp) (l:Loc):(setOg st dst l).s = st.s:=by cases dst <;> rfl
theorem setOg_h (st:St) (dst:Option Tmp) (l:Loc):(setOg st dst l).h = st.h:=by cases dst <;> rfl
theorem on_look (r:Rec) (dst:Option Tmp) (st:St) (t:Nat):lookT t (r.on dst st).s = if dst = some t then r.v else lookT t st.s:=by
  unfold Rec.on
  split
  · rw [setOg_s,lookT_put]
  · rw [lookT_put]
theorem on_h (r:Rec) (dst:Option Tmp) (st:St):(r.on dst st).h = r.eff st.h:=by
  unfold Rec.on
  split
  · rw [setOg_h,put_h]
  · rw [put_h]
theorem on_og (r:Rec) (dst:Option Tmp) (st:St) {t:Nat} {l:Loc} (h:(t,l) ∈ (r.on dst st).og):(t,l) ∈ st.og∨(dst = some t∧r.og = some l):=by
  have hput:∀ (s1:St),(t,l) ∈ (s1.put dst r.v).og→(t,l) ∈ s1.og:=by
    intro s1 h
    cases dst with
    | none=>exact h
    | some d=>simp only [St.put,List.mem_filter] at h;exact h.1
  unfold Rec.on at h
  split at h
  · rename_i l' hl
    cases dst with
    | none=>exact .inl (hput { st with h:=r.eff st.h } h)
    | some d =>
      simp only [setOg,List.mem_cons,Prod.mk.injEq] at h
      rcases h with ⟨rfl,rfl⟩ | h
      · exact .inr ⟨rfl,hl⟩
      · exact .inl (hput { st with h:=r.eff st.h } h)
  · exact .inl (hput { st with h:=r.eff st.h } h)
def Rec.plain (r:Rec):Prop:=r.fr = [] ∧ r.ob = []
theorem Rec.eff_plain {r:Rec} (h:r.plain) (hp:List Ob):r.eff hp = hp:=by unfold Rec.eff;rw [h.1,h.2];simp
theorem Rec.plainB_iff {r:Rec}:r.plainB = true ↔ r.plain:=by
  unfold Rec.plainB Rec.plain
  rw [Bool.and_eq_true,List.isEmpty_iff,List.isEmpty_iff]
theorem recA_np {o:Oper} {st:St} {r:Rec} (h:recA X call ops h0 o st = some r) (hn:¬ r.plain) :
    guardOf X ops st o = some true∧r.og = none ∧
    ((∃ t z,o.op = .alloc t∧zeroT X.P t = some z∧z.cells.all D.one = true∧r = ⟨.obj st.h.length 0,none,[Ob.cells (openZero X.P t z.cells)],[]⟩) ∨
     (∃ t p x id off n vs,o.op = .store t p x∧st.get X p = .obj id off∧sizeT X.P t = some n∧st.h[id]? = some (.cells vs) ∧
       ((st.get X x).sure = true∧(st.get X x).isTail = false∧(st.get X x).cells.length = n∧off + n≤vs.length∧(st.get X x).cells.all V.one = true∧(toDs (st.get X x).cells).isSome = true) ∧
       r = ⟨undefV,none,[],st.h.take id ++ [.cells (splice vs off (st.get X x).cells)]⟩) ∨
     (∃ c,o.op = .call c∧st.h.length = h0.length∧r.ob = [] ∧ callA call h0 (st.get X) o = some (r.v,r.fr))):=by
  unfold recA at h
  split at h
  · simp at h;subst h;exact (hn ⟨rfl,rfl⟩).elim
  · rename_i hgt
    refine ⟨hgt,?_⟩
    split at h
    · split at h
      · simp at h;subst h;exact (hn ⟨rfl,rfl⟩).elim
      · split at h <;> simp at h <;> subst h <;> exact (hn ⟨rfl,rfl⟩).elim
      · simp at h;subst h;exact (hn ⟨rfl,rfl⟩).elim
    · split at h
      · rename_i t hop
        split at h
        · rename_i z hz
          split at h
          · rename_i hc
            simp at h
            subst h
            exact ⟨rfl,.inl ⟨t,z,hop,hz,hc,rfl⟩⟩
          · cases h
        · cases h
      · simp at h;subst h;exact (hn ⟨rfl,rfl⟩).elim
      · rename_i t p x hop
        split at h
        · rename_i id off n hp hs
          split at h
          · rename_i vs hh
            split at h
            · rename_i hc
              simp only [Option.some.injEq] at h
              subst h
              exact ⟨rfl,.inr (.inl ⟨t,p,x,id,off,n,vs,hop,hp,hs,hh,hc,rfl⟩)⟩
            · cases h
          · cases h
        · cases h
      · rename_i c hop
        split at h
        · rename_i hl
          cases hca:callA call h0 (st.get X) o with
          | none=>rw [hca] at h;cases h
          | some vr =>
            rw [hca] at h
            cases h
            exact ⟨rfl,.inr (.inr ⟨c,hop,by simpa using hl,rfl,rfl⟩)⟩
        · cases h
      · cases h
  · cases h
theorem store_eff {h:List Ob} {id:Nat} {ob:Ob} {v:V} (hid:id < h.length):(⟨v,none,[],h.take id ++ [ob]⟩:Rec).eff h = h.set id ob:=by
  have hl:(h.take id ++ [ob]).length = id + 1:=by rw [List.length_append,List.length_take,Nat.min_eq_left (Nat.le_of_lt hid)];rfl
  have e:(⟨v,none,[],h.take id ++ [ob]⟩:Rec).eff h = (h.take id ++ [ob]) ++ h.drop (id + 1):=by
    unfold Rec.eff
    simp only
    cases hf:h.take id ++ [ob] with
    | nil=>simp at hf
    | cons a b=>rw [hf] at hl;simp only [hl,List.append_nil]
  rw [e,List.set_eq_take_append_cons_drop,if_pos hid]
  simp
theorem eff_get {o:Oper} {st:St} {r:Rec} (h:recA X call ops h0 o st = some r) (hle:h0.length≤st.h.length) {id:Nat} (hid:id < h0.length) (ht:r.plain∨id ∉ touches (st.get X) o r):(r.eff st.h)[id]? = st.h[id]?:=by
  by_cases hp:r.plain
  · rw [Rec.eff_plain hp]
  · have ht:=ht.resolve_left hp
    obtain ⟨_,_,⟨t,z,hop,_,_,rfl⟩ | ⟨t,p,x,id',off,n,vs,hop,hpt,_,hh,_,rfl⟩ | ⟨c,hop,_,ho,_⟩⟩:=recA_np h hp
    · show (st.h ++ _)[id]? = _
      rw [List.getElem?_append_left (by omega)]
    · have hlt:id' < st.h.length:=(List.getElem?_eq_some_iff.1 hh).1
      rw [store_eff hlt]
      have hne:id' ≠ id:=fun e=>ht (by unfold touches;rw [hop];simp only [hpt];simp [e])
      rw [List.getElem?_set_ne hne]
    · unfold Rec.eff
      rw [ho,List.append_nil]
      have hr:r.fr.length≤id:=by
        unfold touches at ht
        rw [hop] at ht
        simp only [List.mem_range] at ht
        omega
      cases hf:r.fr with
      | nil=>rfl
      | cons a b =>
        rw [hf] at hr
        rw [List.getElem?_append_right hr,List.getElem?_drop]
        congr 1
        omega
theorem eff_len {o:Oper} {st:St} {r:Rec} (h:recA X call ops h0 o st = some r) (hle:h0.length≤st.h.length) (hcl:∀ v h1,callA call h0 (st.get X) o = some (v,h1)→h1.length≤h0.length):h0.length≤(r.eff st.h).length:=by
  by_cases hp:r.plain
  · rw [Rec.eff_plain hp];exact hle
  · obtain ⟨_,_,⟨t,z,hop,_,_,rfl⟩ | ⟨t,p,x,id',off,n,vs,hop,hpt,_,hh,_,rfl⟩ | ⟨c,hop,_,ho,hca⟩⟩:=recA_np h hp
    · show _≤(st.h ++ _).length
      rw [List.length_append];omega
    · rw [store_eff (List.getElem?_eq_some_iff.1 hh).1,List.length_set];exact hle
    · unfold Rec.eff
      rw [ho,List.append_nil]
      have:=hcl _ _ hca
      cases hf:r.fr with
      | nil=>exact hle
      | cons a b =>
        rw [List.length_append,List.length_drop]
        omega
theorem callA_len {ρ:Operand→V} {o:Oper} {v:V} {h1:List Ob} (h:callA call h0 ρ o = some (v,h1)):h1.length≤h0.length:=by
  unfold callA at h
  split at h
  · split at h
    · split at h
      · split at h
        · cases h
        · split at h
          · rename_i m hm
            split at h
            · split at h
              · rename_i hc
                simp only [Option.some.injEq,Prod.mk.injEq] at h
                obtain ⟨rfl,rfl⟩:=h
                simp only [Bool.and_eq_true,beq_iff_eq] at hc
                unfold reach at hm
                have h3:=List.mem_of_find?_eq_some hm
                rw [List.mem_range] at h3
                rw [hc.1.2];omega
              · cases h
            · cases h
          · cases h
      · cases h
    · cases h
  · cases h
section
variable {S:Nat→St} {R:Nat→Rec} {B:Nat→Bk} {F:List Nat} (d:DrawOk ops k F) (ra:RunA X call N ops k h0 S R B)
theorem DrawOk.op {F:List Nat} (d:DrawOk ops k F) (i:Nat) (hi:i < k):∃ o,ops[i]? = some o:=⟨ops[i]'(by have:=d.hk;omega),Array.getElem?_eq_getElem _⟩
include d ra
theorem RunA.old (t:Nat):∀ m,m≤k→(∀ (j:Nat) (o:Oper),j < m→ops[j]? = some o→o.dst ≠ some t)→lookT t (S m).s = lookT t (S 0).s:=by
  intro m
  induction m with
  | zero=>intro _ _;rfl
  | succ m ih =>
    intro hm h
    obtain ⟨o,ho⟩:=d.op m (by omega)
    obtain ⟨_,_,h3,_⟩:=ra.step m o ho (by omega)
    rw [h3,on_look,if_neg (h m o (by omega) ho)]
    exact ih (by omega) fun j p hj hp=>h j p (by omega) hp
theorem RunA.new {j:Nat} {o:Oper} {t:Nat} (ho:ops[j]? = some o) (hd:o.dst = some t):∀ m,m≤k→j < m→lookT t (S m).s = (R j).v:=by
  intro m
  induction m with
  | zero=>intro _ h;omega
  | succ m ih =>
    intro hm hj
    obtain ⟨p,hp⟩:=d.op m (by omega)
    obtain ⟨_,_,h3,_⟩:=ra.step m p hp (by omega)
    rw [h3,on_look]
    by_cases hjm:j = m
    · subst hjm
      rw [ho] at hp
      cases hp
      rw [if_pos hd]
    · rw [if_neg fun hh=>hjm (d.dist j m o p t ho (by omega) hp (by omega) hd hh)]
      exact ih (by omega) (by omega)
theorem RunA.og (h00:(S 0).og = []):∀ m,m≤k→∀ (t:Nat) (l:Loc),(t,l) ∈ (S m).og→∃ (j:Nat) (o:Oper),j < m∧ops[j]? = some o∧o.dst = some t∧(R j).og = some l:=by
  intro m
  induction m with
  | zero=>intro _ t l h;rw [h00] at h;cases h
  | succ m ih =>
    intro hm t l h
    obtain ⟨p,hp⟩:=d.op m (by omega)
    obtain ⟨_,_,h3,_⟩:=ra.step m p hp (by omega)
    rw [h3] at h
    rcases on_og _ _ _ h with h | ⟨h,h'⟩
    · obtain ⟨j,o,h1,h2⟩:=ih (by omega) t l h
      exact ⟨j,o,by omega,h2⟩
    · exact ⟨m,p,by omega,hp,h,h'⟩
theorem RunA.num:∀ m,m≤k→(B m).i = m:=by
  intro m
  induction m with
  | zero=>intro _;rw [ra.start];rfl
  | succ m ih =>
    intro hm
    obtain ⟨p,hp⟩:=d.op m (by omega)
    obtain ⟨_,_,_,h4⟩:=ra.step m p hp (by omega)
    have e:=ih (by omega)
    unfold beside at h4
    split at h4
    · split at h4
      · split at h4
        · cases h4
        · simp only [Option.some.injEq] at h4;rw [← h4];simp only;omega
      · simp only [Option.some.injEq] at h4;rw [← h4];simp only;omega
    · split at h4
      · simp only [Option.some.injEq] at h4
        rw [← h4];simp only;omega
      · cases h4
theorem RunA.last:∀ m,m≤k→((B m).np = none∧∀ j,j < m→(R j).plain)∨∃ j,(B m).np = some j∧j < m∧¬ (R j).plain∧∀ i,j < i→i < m→(R i).plain:=by
  intro m
  induction m with
  | zero=>intro _;left;rw [ra.start];exact ⟨rfl,fun j hj=>by omega⟩
  | succ m ih =>
    intro hm
    obtain ⟨p,hp⟩:=d.op m (by omega)
    obtain ⟨_,_,_,h4⟩:=ra.step m p hp (by omega)
    have hnum:=ra.num d m (by omega)
    unfold beside at h4
    split at h4
    · rename_i hpl
      have hpl:=Rec.plainB_iff.1 hpl
      have e:(B (m + 1)).np = (B m).np:=by
        split at h4
        · split at h4
          · cases h4
          · simp only [Option.some.injEq] at h4;rw [← h4]
        · simp only [Option.some.injEq] at h4;rw [← h4]
      rw [e]
      rcases ih (by omega) with ⟨k1,k2⟩ | ⟨j,k1,k2,k3,k4⟩
      · left
        refine ⟨k1,fun j hj=>?_⟩
        by_cases hjm:j = m
        · rw [hjm];exact hpl
        · exact k2 j (by omega)
      · right
        refine ⟨j,k1,by omega,k3,fun i hi hi2=>?_⟩
        by_cases him:i = m
        · rw [him];exact hpl
        · exact k4 i hi (by omega)
    · rename_i hpl
      split at h4
      · simp only [Option.some.injEq] at h4
        right
        exact ⟨m,by rw [← h4];simp only [hnum],by omega,fun hh=>hpl (Rec.plainB_iff.2 hh),fun i h1 h2=>by omega⟩
      · cases h4
theorem RunA.order:∀ i j,j < i→i < k→¬ (R i).plain→¬ (R j).plain→Anc ops j i:=by
  intro i
  induction i using Nat.strongRecOn with
  | ind i ih =>
    intro j hji hi hni hnj
    obtain ⟨p,hp⟩:=d.op i hi
    obtain ⟨_,_,_,h4⟩:=ra.step i p hp hi
    have hnum:=ra.num d i (by omega)
    unfold beside at h4
    rw [if_neg (fun hh=>hni (Rec.plainB_iff.1 hh))] at h4
    split at h4
    · rename_i hc
      rw [Bool.and_eq_true] at hc
      rcases ra.last d i (by omega) with ⟨_,k2⟩ | ⟨j',k1,k2,k3,k4⟩
      · exact (hnj (k2 j hji)).elim
      · have hb:=hc.1
        unfold behindNp at hb
        rw [k1] at hb
        simp only [Bool.and_eq_true,hnum] at hb
        have hanc:=masks_anc hb.2
        by_cases hjj:j = j'
        · rw [hjj];exact hanc
        · have:j < j':=by
            apply Classical.byContradiction
            intro hn
            exact hnj (k4 j (by omega) hji)
          exact (ih j' k2 j this (by omega) k3 hnj).trans hanc
    · cases h4
theorem RunA.callFirst {i:Nat} {o:Oper} (hi:i < k) (ho:ops[i]? = some o) (hn:¬ (R i).plain) {c:Call} (hc:o.op = .call c):∀ j,j < i→(R j).plain:=by
  obtain ⟨_,_,_,h4⟩:=ra.step i o ho hi
  unfold beside at h4
  rw [if_neg (fun hh=>hn (Rec.plainB_iff.1 hh))] at h4
  split at h4
  · rename_i hcc
    rw [Bool.and_eq_true] at hcc
    rcases ra.last d i (by omega) with ⟨_,k2⟩ | ⟨j',k1,_⟩
    · exact k2
    · have hb:=hcc.1
      unfold behindNp at hb
      rw [k1,hc] at hb
      simp at hb
  · cases h4
theorem RunA.kept:∀ m,m≤k→(∀ (i:Nat) (o:Oper) (id:Nat),i < m→ops[i]? = some o→(R i).plain→ldOf ((S i).get X) o = some id→id ∈ (B m).lds) ∧
    (∀ (i:Nat) (o:Oper) (id:Nat),i < m→ops[i]? = some o→¬ (R i).plain→id ∈ touches ((S i).get X) o (R i)→id ∈ (B m).tch):=by
  intro m
  induction m with
  | zero=>intro _;exact ⟨fun i o id hi=>by omega,fun i o id hi=>by omega⟩
  | succ m ih =>
    intro hm
    obtain ⟨p,hp⟩:=d.op m (by omega)
    obtain ⟨_,_,_,h4⟩:=ra.step m p hp (by omega)
    obtain ⟨i1,i2⟩:=ih (by omega)
    have sub:(∀ id,id ∈ (B m).lds→id ∈ (B (m + 1)).lds)∧(∀ id,id ∈ (B m).tch→id ∈ (B (m + 1)).tch) ∧
        ((R m).plain→∀ id,ldOf ((S m).get X) p = some id→id ∈ (B (m + 1)).lds)∧(¬ (R m).plain→∀ id,id ∈ touches ((S m).get X) p (R m)→id ∈ (B (m + 1)).tch):=by
      unfold beside at h4
      split at h4
      · rename_i hpl
        have hpl:=Rec.plainB_iff.1 hpl
        split at h4
        · rename_i id0 hld
          split at h4
          · cases h4
          · simp only [Option.some.injEq] at h4
            rw [← h4]
            exact ⟨fun id h=>List.mem_cons_of_mem _ h,fun id h=>h,fun _ id h=>(by rw [hld] at h;cases h;exact List.mem_cons_self ..),fun hn=>(hn hpl).elim⟩
        · rename_i hld
          simp only [Option.some.injEq] at h4
          rw [← h4]
          exact ⟨fun id h=>h,fun id h=>h,fun _ id h=>(by rw [hld] at h;cases h),fun hn=>(hn hpl).elim⟩
      · rename_i hpl
        split at h4
        · simp only [Option.some.injEq] at h4
          rw [← h4]
          exact ⟨fun id h=>h,fun id h=>List.mem_append_right _ h,fun hh=>(hpl (Rec.plainB_iff.2 hh)).elim,fun _ id h=>List.mem_append_left _ h⟩
        · cases h4
    obtain ⟨s1,s2,s3,s4⟩:=sub
    refine ⟨fun i o id hi ho hpl hid=>?_,fun i o id hi ho hpl hid=>?_⟩
    · by_cases him:i = m
      · subst him
        rw [ho] at hp
        cases hp
        exact s3 hpl id hid
      · exact s1 _ (i1 i o id (by omega) ho hpl hid)
    · by_cases him:i = m
      · subst him
        rw [ho] at hp
        cases hp
        exact s4 hpl id hid
      · exact s2 _ (i2 i o id (by omega) ho hpl hid)
theorem RunA.apart {i j:Nat} {o p:Oper} {id:Nat} (hi:i < k) (hj:j < k) (ho:ops[i]? = some o) (hp:ops[j]? = some p) (hpl:(R i).plain) (hnj:¬ (R j).plain) (hid:ldOf ((S i).get X) o = some id):id ∉ touches ((S j).get X) p (R j):=by
  intro ht
  by_cases hij:i < j
  · have hl:=(ra.kept d j (by omega)).1 i o id hij ho hpl hid
    obtain ⟨_,_,_,h4⟩:=ra.step j p hp hj
    unfold beside at h4
    rw [if_neg (fun hh=>hnj (Rec.plainB_iff.1 hh))] at h4
    split at h4
    · rename_i hc
      rw [Bool.and_eq_true,Bool.not_eq_true'] at hc
      have:=List.any_eq_false.1 hc.2 id ht
      exact this (by simpa using hl)
    · cases h4
  · have hne:i ≠ j:=fun e=>hnj (e ▸ hpl)
    have hl:=(ra.kept d i (by omega)).2 j p id (by omega) hp hnj ht
    obtain ⟨_,_,_,h4⟩:=ra.step i o ho hi
    unfold beside at h4
    rw [if_pos (Rec.plainB_iff.2 hpl),hid] at h4
    simp only at h4
    split at h4
    · cases h4
    · rename_i hc
      exact hc (by simpa using hl)
theorem RunA.const:∀ (n m:Nat),m≤n→n≤k→(∀ j,m≤j→j < n→(R j).plain)→(S n).h = (S m).h:=by
  intro n
  induction n with
  | zero=>intro m hm _ _;rw [show m = 0 by omega]
  | succ n ih =>
    intro m hm hn h
    by_cases hmn:m = n + 1
    · rw [hmn]
    · obtain ⟨p,hp⟩:=d.op n (by omega)
      obtain ⟨_,_,h3,_⟩:=ra.step n p hp (by omega)
      rw [h3,on_h,Rec.eff_plain (h n (by omega) (by omega))]
      exact ih m (by omega) (by omega) fun j h1 h2=>h j h1 (by omega)
theorem RunA.constH {m n:Nat} (hm:m≤k) (hn:n≤k) (h:∀ j,j < k→¬ (R j).plain→(j < m ↔ j < n)):(S m).h = (S n).h:=by
  by_cases hmn:m≤n
  · exact (ra.const d n m hmn hn fun j h1 h2=>Classical.byContradiction fun hp=>by have:=(h j (by omega) hp).2 h2;omega).symm
  · exact ra.const d m n (by omega) hm fun j h1 h2=>Classical.byContradiction fun hp=>by have:=(h j (by omega) hp).1 h2;omega
theorem RunA.len (hh:(S 0).h = h0):∀ m,m≤k→h0.length≤(S m).h.length:=by
  intro m
  induction m with
  | zero=>intro _;rw [hh];exact Nat.le_refl _
  | succ m ih =>
    intro hm
    obtain ⟨p,hp⟩:=d.op m (by omega)
    obtain ⟨_,h2,h3,_⟩:=ra.step m p hp (by omega)
    rw [h3,on_h]
    exact eff_len h2 (ih (by omega)) fun v h1 hc=>callA_len hc
theorem RunA.oldBox (hh:(S 0).h = h0) {id:Nat} (hid:id < h0.length) (ht:∀ (j:Nat) (p:Oper),j < k→ops[j]? = some p→¬ (R j).plain→id ∉ touches ((S j).get X) p (R j)):∀ m,m≤k→(S m).h[id]? = h0[id]?:=by
  intro m
  induction m with
  | zero=>intro _;rw [hh]
  | succ m ih =>
    intro hm
    obtain ⟨p,hp⟩:=d.op m (by omega)
    obtain ⟨_,h2,h3,_⟩:=ra.step m p hp (by omega)
    rw [h3,on_h,eff_get h2 (ra.len d hh m (by omega)) hid]
    · exact ih (by omega)
    · by_cases hpl:(R m).plain
      · exact .inl hpl
      · exact .inr (ht m p (by omega) hp hpl)
end
end
theorem valOp_same {X:Ctx} {call:CallF} {ρ:Operand→V} {h h2:List Ob} {o:Oper} {v:V} (hld:∀ id,ldOf ρ o = some id→id < h.length→h2[id]? = h[id]?) (hv:valOp X call ρ h o = some v):valOp X call ρ h2 o = some v:=by
  unfold valOp at hv ⊢
  cases hop:o.op <;> simp only [hop] at hv ⊢ <;> first | exact hv | skip
  rename_i t p
  unfold loadOp at hv ⊢
  split at hv
  · exact hv
  · rename_i id off hp
    have hid:=hld id (by unfold ldOf;rw [hop];simp only [hp])
    cases hh:h[id]? with
    | none=>rw [hh] at hv;cases hv
    | some ob =>
      rw [hid (List.getElem?_eq_some_iff.1 hh).1,hh]
      rw [hh] at hv
      exact hv
  · cases hv
section
variable {X:Ctx} {base N k:Nat} {call:CallF} {ops:Array Oper} {h0:List Ob}
theorem on_og_keep {r:Rec} {dst:Option Tmp} {st:St} {t:Nat} {l:Loc} (h:(t,l) ∈ st.og) (h1:dst ≠ some t) (h2:∀ u,l = .slot u→dst ≠ some u):(t,l) ∈ (r.on dst st).og:=by
 have hput:(t,l) ∈ (({ st with h:=r.eff st.h }:St).put dst r.v).og:=by
  cases dst with
  | none=>exact h
  | some d =>
   simp only [St.put,List.mem_filter,Bool.and_eq_true,bne_iff_ne,ne_eq]
   exact ⟨h,fun hh=>h1 (by rw [hh]),fun hh=>h2 d hh rfl⟩
 unfold Rec.on
 split
 ·cases dst with
  | none=>exact hput
  | some d=>exact List.mem_cons_of_mem _ hput
 ·exact hput
theorem on_og_new {r:Rec} {st:St} {t:Nat} {l:Loc} (h:r.og = some l):(t,l) ∈ (r.on (some t) st).og:=by
 unfold Rec.on
 rw [h]
 exact List.mem_cons_self
theorem recA_og {o:Oper} {st:St} {r:Rec} {u:Nat} (h:recA X call ops h0 o st = some r) (hr:r.og = some (.slot u)):u ∈ o.looksAt ops:=by
 unfold recA at h
 split at h
 ·simp at h;subst h;cases hr
 ·split at h
  ·split at h
   ·rename_i t hop
    simp at h
    subst h
    simp at hr
    subst hr
    refine List.mem_append_left _ (List.mem_filterMap.2 ⟨.tmp t,?_,rfl⟩)
    rw [hop];simp [Op.operands]
   ·split at h <;> simp at h <;> subst h <;> cases hr
   ·simp at h;subst h;cases hr
  ·split at h
   ·split at h
    ·split at h
     ·simp at h;subst h;cases hr
     ·cases h
    ·cases h
   ·simp at h;subst h;cases hr
   ·split at h
    ·split at h
     ·split at h
      ·simp only [Option.some.injEq] at h;subst h;cases hr
      ·cases h
     ·cases h
    ·cases h
   ·split at h
    ·cases hca:callA call h0 (st.get X) o with
     | none=>rw [hca] at h;cases h
     | some vr=>rw [hca] at h;cases h;cases hr
    ·cases h
   ·cases h
 ·cases h
theorem recA_og2 {o:Oper} {st:St} {r:Rec} {id off:Nat} (h:recA X call ops h0 o st = some r) (hr:r.og = some (.cell id off)):ldOf (st.get X) o = some id:=by
 unfold recA at h
 split at h
 ·simp at h;subst h;cases hr
 ·split at h
  ·split at h
   ·rename_i t hop
    simp at h;subst h;cases hr
   ·rename_i t p hop
    split at h
    ·rename_i id' off' hag hp
     simp at h;subst h
     simp at hr
     unfold ldOf
     rw [hop]
     simp only [hp,hr.1]
    ·simp at h;subst h;cases hr
   ·simp at h;subst h;cases hr
  ·split at h
   ·split at h
    ·split at h
     ·simp at h;subst h;cases hr
     ·cases h
    ·cases h
   ·simp at h;subst h;cases hr
   ·split at h
    ·split at h
     ·split at h
      ·simp only [Option.some.injEq] at h;subst h;cases hr
      ·cases h
     ·cases h
    ·cases h
   ·split at h
    ·cases hca:callA call h0 (st.get X) o with
     | none=>rw [hca] at h;cases h
     | some vr=>rw [hca] at h;cases h;cases hr
    ·cases h
   ·cases h
 ·cases h
theorem callA_spec {ρ:Operand→V} {o:Oper} {v:V} {h1:List Ob} (h:callA call h0 ρ o = some (v,h1)):∃ c f g a b,o.op = .call c∧c.callee = .value f∧calleeOf (ρ f) = some (g,a,b)∧call.i g (a ++ copies ρ c.args ++ b) (h0.take h1.length) = some (v,h1) ∧
  v.pure = true∧h1.length≤h0.length∧(a ++ copies ρ c.args ++ b).all (V.low h1.length) = true∧(h0.take h1.length).all (Ob.low h1.length) = true∧h1 ≠ []:=by
 unfold callA at h
 split at h
 ·rename_i c hop
  split at h
  ·rename_i f hf
   split at h
   ·rename_i g a b hcal
    split at h
    ·cases h
    ·split at h
     ·rename_i m hm
      split at h
      ·rename_i v' h1' hcall
       split at h
       ·rename_i hc
        simp only [Option.some.injEq,Prod.mk.injEq] at h
        obtain ⟨rfl,rfl⟩:=h
        simp only [Bool.and_eq_true,beq_iff_eq] at hc
        obtain ⟨⟨hp,hl⟩,hm0⟩:=hc
        unfold reach at hm
        have h2:=List.find?_some hm
        have h3:=List.mem_of_find?_eq_some hm
        rw [List.mem_range] at h3
        simp only [Bool.and_eq_true] at h2
        rw [hl]
        refine ⟨c,f,g,a,b,hop,hf,hcal,hcall,hp,by omega,h2.1,h2.2,fun e=>?_⟩
        rw [e] at hl
        simp at hl
        rw [← hl] at hm0
        simp at hm0
       ·cases h
      ·cases h
     ·cases h
   ·cases h
  ·cases h
 ·cases h
theorem stepA_sound {o:Oper} {st sR:St} {r:Rec} {a:Act} {w:World} {g:Gh} (h:recA X call ops h0 o st = some r) (hop:∀ x ∈ o.op.operands,st.get X x = sR.get X x) (hg:guardOf X ops st o = guardOf X ops sR o)
  (hpl:r.plain→∀ id,ldOf (st.get X) o = some id→id < h0.length→sR.h[id]? = h0[id]?) (hnp:¬ r.plain→sR.h = st.h) (hca:∀ c,o.op = .call c→¬ r.plain→st.h = h0)
  (hog:¬ r.plain→∀ (t id j:Nat),(t,Loc.cell id j) ∈ sR.og→id ∉ touches (st.get X) o r) (hN:dstOk N o = true) (rl:Rel X base N sR a w g) (hc:CallPOk X call) (hci:CallIOk X call) {K:Act→World→Prop} {Q:Exit→Act→World→Prop}
  (hK:Goes X base N (r.on o.dst sR) g w K):if Region.wanted o (yielded ops a.tmps) then o.wp X.P a w K Q∨(o.asks X.P a w∧LetsOut Q) else K (a.put o.dst undef) w:=by
 have app:({ sR with h:=sR.h ++ [] }:St) = sR:=by simp
 have h':=h
 unfold recA at h
 rw [hg] at h
 split at h
 ·rename_i hgf
  simp at h
  subst h
  rw [if_neg (by rw [guard_sound hgf rl];simp)]
  refine hK _ w g (Later.refl g w) ?_
  simp only [Rec.on,Rec.eff,app]
  exact rl.put hN fun d _=>.d _ _ _ (.tup [] [] rfl (by intro j v d hj;simp at hj))
 ·rename_i hgt
  rw [if_pos (guard_sound hgt rl)]
  left
  split at h
  ·rename_i v hv
   have hrp:r.plain:=by
    split at h
    ·simp at h;subst h;exact ⟨rfl,rfl⟩
    ·split at h <;> simp at h <;> subst h <;> exact ⟨rfl,rfl⟩
    ·simp at h;subst h;exact ⟨rfl,rfl⟩
   have hv':valOp X call (st.get X) sR.h o = some v:=valOp_same (hpl hrp) hv
   have plain:r = ⟨v,none,[],[]⟩ → o.wp X.P a w K Q:=by
    rintro rfl
    simp only [Rec.on,Rec.eff,app] at hK
    refine val_sound hv' (fun y hy=>by rw [hop y hy];exact rl.get y) rl.sit hc (dstPos_pos o) (fun u w' g' k hr=>?_)
    refine hK _ w' g' (k.later rl.sit.fresh) ((rl.keep k).put hN fun d hd=>?_)
    rw [← dstPos_eq hd]
    exact hr
   split at h
   ·rename_i t hopm
    simp at h
    subst h
    have hvv:v = (sR.get X (.tmp t)).copy:=by
     have hx:=hop (.tmp t) (by rw [hopm];simp [Op.operands])
     unfold valOp at hv';rw [hopm] at hv';simp at hv';rw [← hv',hx]
    subst hvv
    simp only [Rec.on,Rec.eff,app] at hK
    exact step_move hopm hN rl hK
   ·rename_i t p hopl
    have hx:=hop p (by rw [hopl];simp [Op.operands])
    split at h
    ·rename_i id off hag hp
     simp at h
     subst h
     rw [hx] at hp
     simp only [Rec.on,Rec.eff,app] at hK
     have hl:loadOp X (sR.get X) sR.h t p = some v:=by
      unfold valOp at hv';rw [hopl] at hv'
      unfold loadOp at hv' ⊢
      rw [← hx];exact hv'
     exact step_load hopl hag hp hl hN rl hK
    ·simp at h;exact plain h.symm
   ·simp at h;exact plain h.symm
  ·split at h
   ·rename_i t hopa
    split at h
    ·rename_i z hz
     split at h
     ·rename_i hcnd
      simp at h
      subst h
      have hh':sR.h = st.h:=hnp (fun hh=>by have:=hh.2;simp at this)
      have hl:sR.h.length = st.h.length:=by rw [hh']
      simp only [Rec.on,Rec.eff] at hK
      rw [← hl] at hK
      exact step_alloc hopa hz hN rl hK
     ·cases h
    ·cases h
   ·rename_i x hopa
    simp at h
    subst h
    simp only [Rec.on,Rec.eff,app] at hK
    have hx:=hop x (by rw [hopa];simp [Op.operands])
    rw [hx] at hK
    obtain ⟨q,hq⟩:=rl.get x
    exact step_plain (v:=a.eval x) (by unfold execOp;simp [hopa]) (fun p=>hq.copy) hN rl hK
   ·rename_i t p x hops
    have hxp:=hop p (by rw [hops];simp [Op.operands])
    have hxx:=hop x (by rw [hops];simp [Op.operands])
    split at h
    ·rename_i id off n hp hs
     split at h
     ·rename_i vs hh
      split at h
      ·rename_i hcnd
       simp only [Option.some.injEq] at h
       subst h
       obtain ⟨c1,c2,c3,c4,c5,c6⟩:=hcnd
       have hnpl:¬ (⟨undefV,none,[],st.h.take id ++ [.cells (splice vs off (st.get X x).cells)]⟩:Rec).plain:=fun hh=>by have:=hh.1;simp at this
       have hh':sR.h = st.h:=hnp hnpl
       have hid:id < st.h.length:=(List.getElem?_eq_some_iff.1 hh).1
       have hlc:∀ ts,x = .tmp ts→locCopy sR (.slot ts) = sR:=by
        rintro ts rfl
        simp only [locCopy]
        rw [hxx] at c2
        simp only [St.get] at c2
        split
        ·rename_i E c n' he;rw [he] at c2;simp [V.isTail] at c2
        ·rfl
       have hfil:sR.og.filter (fun y=>match y.2 with | .cell i _=>i != id | _=>true) = sR.og:=by
        rw [List.filter_eq_self]
        rintro ⟨t',l⟩ hm
        cases l with
        | slot u=>rfl
        | cell i j =>
         have:=hog hnpl t' i j hm
         unfold touches at this
         rw [hops] at this
         simp only [hp,List.mem_singleton] at this
         simpa using this
       have hst:storeOp X base sR t p x = some { s:=sR.s,h:=sR.h.set id (.cells (splice vs off (st.get X x).cells)),og:=sR.og }:=by
        unfold storeOp
        rw [← hxp,hp,hs]
        simp only
        rw [hh',hh]
        simp only
        rw [← hxx,if_pos ⟨c1,c3,c4,c5,.inr c6⟩]
        cases x with
        | tmp ts=>simp only [hlc ts rfl,hh'];exact congrArg (fun l=>some (St.mk _ _ l)) hfil
        | _=>simp only [hh'];exact congrArg (fun l=>some (St.mk _ _ l)) hfil
       refine step_store hops hst hN rl ?_
       have e:(⟨undefV,none,[],st.h.take id ++ [.cells (splice vs off (st.get X x).cells)]⟩:Rec).eff sR.h = sR.h.set id (.cells (splice vs off (st.get X x).cells)):=by
        rw [hh'];exact store_eff hid
       simp only [Rec.on,e] at hK
       exact hK
      ·cases h
     ·cases h
    ·cases h
   ·split at h
    ·cases hcaa:callA call h0 (st.get X) o with
     | none=>rw [hcaa] at h;cases h
     | some vr =>
      obtain ⟨y,h1⟩:=vr
      rw [hcaa] at h
      cases h
      obtain ⟨c,f,gf,ca,cb,hopc,hf,hcal,hcall,hy,hle,hargs,hlow,hne⟩:=callA_spec hcaa
      have hxf:=hop f (by rw [hopc];simp [Op.operands,Call.operands,hf])
      have hxs:copies (st.get X) c.args = copies (sR.get X) c.args:=by
       unfold copies
       apply List.map_congr_left
       intro x hx
       rw [hop x (by rw [hopc];simp only [Op.operands,Call.operands,hf];simp at hx;simp [hx])]
      have hnpl:¬ (⟨y,none,[],h1⟩:Rec).plain:=fun hh=>hne hh.1
      have hh':sR.h = h0:=(hnp hnpl).trans (hca c hopc hnpl)
      rw [hxf] at hcal
      rw [hxs,← hh'] at hcall
      rw [hxs] at hargs
      rw [← hh'] at hle hlow
      refine step_callF hopc hf hcal hcall rfl hle hargs hlow hy (fun t id j hm=>?_) hci hN rl ?_
      ·have:=hog hnpl t id j hm
       unfold touches at this
       rw [hopc] at this
       simp only [List.mem_range] at this
       omega
      have e:(⟨y,none,[],h1⟩:Rec).eff sR.h = h1 ++ sR.h.drop h1.length:=by
       unfold Rec.eff
       simp only
       cases hf1:h1 with
       | nil=>exact (hne hf1).elim
       | cons a b=>simp
      simp only [Rec.on,e] at hK
      exact hK
    ·cases h
   ·cases h
 ·cases h
structure InvA (ops:Array Oper) (k:Nat) (h0:List Ob) (S:Nat→St) (R:Nat→Rec) (L:Array Bool) (sR:St):Prop where
 c1:∀ (j:Nat) (o:Oper) (t:Nat),j < k→L[j]? = some true→ops[j]? = some o→o.dst = some t→lookT t sR.s = (R j).v
 c2:∀ t:Nat,(∀ (j:Nat) (o:Oper),j < k→L[j]? = some true→ops[j]? = some o→o.dst ≠ some t)→lookT t sR.s = lookT t (S 0).s
 c3:∃ m,m≤k∧sR.h = (S m).h∧∀ j,j < k→¬ (R j).plain→(L[j]? = some true ↔ j < m)
 c4:∀ (j:Nat) (o:Oper) (t:Nat) (l:Loc),j < k→L[j]? = some true→ops[j]? = some o→o.dst = some t→(R j).og = some l→(t,l) ∈ sR.og
 c5:∀ (t:Nat) (l:Loc),(t,l) ∈ sR.og→∃ (j:Nat) (o:Oper),j < k∧ops[j]? = some o∧(R j).og = some l
variable {S:Nat→St} {R:Nat→Rec} {B:Nat→Bk} {F:List Nat} {L:Array Bool} {sR:St}
theorem InvA.at (d:DrawOk ops k F) (ra:RunA X call N ops k h0 S R B) (inv:InvA ops k h0 S R L sR) (hcl:Closed ops L) {i:Nat} (hi:i < k) (hL:L[i]? = some false) (hr:∀ p,ops[i]? = some p→∀ j ∈ directs p,L[j]? = some true) (hn:¬ (R i).plain) :
  sR.h = (S i).h∧∀ j,j < k→¬ (R j).plain→(L[j]? = some true ↔ j < i):=by
 obtain ⟨m,hm,h1,h2⟩:=inv.c3
 have key:∀ j,j < k→¬ (R j).plain→(L[j]? = some true ↔ j < i):=fun j hj hnj=>by
  constructor
  ·intro hl
   apply Classical.byContradiction
   intro hge
   by_cases hji:j = i
   ·rw [hji,hL] at hl;simp at hl
   ·have hanc:=ra.order d j i (by omega) hj hnj hn
    have:=hcl.anc hanc fun q hq=>hcl j q hq hl
    rw [hL] at this
    simp at this
  ·intro hji
   exact hcl.anc (ra.order d i j hji hi hn hnj) hr
 exact ⟨h1.trans (ra.constH d hm (by omega) fun j hj hnj=>(h2 j hj hnj).symm.trans (key j hj hnj)),key⟩
theorem InvA.set (d:DrawOk ops k F) (ra:RunA X call N ops k h0 S R B) (h00:(S 0).h = h0) (inv:InvA ops k h0 S R L sR) (hcl:Closed ops L) {i:Nat} {o:Oper} (hi:i < k) (ho:ops[i]? = some o) (hL:L[i]? = some false) (hr:∀ p,ops[i]? = some p→∀ j ∈ directs p,L[j]? = some true) :
  InvA ops k h0 S R (L.setIfInBounds i true) ((R i).on o.dst sR) where
 c1:=fun j p t hj hl hp hd=>by
  rw [on_look]
  rw [listed_set hL] at hl
  by_cases hji:j = i
  ·subst hji
   rw [ho] at hp
   cases hp
   rw [if_pos hd]
  ·rw [if_neg fun hh=>hji (d.dist j i p o t hp hj ho hi hd hh)]
   exact inv.c1 j p t hj (hl.resolve_left hji) hp hd
 c2:=fun t h=>by
  rw [on_look,if_neg (h i o hi ((listed_set hL).2 (.inl rfl)) ho)]
  exact inv.c2 t fun j p hj hl hp=>h j p hj ((listed_set hL).2 (.inr hl)) hp
 c3:=by
  rw [on_h]
  by_cases hb:(R i).plain
  ·rw [Rec.eff_plain hb]
   obtain ⟨m,hm,h1,h2⟩:=inv.c3
   refine ⟨m,hm,h1,fun j hj hnj=>?_⟩
   rw [listed_set hL,← h2 j hj hnj]
   constructor
   ·rintro (rfl | h)
    ·exact (hnj hb).elim
    ·exact h
   ·exact .inr
  ·obtain ⟨h1,h2⟩:=inv.at d ra hcl hi hL hr hb
   obtain ⟨_,_,h3,_⟩:=ra.step i o ho hi
   refine ⟨i + 1,by omega,by rw [h1,h3,on_h],fun j hj hnj=>?_⟩
   rw [listed_set hL,h2 j hj hnj]
   omega
 c4:=fun j p t l hj hl hp hd hog=>by
  rw [listed_set hL] at hl
  by_cases hji:j = i
  ·subst hji
   rw [ho] at hp
   cases hp
   rw [hd]
   exact on_og_new hog
  ·have hlj:=hl.resolve_left hji
   refine on_og_keep (inv.c4 j p t l hj hlj hp hd hog) (fun hh=>hji (d.dist j i p o t hp hj ho hi hd hh)) fun u hu hh=>?_
   subst hu
   obtain ⟨_,h2,_⟩:=ra.step j p hp hj
   have hlook:=recA_og h2 hog
   obtain ⟨_,hanc⟩:=d.look j i p o u hp hj hlook ho hi hh
   have:=hcl.anc hanc fun q hq=>hcl j q hq hlj
   rw [hL] at this
   simp at this
 c5:=fun t l h=>by
  rcases on_og _ _ _ h with h | ⟨_,h⟩
  ·exact inv.c5 t l h
  ·exact ⟨i,o,hi,ho,h⟩
theorem InvA.see (d:DrawOk ops k F) (ra:RunA X call N ops k h0 S R B) (inv:InvA ops k h0 S R L sR) (hcl:Closed ops L) {i:Nat} {o:Oper} (hi:i < k) (ho:ops[i]? = some o) (hr:∀ p,ops[i]? = some p→∀ j ∈ directs p,L[j]? = some true) {t:Nat} (ht:t ∈ o.looksAt ops) :
  lookT t (S i).s = lookT t sR.s:=by
 by_cases h:∃ (j:Nat) (p:Oper),j < k∧ops[j]? = some p∧p.dst = some t
 ·obtain ⟨j,p,hj,hp,hd⟩:=h
  obtain ⟨h1,h2⟩:=d.look i j o p t ho hi ht hp hj hd
  have hl:=hcl.anc h2 hr
  rw [ra.new d hp hd i (by omega) h1,inv.c1 j p t hj hl hp hd]
 ·have hno:∀ (j:Nat) (p:Oper),j < k→ops[j]? = some p→p.dst ≠ some t:=fun j p hj hp hd=>h ⟨j,p,hj,hp,hd⟩
  rw [ra.old d t i (by omega) fun j p hj hp=>hno j p (by omega) hp,inv.c2 t fun j p hj _ hp=>hno j p hj hp]
theorem InvA.done (d:DrawOk ops k F) (ra:RunA X call N ops k h0 S R B) (h00:(S 0).h = h0) (hog:(S 0).og = []) (inv:InvA ops k h0 S R L sR) (hall:∀ j,j < k→L[j]? = some true) {a:Act} {w:World} {g:Gh} (rl:Rel X base N sR a w g):Rel X base N (S k) a w g:=by
 have hh:sR.h = (S k).h:=by
  obtain ⟨m,hm,h1,h2⟩:=inv.c3
  exact h1.trans (ra.constH d hm (Nat.le_refl _) fun j hj hnj=>(h2 j hj hnj).symm.trans ⟨fun _=>hj,fun _=>hall j hj⟩)
 refine ⟨rl.defers,rl.size,fun t=>?_,?_,?_,fun t l hm=>?_⟩
 ·have:lookT t (S k).s = lookT t sR.s:=by
   by_cases h:∃ (j:Nat) (p:Oper),j < k∧ops[j]? = some p∧p.dst = some t
   ·obtain ⟨j,p,hj,hp,hd⟩:=h
    rw [ra.new d hp hd k (Nat.le_refl _) hj,inv.c1 j p t hj (hall j hj) hp hd]
   ·have hno:∀ (j:Nat) (p:Oper),j < k→ops[j]? = some p→p.dst ≠ some t:=fun j p hj hp hd=>h ⟨j,p,hj,hp,hd⟩
    rw [ra.old d t k (Nat.le_refl _) hno,inv.c2 t fun j p hj _ hp=>hno j p hj hp]
  rw [this]
  exact rl.slots t
 ·rw [← hh];exact rl.sit
 ·rw [← hh];exact rl.low
 ·obtain ⟨j,o,h1,h2,h3,h4⟩:=ra.og d hog k (Nat.le_refl _) t l hm
  exact rl.og t l (inv.c4 j o t l h1 (hall j h1) h2 h3 h4)
theorem guardOf_see {st sR:St} {o:Oper} (h:∀ t,t ∈ o.looksAt ops→lookT t st.s = lookT t sR.s):guardOf X ops st o = guardOf X ops sR o:=by
 unfold guardOf
 cases hg:o.guard with
 | none=>rfl
 | some jw =>
  obtain ⟨j,want⟩:=jw
  simp only
  cases ht:(ops[j]?).bind (·.dst) with
  | none=>rfl
  | some t =>
   have:t ∈ o.looksAt ops:=by
    refine List.mem_append_right _ ?_
    rw [hg]
    simp only [ht]
    simp
   simp only [St.get]
   rw [h t this]
def Phase (X:Ctx) (call:CallF) (base N:Nat) (ops:Array Oper) (k:Nat) (h0:List Ob) (S:Nat→St) (R:Nat→Rec) (stE:St) (L:Array Bool) (a:Act) (w:World) (g:Gh):Prop :=
 ((∀ i,k≤i→L[i]? ≠ some true)∧∃ sR,InvA ops k h0 S R L sR∧Rel X base N sR a w g) ∨
 ∃ m st,k≤m∧m≤ops.size∧(∀ j,L[j]? = some true ↔ j < m)∧runOps X call base N ops (ops.toList.drop m) st = some stE∧Rel X base N st a w g
section
variable {stE:St} {a:Act} {w:World} {g:Gh}
theorem Phase.second (d:DrawOk ops k F) (ra:RunA X call N ops k h0 S R B) (h00:(S 0).h = h0) (hog:(S 0).og = []) (hB:runOps X call base N ops (ops.toList.drop k) (S k) = some stE) (h:Phase X call base N ops k h0 S R stE L a w g) (hall:∀ j,j < k→L[j]? = some true) :
  ∃ m st,k≤m∧m≤ops.size∧(∀ j,L[j]? = some true ↔ j < m)∧runOps X call base N ops (ops.toList.drop m) st = some stE∧Rel X base N st a w g:=by
 rcases h with ⟨h1,sR,h2,h3⟩ | h
 ·refine ⟨k,S k,Nat.le_refl _,d.hk,fun j=>⟨fun hj=>?_,hall j⟩,hB,h2.done d ra h00 hog hall h3⟩
  apply Classical.byContradiction
  intro hn
  exact h1 j (by omega) hj
 ·exact h
theorem draw_any {md:Region.Mode} (hmd:∀ L:Array Bool,L.size = ops.size→Region.ready md ops L = [] → ∀ i,i < ops.size→L[i]? = some true) (d:DrawOk ops k F) (hc:CallPOk X call) (hci:CallIOk X call) (ra:RunA X call N ops k h0 S R B) (h00:(S 0).h = h0) (hog:(S 0).og = []) (hB:runOps X call base N ops (ops.toList.drop k) (S k) = some stE) {Q:Exit→Act→World→Prop} {g0:Gh} {w0:World} (hK:Goes X base N stE g0 w0 (fun a w=>Q .normal a w)) :
  ∀ (fuel:Nat) (L:Array Bool) (a:Act) (w:World) (g:Gh),unl L = fuel→L.size = ops.size→Closed ops L→(∀ j ∈ F,L[j]? = some true)→Later g0 w0 g w→Phase X call base N ops k h0 S R stE L a w g→wpAny X.P md ops Q fuel L a w:=by
 have fin:∀ (L:Array Bool) (a:Act) (w:World) (g:Gh),L.size = ops.size→Later g0 w0 g w→Phase X call base N ops k h0 S R stE L a w g→(∀ i,i < ops.size→L[i]? = some true)→Q .normal a w:=by
  intro L a w g hs hl hp hall
  obtain ⟨m,st,h1,h2,h3,h4,h5⟩:=hp.second d ra h00 hog hB fun j hj=>hall j (by have:=d.hk;omega)
  have hm:m = ops.size:=by
   apply Classical.byContradiction
   intro hn
   have:=(h3 m).1 (hall m (by omega))
   omega
  subst hm
  rw [show ops.toList.drop ops.size = [] by simp] at h4
  simp [runOps] at h4
  subst h4
  exact hK a w g hl h5
 intro fuel
 induction fuel with
 | zero =>
  intro L a w g hu hs hcl hF hl hp
  have hall:∀ i,i < ops.size→L[i]? = some true:=fun i hi=>unl_zero hu (by omega)
  refine ⟨?_,fin L a w g hs hl hp hall⟩
  apply List.eq_nil_iff_forall_not_mem.2
  intro i hi
  have h1:=(ready_md hs hi).1
  have hlt:=(Array.getElem?_eq_some_iff.1 h1).1
  rw [hall i (by omega)] at h1
  simp at h1
 | succ fuel ih =>
  intro L a w g hu hs hcl hF hl hp
  refine ⟨fun hr=>fin L a w g hs hl hp (hmd L hs hr),fun i hi=>?_⟩
  obtain ⟨hi1,hi2⟩:=ready_md hs hi
  have hlt:i < ops.size:=by have:=(Array.getElem?_eq_some_iff.1 hi1).1;omega
  have ho:ops[i]? = some ops[i]:=Array.getElem?_eq_getElem hlt
  generalize ops[i] = o at ho
  have hcl':=hcl.set hi1 hi2
  have hF':∀ j ∈ F,(L.setIfInBounds i true)[j]? = some true:=fun j hj=>(listed_set hi1).2 (.inr (hF j hj))
  have hs':(L.setIfInBounds i true).size = ops.size:=by simpa using hs
  have hu':unl (L.setIfInBounds i true) = fuel:=by have:=unl_set hi1;omega
  have nl:L[i]? ≠ some true:=by rw [hi1];simp
  unfold wpOp
  simp only [ho]
  by_cases hik:i < k
  ·rcases hp with ⟨h1,sR,inv,rl⟩ | ⟨m,st,h1,h2,h3,_⟩
   ·obtain ⟨hN,hrec,hnext,_⟩:=ra.step i o ho hik
    have hsee:∀ t,t ∈ o.looksAt ops→lookT t (S i).s = lookT t sR.s:=fun t ht=>inv.see d ra hcl hik ho hi2 ht
    have hhs:(R i).plain→∀ id,ldOf ((S i).get X) o = some id→id < h0.length→sR.h[id]? = h0[id]?:=fun hpl id hid hlt' => by
     obtain ⟨m,hm,h1,_⟩:=inv.c3
     rw [h1]
     exact ra.oldBox d h00 hlt' (fun j p hj hp hnj=>ra.apart d hik hj ho hp hpl hnj hid) m hm
    have hogs:¬ (R i).plain→∀ (t id j:Nat),(t,Loc.cell id j) ∈ sR.og→id ∉ touches ((S i).get X) o (R i):=fun hn t id j hm=>by
     obtain ⟨j',o',h1,h2,h3⟩:=inv.c5 t _ hm
     obtain ⟨_,h4,_,_⟩:=ra.step j' o' h2 h1
     have hpl:(R j').plain:=by
      apply Classical.byContradiction
      intro hn'
      have:=(recA_np h4 hn').2.1
      rw [h3] at this
      cases this
     exact ra.apart d h1 hik h2 ho hpl hn (recA_og2 h4 h3)
    have hnps:¬ (R i).plain→sR.h = (S i).h:=fun hn=>(inv.at d ra hcl hik hi1 hi2 hn).1
    have hcas:∀ c,o.op = .call c→¬ (R i).plain→(S i).h = h0:=fun c hcc hn=>by
     rw [← h00]
     exact ra.const d i 0 (Nat.zero_le _) (by omega) fun j _ hj=>ra.callFirst d hik ho hn hcc j hj
    refine stepA_sound hrec (fun x hx=>?_) (guardOf_see hsee) hhs hnps hcas hogs hN rl hc hci fun a' w' g' l' r' => ?_
    ·cases x with
     | tmp t=>exact hsee t (List.mem_append_left _ (List.mem_filterMap.2 ⟨.tmp t,by simpa using hx,rfl⟩))
     | _=>rfl
    ·refine ih _ a' w' g' hu' hs' hcl' hF' (hl.trans l') (.inl ⟨fun j hj hjl=>?_,_,inv.set d ra h00 hcl hik ho hi1 hi2,r'⟩)
     rw [listed_set hi1] at hjl
     rcases hjl with rfl | hjl
     ·omega
     ·exact h1 j hj hjl
   ·exact (nl ((h3 i).2 (by omega))).elim
  ·have hbelow:∀ j,j < i→L[j]? = some true:=fun j hj=>(d.full i (by omega) hlt j hj).elim (fun h=>hcl.anc h hi2) (hF j)
   obtain ⟨m,st,h1,h2,h3,h4,rl⟩:=hp.second d ra h00 hog hB fun j hj=>hbelow j (by omega)
   have hmi:m = i:=by
    have e1:¬ i < m:=fun hh=>nl ((h3 i).2 hh)
    have e2:¬ m < i:=fun hh=>by have:=(h3 m).1 (hbelow m hh);omega
    omega
   subst hmi
   have hdrop:ops.toList.drop m = o :: ops.toList.drop (m + 1):=by
    rw [List.drop_eq_getElem_cons (by simpa using hlt)]
    congr 1
    have:=Array.getElem?_eq_some_iff.1 ho
    simpa using this.2
   rw [hdrop] at h4
   simp only [runOps] at h4
   have ph:∀ (st1:St) (a':Act) (w':World) (g':Gh),runOps X call base N ops (ops.toList.drop (m + 1)) st1 = some stE→Rel X base N st1 a' w' g' → Phase X call base N ops k h0 S R stE (L.setIfInBounds m true) a' w' g':=by
    intro st1 a' w' g' hrun r'
    refine .inr ⟨m + 1,st1,by omega,by omega,fun j=>?_,hrun,r'⟩
    rw [listed_set hi1,h3 j]
    omega
   split at h4
   ·rename_i hN
    split at h4
    ·rename_i hg
     rw [if_pos (guard_sound hg rl)]
     left
     split at h4
     ·rename_i st1 hst
      exact stepAll_sound hst hN rl hc hci fun a' w' g' l' r' => ih _ a' w' g' hu' hs' hcl' hF' (hl.trans l') (ph st1 a' w' g' h4 r')
     ·cases h4
    ·rename_i hg
     rw [if_neg (by rw [guard_sound hg rl];simp)]
     exact ih _ _ w g hu' hs' hcl' hF' hl (ph _ _ w g h4 (rl.put hN fun d _=>.d _ _ _ (.tup [] [] rfl (by intro j v d hj;simp at hj))))
    ·cases h4
   ·cases h4
theorem wp_region_any' {X:Ctx} {ops:Array Oper} {Q:Exit→Act→World→Prop} {id:Nat} {a:Act} {w:World} (hm:drawGo X ops = true)
  (h:∀ md,(md = .any∨backAll ops = true∨prog md ops = true)→wpAny X.P md ops Q ops.size (Array.replicate ops.size false) a { w with drawn:=w.drawn + 1 }):(Code.region id ops true).wp X.P Q a w :=
 wp_region_draw fun t=>by
  unfold Region.schedule
  split
  ·exact wpAny_sound ops.size t _ a _ (h .any (.inl rfl))
  ·rename_i hn
   unfold drawGo at hm
   rw [Bool.or_eq_true,Bool.or_eq_true] at hm
   refine wpAny_sound ops.size (t / 2) _ a _ (h _ (.inr ?_))
   rcases hm with (h1 | h1) | h1
   ·exact absurd h1 hn
   ·exact .inl h1
   ·rw [Bool.and_eq_true] at h1
    right
    split
    ·exact h1.1
    ·exact h1.2
theorem freeMv_spec {j:Nat} (h:freeMv ops j = true):∃ o t d,ops[j]? = some o∧o.op = .move (.tmp t)∧o.guard = none∧o.after = #[] ∧ o.dst = some d∧Region.free .any ops (Array.replicate ops.size false) j = true:=by
 unfold freeMv at h
 split at h
 ·rename_i o ho
  simp only [Bool.and_eq_true,beq_iff_eq,Option.isNone_iff_eq_none] at h
  obtain ⟨⟨⟨⟨h1,h2⟩,h3⟩,h4⟩,h5⟩:=h
  obtain ⟨d,hd⟩:=Option.isSome_iff_exists.1 h4
  split at h1
  ·rename_i t hop
   exact ⟨o,t,d,ho,hop,h2,Array.eq_empty_of_size_eq_zero h3,hd,h5⟩
  ·cases h1
 ·cases h
theorem hoist {md:Region.Mode} (d:DrawOk ops k F) (ra:RunA X call N ops k h0 S R B) (h00:(S 0).h = h0) {Q:Exit→Act→World→Prop} (hQ:∀ c a w,¬ Q (.panic c) a w) :
  ∀ (fs:List Nat),(∀ j ∈ fs,j ∈ F)→fs.Nodup→∀ (fuel:Nat) (L:Array Bool) (a:Act) (sR:St) (g:Gh),L.size = ops.size→(∀ j ∈ fs,L[j]? = some false)→Closed ops L→(∀ i,k≤i→L[i]? ≠ some true)→InvA ops k h0 S R L sR→Rel X base N sR a w g →
   (∀ (L':Array Bool) (a':Act) (sR':St) (g':Gh),L'.size = ops.size→unl L' + fs.length = unl L→(∀ j,L'[j]? = some true ↔ L[j]? = some true∨j ∈ fs)→Closed ops L' → InvA ops k h0 S R L' sR' → Later g w g' w→Rel X base N sR' a' w g' → wpAny X.P md ops Q fuel L' a' w) →
   wpAny X.P md ops Q (fuel + fs.length) L a w:=by
 intro fs
 induction fs with
 | nil =>
  intro _ _ fuel L a sR g hs _ hcl _ inv rl H
  exact H L a sR g hs (by simp) (by simp) hcl inv (Later.refl g w) rl
 | cons j fs ih =>
  intro hm hnd fuel L a sR g hs hfl hcl hk inv rl H
  obtain ⟨hjk,hfm⟩:=d.free j (hm j (by simp))
  obtain ⟨o,t,dd,ho,hop,hgd,haf,hdst,hfree⟩:=freeMv_spec hfm
  have hns:=d.nosel (List.ne_nil_of_mem (hm j (by simp)))
  have hLj:=hfl j (by simp)
  have hdir:directs o = []:=by unfold directs;rw [haf];rfl
  have hi2:∀ p,ops[j]? = some p→∀ i ∈ directs p,L[i]? = some true:=fun p hp i hi=>by
   rw [ho] at hp;cases hp;rw [hdir] at hi;cases hi
  obtain ⟨hN,hrec,_,_⟩:=ra.step j o ho hjk
  have hsee:lookT t (S j).s = lookT t sR.s:=inv.see d ra hcl hjk ho hi2 (List.mem_append_left _ (List.mem_filterMap.2 ⟨.tmp t,by rw [hop];simp [Op.operands],rfl⟩))
  have hR:R j = ⟨(sR.get X (.tmp t)).copy,some (.slot t),[],[]⟩:=by
   unfold recA guardOf at hrec
   rw [hgd] at hrec
   simp only at hrec
   unfold valOp at hrec
   simp only [hop] at hrec
   simp only [St.get] at hrec ⊢
   rw [hsee] at hrec
   exact (Option.some.inj hrec).symm
  have hrun:∀ w:World,(execOp a.eval o).run X.P w = .ok (.value (a.tmps.getD t undef)) w:=fun w=>by unfold execOp;simp [hop,Act.eval]
  have e:(R j).on o.dst sR = setOg (sR.put o.dst (sR.get X (.tmp t)).copy) o.dst (.slot t):=by
   have app:({ sR with h:=sR.h ++ [] }:St) = sR:=by simp
   rw [hR];simp only [Rec.on,Rec.eff,app]
  have hw:=step_move (X:=X) hop hN rl (K:=fun a' w' => ∃ g',Later g w g' w' ∧ Rel X base N ((R j).on o.dst sR) a' w' g') (Q:=fun _ _ _=>False) (fun a' w' g' l r=>⟨g',l,by rw [e];exact r⟩)
  unfold Oper.wp at hw
  rw [hrun w] at hw
  simp only [Oper.upon] at hw
  obtain ⟨g',l',r'⟩:=hw
  show wpAny X.P md ops Q ((fuel + fs.length) + 1) L a w
  have hjlt:j < ops.size:=(Array.getElem?_eq_some_iff.1 ho).1
  refine wpAny_first ho (Region.noSelect_spec hns) (fun c a w h=>(hQ c _ w h).elim) _ L a w (fun j' oj hj' hne hun hno=>Region.free_spec ho hfree j' oj hj' hne ?_ fun e he hb=>hno e he (binds_any hb)) (mem_ready.2 ⟨?_,o,ho,fun e he=>by rw [haf] at he;simp at he⟩) (.inl ⟨?_,hrun⟩) ?_
  ·have:=(Array.getElem?_eq_some_iff.1 hj').1
   rw [Array.getD_eq_getD_getElem?,Array.getElem?_replicate,if_pos this]
   rfl
  ·rw [Array.getD_eq_getD_getElem?,hLj];rfl
  ·unfold Region.wanted;rw [hgd]
  ·have hset:∀ i,(L.setIfInBounds j true)[i]? = some true ↔ L[i]? = some true∨i = j:=fun i=>(listed_set hLj).trans ⟨fun h=>h.symm,fun h=>h.symm⟩
   have hu:=unl_set hLj
   refine ih (fun x hx=>hm x (by simp [hx])) (List.nodup_cons.1 hnd).2 fuel _ _ _ g' (by simpa using hs) (fun x hx=>?_) (hcl.set hLj hi2) (fun i hi h=>?_) (inv.set d ra h00 hcl hjk ho hLj hi2) r' fun L' a' sR' g'' s1 s2 s3 s4 s5 s6 s7=>H L' a' sR' g'' s1 (by simp;omega) (fun i=>?_) s4 s5 (l'.trans s6) s7
   ·have hne:j ≠ x:=fun e=>(List.nodup_cons.1 hnd).1 (e ▸ hx)
    rw [Array.getElem?_setIfInBounds_ne hne]
    exact hfl x (by simp [hx])
   ·rcases (hset i).1 h with h | h
    ·exact hk i hi h
    ·omega
   ·rw [s3,hset]
    simp only [List.mem_cons]
    constructor
    ·rintro ((h | h) | h)
     ·exact .inl h
     ·exact .inr (.inl h)
     ·exact .inr (.inr h)
    ·rintro (h | h | h)
     ·exact .inl (.inl h)
     ·exact .inl (.inr h)
     ·exact .inr h
theorem draw0_sound {id:Nat} {st st':St} (hd:drawOk ops = some k) (h:runDraw0 X call base N ops k st = some st') (hog:st.og = []) (hc:CallPOk X call) (hci:CallIOk X call) (rl:Rel X base N st a w g) {Q:Exit→Act→World→Prop}
  (hK:Goes X base N st' g w (fun a w=>Q .normal a w)):(Code.region id ops true).wp X.P Q a w:=by
 obtain ⟨F,d⟩:=drawOk_spec hd
 unfold runDraw0 drawGoK at h
 split at h
 ·rename_i hm
  rw [Bool.and_eq_true] at hm
  have hm:=hm.1
  split at h
  ·rename_i st1 hA
   obtain ⟨S,R,B,ra,h0,h1⟩:=runA_run d.hk hA
   rw [← h1] at h
   have kp:Keep g w g { w with drawn:=w.drawn + 1 }:=⟨⟨rfl,rfl,rfl,Nat.le_refl _,fun _ _=>rfl,fun _ _=>rfl,fun _ _=>rfl,fun _ _ h=>h,rfl,rl.sit.fresh⟩,rfl⟩
   have none:∀ i,(Array.replicate ops.size false)[i]? ≠ some true:=fun i hl=>by
    rw [Array.getElem?_replicate] at hl
    split at hl <;> simp at hl
   let Q':Exit→Act→World→Prop:=fun e a w=>match e with | .normal=>Q .normal a w | _=>False
   refine Code.wp_mono (Q:=Q') (fun e a w hq=>by cases e <;> first | exact hq | exact hq.elim) ?_
   refine wp_region_any' hm fun md hmd=>?_
   have hmd':∀ L:Array Bool,L.size = ops.size→Region.ready md ops L = [] → ∀ i,i < ops.size→L[i]? = some true:=fun L hs hr=>by
    rcases hmd with rfl | hb | hb
    ·exact ready_ne d hs hr
    ·exact ready_back hb hs hr
    ·exact ready_prog hb hs hr
   have hFl:=d.len
   obtain ⟨n,hn⟩:∃ n,ops.size = n + F.length:=⟨ops.size - F.length,by omega⟩
   rw [show wpAny X.P md ops Q' ops.size = wpAny X.P md ops Q' (n + F.length) by rw [← hn]]
   refine hoist (w:={ w with drawn:=w.drawn + 1 }) d ra (by rw [h0]) (fun c a w h=>h) F (fun j hj=>hj) d.nodup n _ a (S 0) g (by simp) (fun j hj=>?_) ?_ (fun i _=>none i) ⟨?_,fun t _=>rfl,⟨0,Nat.zero_le _,rfl,fun j _ _=>⟨fun hl=>(none j hl).elim,fun h=>by omega⟩⟩,?_,?_⟩ (by rw [h0];exact rl.keep kp) ?_
   ·have:=(d.free j hj).1
    have:=d.hk
    rw [Array.getElem?_replicate,if_pos (by omega)]
   ·exact fun i o ho hl j hj=>(none i hl).elim
   ·exact fun j o t _ hl=>(none j hl).elim
   ·exact fun j o t l _ hl=>(none j hl).elim
   ·intro t l hl
    rw [h0,hog] at hl
    cases hl
   ·intro L' a' sR' g' s1 s2 s3 s4 s5 s6 s7
    refine draw_any hmd' (g0:=g) (w0:=w) d hc hci ra (by rw [h0]) (by rw [h0];exact hog) h (Q:=Q') hK n L' a' _ g' ?_ s1 s4 (fun j hj=>(s3 j).2 (.inr hj)) ((kp.later rl.sit.fresh).trans s6) (.inl ⟨fun i hi hl=>?_,sR',s5,s7⟩)
    ·have:=unl_start ops.size
     omega
    ·rcases (s3 i).1 hl with hl | hl
     ·exact none i hl
     ·have:=(d.free i hl).1
      omega
  ·cases h
 ·cases h
end
end
mutual
theorem D.same_eq:∀ (a b:D),D.same a b = true→a = b:=by
 intro a b h
 unfold D.same at h
 split at h
 all_goals first
  | rfl
  | (cases h;done)
  | skip
 all_goals (try simp only [Bool.and_eq_true,decide_eq_true_eq] at h)
 all_goals first
  | (obtain ⟨rfl,rfl⟩:=h;rfl)
  | (subst h;rfl)
  | (obtain ⟨h1,rfl⟩:=h;rw [sameDs_eq _ _ h1])
  | (obtain ⟨rfl,h1⟩:=h;rw [D.same_eq _ _ h1])
  | rw [sameDs_eq _ _ h]
theorem sameDs_eq:∀ (a b:List D),sameDs a b = true→a = b:=by
 intro a b h
 unfold sameDs at h
 split at h
 ·rfl
 ·simp only [Bool.and_eq_true] at h
  rw [D.same_eq _ _ h.1,sameDs_eq _ _ h.2]
 ·cases h
end
mutual
theorem V.same_eq:∀ (a b:V),V.same a b = true→a = b:=by
 intro a b h
 unfold V.same at h
 split at h
 all_goals first
  | (cases h;done)
  | skip
 all_goals (try simp only [Bool.and_eq_true,decide_eq_true_eq] at h)
 all_goals first
  | rw [D.same_eq _ _ h]
  | (obtain ⟨⟨rfl,h1⟩,rfl⟩:=h;rw [sameDs_eq _ _ h1])
  | (obtain ⟨h1,rfl⟩:=h;rw [sameDs_eq _ _ h1])
  | (obtain ⟨⟨rfl,rfl⟩,rfl⟩:=h;rfl)
  | (obtain ⟨rfl,rfl⟩:=h;rfl)
  | (obtain ⟨⟨rfl,h1⟩,h2⟩:=h;rw [sameVs_eq _ _ h1,sameVs_eq _ _ h2])
  | (subst h;rfl)
  | rw [sameVs_eq _ _ h]
theorem sameVs_eq:∀ (a b:List V),sameVs a b = true→a = b:=by
 intro a b h
 unfold sameVs at h
 split at h
 ·rfl
 ·simp only [Bool.and_eq_true] at h
  rw [V.same_eq _ _ h.1,sameVs_eq _ _ h.2]
 ·cases h
end
theorem samePs_eq:∀ (a b:List (D × D)),samePs a b = true→a = b
 | [],[],_=>rfl
 | a :: as,b :: bs,h=>by
  simp only [samePs,Bool.and_eq_true] at h
  rw [samePs_eq as bs h.2,Prod.ext (D.same_eq _ _ h.1.1) (D.same_eq _ _ h.1.2)]
 | [],_ :: _,h=>by cases h
 | _ :: _,[],h=>by cases h
theorem Ob.same_eq (a b:Ob) (h:Ob.same a b = true):a = b:=by
 unfold Ob.same at h
 split at h
 ·rw [sameVs_eq _ _ h]
 ·rw [sameDs_eq _ _ h]
 ·simp only [Bool.and_eq_true,decide_eq_true_eq] at h
  rw [samePs_eq _ _ h.1,h.2]
 ·simp only [Bool.and_eq_true,decide_eq_true_eq] at h
  rw [h.1,h.2]
 ·cases h
theorem sameObs_eq:∀ (a b:List Ob),sameObs a b = true→a = b
 | [],[],_=>rfl
 | a :: as,b :: bs,h=>by
  simp only [sameObs,Bool.and_eq_true] at h
  rw [Ob.same_eq _ _ h.1,sameObs_eq as bs h.2]
 | [],_ :: _,h=>by cases h
 | _ :: _,[],h=>by cases h
section
variable {X:Ctx} {base N s k e:Nat} {call:CallF} {ops:Array Oper} {h0:List Ob} {lds0:List Nat}
structure RunS (X:Ctx) (call:CallF) (N:Nat) (ops:Array Oper) (s k:Nat) (h0:List Ob) (lds0:List Nat) (S:Nat→St) (R:Nat→Rec) (B:Nat→Bk) (C:Nat→Bool × List Nat):Prop where
 step:∀ (i:Nat) (o:Oper),ops[i]? = some o→s≤i→i < k→dstOk N o = true∧recB X call ops h0 o (S i) = some (R i)∧S (i + 1) = (R i).on o.dst (S i)∧beside ops ((S i).get X) o (R i) (B i) = some (B (i + 1))
 start:B s = ⟨s,none,[],lds0⟩
 startC:(C s).2 = lds0
 clo:∀ (i:Nat) (o:Oper),ops[i]? = some o→s≤i→i < k→besideB h0.length ops ((S i).get X) o (R i) (plainCall X call ops h0 o (S i)).isSome (B i,C i) = some (B (i + 1),C (i + 1))
theorem besideB_beside {n:Nat} {ρ:Operand→V} {o:Oper} {rc:Rec} {pc:Bool} {q q':Bk × Bool × List Nat} (h:besideB n ops ρ o rc pc q = some q'):beside ops ρ o rc q.1 = some q'.1:=by
 unfold besideB at h
 split at h
 ·cases h
 ·rename_i b hb
  rw [hb]
  split at h
  ·split at h
   ·cases h;rfl
   ·cases h
  ·split at h
   ·cases h
   ·cases h;rfl
theorem forget_eff {o:Oper} {r:Rec} (h:List Ob):(r.forget X o).eff h = r.eff h:=by
 unfold Rec.forget
 split
 ·split <;> rfl
 ·rfl
theorem forget_plain {o:Oper} {r:Rec}:(r.forget X o).plain ↔ r.plain:=by
 unfold Rec.forget
 split
 ·split <;> exact Iff.rfl
 ·exact Iff.rfl
theorem forget_touches {o:Oper} {r:Rec} {ρ:Operand→V}:touches ρ o (r.forget X o) = touches ρ o r:=by
 unfold Rec.forget
 split
 ·split <;> rfl
 ·rfl
theorem forget_og {o:Oper} {r:Rec} {l:Loc} (h:(r.forget X o).og = some l):r.forget X o = r:=by
 unfold Rec.forget at h ⊢
 split at h
 ·split at h
  ·rename_i hh;rw [if_pos hh]
  ·cases h
 ·rfl
theorem recB_cases {o:Oper} {st:St} {r:Rec} (h:recB X call ops h0 o st = some r):(∃ r0,recA X call ops h0 o st = some r0∧r = r0.forget X o)∨∃ v,plainCall X call ops h0 o st = some v∧r = ⟨v,none,[],[]⟩:=by
 unfold recB at h
 split at h
 ·rename_i v hv
  cases h
  exact .inr ⟨v,hv,rfl⟩
 ·cases hr:recA X call ops h0 o st with
  | none=>rw [hr] at h;cases h
  | some r0=>rw [hr] at h;cases h;exact .inl ⟨r0,rfl,rfl⟩
theorem recB_np {o:Oper} {st:St} {r:Rec} (h:recB X call ops h0 o st = some r) (hn:¬ r.plain):recA X call ops h0 o st = some r:=by
 rcases recB_cases h with ⟨r0,h',rfl⟩ | ⟨v,_,rfl⟩
 ·obtain ⟨_,_,h3⟩:=recA_np h' (fun hp=>hn (forget_plain.2 hp))
  have:r0.forget X o = r0:=by
   unfold Rec.forget
   rcases h3 with ⟨t,z,hop,_⟩ | ⟨t,p,x,id,off,n,vs,hop,_⟩ | ⟨c,hop,_⟩ <;> rw [hop]
  rw [this]
  exact h'
 ·exact (hn ⟨rfl,rfl⟩).elim
theorem recB_og {o:Oper} {st:St} {r:Rec} {l:Loc} (h:recB X call ops h0 o st = some r) (hr:r.og = some l):recA X call ops h0 o st = some r:=by
 rcases recB_cases h with ⟨r0,h',rfl⟩ | ⟨v,_,rfl⟩
 ·rw [forget_og hr];exact h'
 ·cases hr
theorem runB_states (l:List Oper):∀ q st st',runB X call N ops h0 l q st = some st' → ∃ S:Nat→St,∃ R:Nat→Rec,∃ B:Nat→Bk × Bool × List Nat,S 0 = st∧S l.length = st' ∧ B 0 = q ∧
  ∀ (i:Nat) (o:Oper),l[i]? = some o→dstOk N o = true∧recB X call ops h0 o (S i) = some (R i)∧S (i + 1) = (R i).on o.dst (S i)∧besideB h0.length ops ((S i).get X) o (R i) (plainCall X call ops h0 o (S i)).isSome (B i) = some (B (i + 1)):=by
 induction l with
 | nil =>
  intro q st st' h
  simp [runB] at h
  exact ⟨fun _=>st,fun _=>⟨und,none,[],[]⟩,fun _=>q,rfl,h,rfl,by intro i o hi;simp at hi⟩
 | cons o l ih =>
  intro q st st' h
  simp only [runB] at h
  split at h
  ·rename_i hN
   split at h
   ·rename_i rc hrc
    split at h
    ·rename_i q1 hq1
     obtain ⟨S,R,B,h1,h2,hb,h3⟩:=ih _ _ _ h
     refine ⟨fun i=>match i with | 0=>st | i + 1=>S i,fun i=>match i with | 0=>rc | i + 1=>R i,fun i=>match i with | 0=>q | i + 1=>B i,rfl,h2,rfl,fun i p hi=>?_⟩
     cases i with
     | zero=>simp at hi;subst hi;exact ⟨hN,hrc,h1,by simp only [hb];exact hq1⟩
     | succ i=>simp at hi;exact h3 i p hi
    ·cases h
   ·cases h
  ·cases h
theorem runS_run {st st':St} (hs:s≤k) (hk:k≤ops.size) (h:runB X call N ops h0 ((ops.toList.drop s).take (k - s)) (⟨s,none,[],lds0⟩,false,lds0) st = some st'):∃ S R B C,RunS X call N ops s k h0 lds0 S R B C∧S s = st∧S k = st':=by
 obtain ⟨S,R,B,h1,h2,hb,h3⟩:=runB_states _ _ _ _ h
 have key:∀ (i:Nat) (o:Oper),ops[i]? = some o→s≤i→i < k→_:=fun i o ho hsi hi=>h3 (i - s) o (by rw [List.getElem?_take,if_pos (by omega),List.getElem?_drop,show s + (i - s) = i by omega];simpa using ho)
 refine ⟨fun i=>S (i - s),fun i=>R (i - s),fun i=>(B (i - s)).1,fun i=>(B (i - s)).2,⟨fun i o ho hsi hi=>?_,by simp [hb],by simp [hb],fun i o ho hsi hi=>?_⟩,by simpa using h1,?_⟩
 ·obtain ⟨k1,k2,k3,k4⟩:=key i o ho hsi hi
  rw [show i - s + 1 = i + 1 - s by omega] at k3 k4
  exact ⟨k1,k2,k3,besideB_beside k4⟩
 ·obtain ⟨k1,k2,k3,k4⟩:=key i o ho hsi hi
  rw [show i - s + 1 = i + 1 - s by omega] at k4
  exact k4
 ·show S (k - s) = st'
  rw [← h2,List.length_take,List.length_drop,Array.length_toList,Nat.min_eq_left (by omega)]
structure SegOk (ops:Array Oper) (s k e:Nat):Prop where
 hs:s≤k
 hk:k≤e
 he:e≤ops.size
 lt:∀ (i:Nat) (o:Oper),ops[i]? = some o→∀ j ∈ directs o,j < i
 look:∀ (i j:Nat) (o p:Oper) (t:Tmp),ops[i]? = some o→s≤i→i < k→t ∈ o.looksAt ops→ops[j]? = some p→s≤j→j < k→p.dst = some t→(j < i∧Anc ops j i)∨(i < j∧Anc ops i j)
 dist:∀ (i j:Nat) (o p:Oper) (t:Tmp),ops[i]? = some o→s≤i→i < k→ops[j]? = some p→s≤j→j < k→o.dst = some t→p.dst = some t→i = j
 full:∀ i,k≤i→i < e→∀ j,j < i→Anc ops j i
 bar:∀ i,e≤i→i < ops.size→∀ j,j < e→Anc ops j i
theorem SegOk.op (d:SegOk ops s k e) (i:Nat) (hi:i < k):∃ o,ops[i]? = some o:=⟨ops[i]'(by have:=d.hk;have:=d.he;omega),Array.getElem?_eq_getElem _⟩
theorem on_og' (r:Rec) (dst:Option Tmp) (st:St) {t:Nat} {l:Loc} (h:(t,l) ∈ (r.on dst st).og):((t,l) ∈ st.og∧dst ≠ some t∧∀ u,l = .slot u→dst ≠ some u)∨(dst = some t∧r.og = some l):=by
 have hput:∀ (s1:St),(t,l) ∈ (s1.put dst r.v).og→(t,l) ∈ s1.og∧dst ≠ some t∧∀ u,l = .slot u→dst ≠ some u:=by
  intro s1 h
  cases dst with
  | none=>exact ⟨h,by simp,fun u _=>by simp⟩
  | some d =>
   simp only [St.put,List.mem_filter,Bool.and_eq_true,bne_iff_ne,ne_eq] at h
   refine ⟨h.1,fun hh=>h.2.1 (by injection hh with hh;exact hh.symm),fun u hu hh=>h.2.2 (by injection hh with hh;rw [hu,hh])⟩
 unfold Rec.on at h
 split at h
 ·rename_i l' hl
  cases dst with
  | none=>exact .inl (hput { st with h:=r.eff st.h } h)
  | some d =>
   simp only [setOg,List.mem_cons,Prod.mk.injEq] at h
   rcases h with ⟨rfl,rfl⟩ | h
   ·exact .inr ⟨rfl,hl⟩
   ·exact .inl (hput { st with h:=r.eff st.h } h)
 ·exact .inl (hput { st with h:=r.eff st.h } h)
section
variable {S:Nat→St} {R:Nat→Rec} {B:Nat→Bk} {C:Nat→Bool × List Nat} (d:SegOk ops s k e) (ra:RunS X call N ops s k h0 lds0 S R B C)
include d ra
theorem RunS.old (t:Nat):∀ m,s≤m→m≤k→(∀ (j:Nat) (o:Oper),s≤j→j < m→ops[j]? = some o→o.dst ≠ some t)→lookT t (S m).s = lookT t (S s).s:=by
 intro m
 induction m with
 | zero=>intro h _ _;rw [show s = 0 by omega]
 | succ m ih =>
  intro hsm hm h
  by_cases hb:s = m + 1
  ·rw [hb]
  ·obtain ⟨o,ho⟩:=d.op m (by omega)
   obtain ⟨_,_,h3,_⟩:=ra.step m o ho (by omega) (by omega)
   rw [h3,on_look,if_neg (h m o (by omega) (by omega) ho)]
   exact ih (by omega) (by omega) fun j p hj hj2 hp=>h j p hj (by omega) hp
theorem RunS.new {j:Nat} {o:Oper} {t:Nat} (hsj:s≤j) (ho:ops[j]? = some o) (hd:o.dst = some t):∀ m,m≤k→j < m→lookT t (S m).s = (R j).v:=by
 intro m
 induction m with
 | zero=>intro _ h;omega
 | succ m ih =>
  intro hm hj
  obtain ⟨p,hp⟩:=d.op m (by omega)
  obtain ⟨_,_,h3,_⟩:=ra.step m p hp (by omega) (by omega)
  rw [h3,on_look]
  by_cases hjm:j = m
  ·subst hjm
   rw [ho] at hp
   cases hp
   rw [if_pos hd]
  ·rw [if_neg fun hh=>hjm (d.dist j m o p t ho hsj (by omega) hp (by omega) (by omega) hd hh)]
   exact ih (by omega) (by omega)
theorem RunS.og:∀ m,s≤m→m≤k→∀ (t:Nat) (l:Loc),(t,l) ∈ (S m).og→((t,l) ∈ (S s).og∧(∀ (j:Nat) (o:Oper),s≤j→j < m→ops[j]? = some o→o.dst ≠ some t∧∀ u,l = .slot u→o.dst ≠ some u))∨∃ (j:Nat) (o:Oper),s≤j∧j < m∧ops[j]? = some o∧o.dst = some t∧(R j).og = some l∧∀ (i:Nat) (p:Oper) (u:Nat),j < i→i < m→ops[i]? = some p→l = .slot u→p.dst ≠ some u:=by
 intro m
 induction m with
 | zero=>intro hs0 _ t l h;rw [show s = 0 by omega];exact .inl ⟨h,fun j o _ hj=>by omega⟩
 | succ m ih =>
  intro hsm hm t l h
  by_cases hb:s = m + 1
  ·rw [← hb] at h;exact .inl ⟨h,fun j o _ hj=>by omega⟩
  ·obtain ⟨p,hp⟩:=d.op m (by omega)
   obtain ⟨_,_,h3,_⟩:=ra.step m p hp (by omega) (by omega)
   rw [h3] at h
   rcases on_og' _ _ _ h with ⟨h,hn⟩ | ⟨h,h'⟩
   ·rcases ih (by omega) (by omega) t l h with ⟨h1,h2⟩ | ⟨j,o,h0,h1,h2⟩
    ·refine .inl ⟨h1,fun j o hsj hj ho=>?_⟩
     by_cases hjm:j = m
     ·subst hjm
      rw [ho] at hp
      cases hp
      exact hn
     ·exact h2 j o hsj (by omega) ho
    ·obtain ⟨h2,h5,h6,h7⟩:=h2
     refine .inr ⟨j,o,h0,by omega,h2,h5,h6,fun i q u hji him hq hu=>?_⟩
     by_cases hem:i = m
     ·subst hem
      rw [hp] at hq
      cases hq
      exact hn.2 u hu
     ·exact h7 i q u hji (by omega) hq hu
   ·exact .inr ⟨m,p,by omega,by omega,hp,h,h',fun i q u hji him=>by omega⟩
theorem RunS.num:∀ m,s≤m→m≤k→(B m).i = m:=by
 intro m
 induction m with
 | zero=>intro h _;have:=ra.start;rw [show s = 0 by omega] at this;rw [this]
 | succ m ih =>
  intro hsm hm
  by_cases hb:s = m + 1
  ·rw [← hb,ra.start]
  ·obtain ⟨p,hp⟩:=d.op m (by omega)
   obtain ⟨_,_,_,h4⟩:=ra.step m p hp (by omega) (by omega)
   have e:=ih (by omega) (by omega)
   unfold beside at h4
   split at h4
   ·split at h4
    ·split at h4
     ·cases h4
     ·simp only [Option.some.injEq] at h4;rw [← h4];simp only;omega
    ·simp only [Option.some.injEq] at h4;rw [← h4];simp only;omega
   ·split at h4
    ·simp only [Option.some.injEq] at h4
     rw [← h4];simp only;omega
    ·cases h4
theorem RunS.last:∀ m,s≤m→m≤k→((B m).np = none∧∀ j,s≤j→j < m→(R j).plain)∨∃ j,(B m).np = some j∧s≤j∧j < m∧¬ (R j).plain∧∀ i,j < i→i < m→(R i).plain:=by
 intro m
 induction m with
 | zero=>intro h _;left;have:=ra.start;rw [show s = 0 by omega] at this;rw [this];exact ⟨rfl,fun j hj=>by omega⟩
 | succ m ih =>
  intro hsm hm
  by_cases hb:s = m + 1
  ·left;rw [← hb,ra.start];exact ⟨rfl,fun j hj=>by omega⟩
  obtain ⟨p,hp⟩:=d.op m (by omega)
  obtain ⟨_,_,_,h4⟩:=ra.step m p hp (by omega) (by omega)
  have hnum:=ra.num d m (by omega) (by omega)
  unfold beside at h4
  split at h4
  ·rename_i hpl
   have hpl:=Rec.plainB_iff.1 hpl
   have e:(B (m + 1)).np = (B m).np:=by
    split at h4
    ·split at h4
     ·cases h4
     ·simp only [Option.some.injEq] at h4;rw [← h4]
    ·simp only [Option.some.injEq] at h4;rw [← h4]
   rw [e]
   rcases ih (by omega) (by omega) with ⟨k1,k2⟩ | ⟨j,k1,k0,k2,k3,k4⟩
   ·left
    refine ⟨k1,fun j hsj hj=>?_⟩
    by_cases hjm:j = m
    ·rw [hjm];exact hpl
    ·exact k2 j hsj (by omega)
   ·right
    refine ⟨j,k1,k0,by omega,k3,fun i hi hi2=>?_⟩
    by_cases him:i = m
    ·rw [him];exact hpl
    ·exact k4 i hi (by omega)
  ·rename_i hpl
   split at h4
   ·simp only [Option.some.injEq] at h4
    right
    exact ⟨m,by rw [← h4];simp only [hnum],by omega,by omega,fun hh=>hpl (Rec.plainB_iff.2 hh),fun i h1 h2=>by omega⟩
   ·cases h4
theorem RunS.order:∀ i j,s≤j→j < i→i < k→¬ (R i).plain→¬ (R j).plain→Anc ops j i:=by
 intro i
 induction i using Nat.strongRecOn with
 | ind i ih =>
  intro j hsj hji hi hni hnj
  obtain ⟨p,hp⟩:=d.op i hi
  obtain ⟨_,_,_,h4⟩:=ra.step i p hp (by omega) hi
  have hnum:=ra.num d i (by omega) (by omega)
  unfold beside at h4
  rw [if_neg (fun hh=>hni (Rec.plainB_iff.1 hh))] at h4
  split at h4
  ·rename_i hc
   rw [Bool.and_eq_true] at hc
   rcases ra.last d i (by omega) (by omega) with ⟨_,k2⟩ | ⟨j',k1,k0,k2,k3,k4⟩
   ·exact (hnj (k2 j hsj hji)).elim
   ·have hb:=hc.1
    unfold behindNp at hb
    rw [k1] at hb
    simp only [Bool.and_eq_true,hnum] at hb
    have hanc:=masks_anc hb.2
    by_cases hjj:j = j'
    ·rw [hjj];exact hanc
    ·have:j < j':=by
      apply Classical.byContradiction
      intro hn
      exact hnj (k4 j (by omega) hji)
     exact (ih j' k2 j hsj this (by omega) k3 hnj).trans hanc
  ·cases h4
theorem RunS.callFirst {i:Nat} {o:Oper} (hsi:s≤i) (hi:i < k) (ho:ops[i]? = some o) (hn:¬ (R i).plain) {c:Call} (hc:o.op = .call c):∀ j,s≤j→j < i→(R j).plain:=by
 obtain ⟨_,_,_,h4⟩:=ra.step i o ho hsi hi
 unfold beside at h4
 rw [if_neg (fun hh=>hn (Rec.plainB_iff.1 hh))] at h4
 split at h4
 ·rename_i hcc
  rw [Bool.and_eq_true] at hcc
  rcases ra.last d i (by omega) (by omega) with ⟨_,k2⟩ | ⟨j',k1,_⟩
  ·exact k2
  ·have hb:=hcc.1
   unfold behindNp at hb
   rw [k1,hc] at hb
   simp at hb
 ·cases h4
theorem RunS.kept:∀ m,s≤m→m≤k→(∀ id ∈ lds0,id ∈ (B m).lds)∧(∀ (i:Nat) (o:Oper) (id:Nat),s≤i→i < m→ops[i]? = some o→(R i).plain→ldOf ((S i).get X) o = some id→id ∈ (B m).lds) ∧
  (∀ (i:Nat) (o:Oper) (id:Nat),s≤i→i < m→ops[i]? = some o→¬ (R i).plain→id ∈ touches ((S i).get X) o (R i)→id ∈ (B m).tch):=by
 intro m
 induction m with
 | zero=>intro h _;have:=ra.start;rw [show s = 0 by omega] at this;exact ⟨fun id hid=>by rw [this];exact hid,fun i o id _ hi=>by omega,fun i o id _ hi=>by omega⟩
 | succ m ih =>
  intro hsm hm
  by_cases hb:s = m + 1
  ·exact ⟨fun id hid=>by rw [← hb,ra.start];exact hid,fun i o id _ hi=>by omega,fun i o id _ hi=>by omega⟩
  obtain ⟨p,hp⟩:=d.op m (by omega)
  obtain ⟨_,_,_,h4⟩:=ra.step m p hp (by omega) (by omega)
  obtain ⟨i0,i1,i2⟩:=ih (by omega) (by omega)
  have sub:(∀ id,id ∈ (B m).lds→id ∈ (B (m + 1)).lds)∧(∀ id,id ∈ (B m).tch→id ∈ (B (m + 1)).tch) ∧
    ((R m).plain→∀ id,ldOf ((S m).get X) p = some id→id ∈ (B (m + 1)).lds)∧(¬ (R m).plain→∀ id,id ∈ touches ((S m).get X) p (R m)→id ∈ (B (m + 1)).tch):=by
   unfold beside at h4
   split at h4
   ·rename_i hpl
    have hpl:=Rec.plainB_iff.1 hpl
    split at h4
    ·rename_i id0 hld
     split at h4
     ·cases h4
     ·simp only [Option.some.injEq] at h4
      rw [← h4]
      exact ⟨fun id h=>List.mem_cons_of_mem _ h,fun id h=>h,fun _ id h=>(by rw [hld] at h;cases h;exact List.mem_cons_self ..),fun hn=>(hn hpl).elim⟩
    ·rename_i hld
     simp only [Option.some.injEq] at h4
     rw [← h4]
     exact ⟨fun id h=>h,fun id h=>h,fun _ id h=>(by rw [hld] at h;cases h),fun hn=>(hn hpl).elim⟩
   ·rename_i hpl
    split at h4
    ·simp only [Option.some.injEq] at h4
     rw [← h4]
     exact ⟨fun id h=>h,fun id h=>List.mem_append_right _ h,fun hh=>(hpl (Rec.plainB_iff.2 hh)).elim,fun _ id h=>List.mem_append_left _ h⟩
    ·cases h4
  obtain ⟨s1,s2,s3,s4⟩:=sub
  refine ⟨fun id hid=>s1 id (i0 id hid),fun i o id hsi hi ho hpl hid=>?_,fun i o id hsi hi ho hpl hid=>?_⟩
  ·by_cases him:i = m
   ·subst him
    rw [ho] at hp
    cases hp
    exact s3 hpl id hid
   ·exact s1 _ (i1 i o id hsi (by omega) ho hpl hid)
  ·by_cases him:i = m
   ·subst him
    rw [ho] at hp
    cases hp
    exact s4 hpl id hid
   ·exact s2 _ (i2 i o id hsi (by omega) ho hpl hid)
theorem RunS.apart {i j:Nat} {o p:Oper} {id:Nat} (hsi:s≤i) (hi:i < k) (hsj:s≤j) (hj:j < k) (ho:ops[i]? = some o) (hp:ops[j]? = some p) (hpl:(R i).plain) (hnj:¬ (R j).plain) (hid:ldOf ((S i).get X) o = some id):id ∉ touches ((S j).get X) p (R j):=by
 intro ht
 by_cases hij:i < j
 ·have hl:=(ra.kept d j (by omega) (by omega)).2.1 i o id hsi hij ho hpl hid
  obtain ⟨_,_,_,h4⟩:=ra.step j p hp hsj hj
  unfold beside at h4
  rw [if_neg (fun hh=>hnj (Rec.plainB_iff.1 hh))] at h4
  split at h4
  ·rename_i hc
   rw [Bool.and_eq_true,Bool.not_eq_true'] at hc
   have:=List.any_eq_false.1 hc.2 id ht
   exact this (by simpa using hl)
  ·cases h4
 ·have hne:i ≠ j:=fun e=>hnj (e ▸ hpl)
  have hl:=(ra.kept d i (by omega) (by omega)).2.2 j p id hsj (by omega) hp hnj ht
  obtain ⟨_,_,_,h4⟩:=ra.step i o ho hsi hi
  unfold beside at h4
  rw [if_pos (Rec.plainB_iff.2 hpl),hid] at h4
  simp only at h4
  split at h4
  ·cases h4
  ·rename_i hc
   exact hc (by simpa using hl)
theorem RunS.apart0 {j:Nat} {p:Oper} {id:Nat} (hsj:s≤j) (hj:j < k) (hp:ops[j]? = some p) (hnj:¬ (R j).plain) (hid:id ∈ lds0):id ∉ touches ((S j).get X) p (R j):=by
 intro ht
 have hl:=(ra.kept d j (by omega) (by omega)).1 id hid
 obtain ⟨_,_,_,h4⟩:=ra.step j p hp hsj hj
 unfold beside at h4
 rw [if_neg (fun hh=>hnj (Rec.plainB_iff.1 hh))] at h4
 split at h4
 ·rename_i hc
  rw [Bool.and_eq_true,Bool.not_eq_true'] at hc
  have:=List.any_eq_false.1 hc.2 id ht
  exact this (by simpa using hl)
 ·cases h4
theorem RunS.const:∀ (n m:Nat),s≤m→m≤n→n≤k→(∀ j,m≤j→j < n→(R j).plain)→(S n).h = (S m).h:=by
 intro n
 induction n with
 | zero=>intro m _ hm _ _;rw [show m = 0 by omega]
 | succ n ih =>
  intro m hsm hm hn h
  by_cases hmn:m = n + 1
  ·rw [hmn]
  ·obtain ⟨p,hp⟩:=d.op n (by omega)
   obtain ⟨_,_,h3,_⟩:=ra.step n p hp (by omega) (by omega)
   rw [h3,on_h,Rec.eff_plain (h n (by omega) (by omega))]
   exact ih m hsm (by omega) (by omega) fun j h1 h2=>h j h1 (by omega)
theorem RunS.constH {m n:Nat} (hsm:s≤m) (hm:m≤k) (hsn:s≤n) (hn:n≤k) (h:∀ j,s≤j→j < k→¬ (R j).plain→(j < m ↔ j < n)):(S m).h = (S n).h:=by
 by_cases hmn:m≤n
 ·exact (ra.const d n m hsm hmn hn fun j h1 h2=>Classical.byContradiction fun hp=>by have:=(h j (by omega) (by omega) hp).2 h2;omega).symm
 ·exact ra.const d m n hsn (by omega) hm fun j h1 h2=>Classical.byContradiction fun hp=>by have:=(h j (by omega) (by omega) hp).1 h2;omega
theorem RunS.len (hh:(S s).h = h0):∀ m,s≤m→m≤k→h0.length≤(S m).h.length:=by
 intro m
 induction m with
 | zero=>intro h _;rw [show s = 0 by omega] at hh;rw [hh];exact Nat.le_refl _
 | succ m ih =>
  intro hsm hm
  by_cases hb:s = m + 1
  ·rw [← hb,hh];exact Nat.le_refl _
  obtain ⟨p,hp⟩:=d.op m (by omega)
  obtain ⟨_,h2,h3,_⟩:=ra.step m p hp (by omega) (by omega)
  rw [h3,on_h]
  rcases recB_cases h2 with ⟨r0,h2,hr⟩ | ⟨v,_,hr⟩
  ·rw [hr,forget_eff]
   exact eff_len h2 (ih (by omega) (by omega)) fun v h1 hc=>callA_len hc
  ·rw [Rec.eff_plain (by rw [hr];exact ⟨rfl,rfl⟩)]
   exact ih (by omega) (by omega)
theorem RunS.oldBox (hh:(S s).h = h0) {id:Nat} (hid:id < h0.length) (ht:∀ (j:Nat) (p:Oper),s≤j→j < k→ops[j]? = some p→¬ (R j).plain→id ∉ touches ((S j).get X) p (R j)):∀ m,s≤m→m≤k→(S m).h[id]? = h0[id]?:=by
 intro m
 induction m with
 | zero=>intro h _;rw [show s = 0 by omega] at hh;rw [hh]
 | succ m ih =>
  intro hsm hm
  by_cases hb:s = m + 1
  ·rw [← hb,hh]
  obtain ⟨p,hp⟩:=d.op m (by omega)
  obtain ⟨_,h2,h3,_⟩:=ra.step m p hp (by omega) (by omega)
  by_cases hpl:(R m).plain
  ·rw [h3,on_h,Rec.eff_plain hpl]
   exact ih (by omega) (by omega)
  ·rw [h3,on_h,eff_get (recB_np h2 hpl) (ra.len d hh m (by omega) (by omega)) hid]
   ·exact ih (by omega) (by omega)
   ·exact .inr (ht m p (by omega) (by omega) hp hpl)
theorem RunS.clAt {i:Nat} {o:Oper} (hsi:s≤i) (ho:ops[i]? = some o) (hpc:(plainCall X call ops h0 o (S i)).isSome = true):∀ m,i < m→m≤k→(C m).1 = true:=by
 intro m
 induction m with
 | zero=>intro h;omega
 | succ m ih =>
  intro him hm
  obtain ⟨p,hp⟩:=d.op m (by omega)
  have h4:=ra.clo m p hp (by omega) (by omega)
  unfold besideB at h4
  split at h4
  ·cases h4
  ·by_cases hem:i = m
   ·subst hem
    rw [ho] at hp
    cases hp
    rw [if_pos hpc] at h4
    split at h4
    ·simp only [Option.some.injEq,Prod.mk.injEq] at h4
     rw [← h4.2]
    ·cases h4
   ·have hC:=ih (by omega) (by omega)
    split at h4
    ·split at h4
     ·simp only [Option.some.injEq,Prod.mk.injEq] at h4
      rw [← h4.2]
     ·cases h4
    ·split at h4
     ·cases h4
     ·simp only [Option.some.injEq,Prod.mk.injEq] at h4
      rw [← h4.2];exact hC
omit d in
theorem RunS.clEmpty {i:Nat} {o:Oper} (hsi:s≤i) (hi:i < k) (ho:ops[i]? = some o) (hpc:(plainCall X call ops h0 o (S i)).isSome = true):(∀ id ∈ (B i).tch,h0.length≤id)∧(C i).2 = []:=by
 have h4:=ra.clo i o ho hsi hi
 unfold besideB at h4
 split at h4
 ·cases h4
 ·rw [if_pos hpc] at h4
  split at h4
  ·rename_i hc
   rw [Bool.and_eq_true] at hc
   exact ⟨fun id hid=>of_decide_eq_true (List.all_eq_true.1 hc.1 id hid),by simpa using hc.2⟩
  ·cases h4
omit d in
theorem RunS.pcRec {i:Nat} {o:Oper} (hsi:s≤i) (hi:i < k) (ho:ops[i]? = some o) (hpc:(plainCall X call ops h0 o (S i)).isSome = true):(R i).plain∧(R i).og = none:=by
 obtain ⟨v,hv⟩:=Option.isSome_iff_exists.1 hpc
 obtain ⟨_,h2,_,_⟩:=ra.step i o ho hsi hi
 unfold recB at h2
 rw [hv] at h2
 simp only [Option.some.injEq] at h2
 rw [← h2]
 exact ⟨⟨rfl,rfl⟩,rfl⟩
theorem RunS.ogKept:∀ m,s≤m→m≤k→(∀ id ∈ lds0,id ∈ (C m).2)∧∀ (j:Nat) (id off:Nat),s≤j→j < m→(R j).og = some (.cell id off)→id ∈ (C m).2:=by
 intro m
 induction m with
 | zero=>intro h _;have:=ra.startC;rw [show s = 0 by omega] at this;exact ⟨fun id hid=>by rw [this];exact hid,fun j id off _ hj=>by omega⟩
 | succ m ih =>
  intro hsm hm
  by_cases hb:s = m + 1
  ·exact ⟨fun id hid=>by rw [← hb,ra.startC];exact hid,fun j id off _ hj=>by omega⟩
  obtain ⟨p,hp⟩:=d.op m (by omega)
  obtain ⟨i0,i1⟩:=ih (by omega) (by omega)
  have h4:=ra.clo m p hp (by omega) (by omega)
  have sub:(∀ id ∈ (C m).2,id ∈ (C (m + 1)).2)∧∀ id off,(R m).og = some (.cell id off)→id ∈ (C (m + 1)).2:=by
   unfold besideB at h4
   split at h4
   ·cases h4
   ·split at h4
    ·rename_i hpc
     split at h4
     ·simp only [Option.some.injEq,Prod.mk.injEq] at h4
      rw [← h4.2]
      exact ⟨fun id h=>h,fun id off h=>by rw [(ra.pcRec (by omega) (by omega) hp hpc).2] at h;cases h⟩
     ·cases h4
    ·split at h4
     ·cases h4
     ·simp only [Option.some.injEq,Prod.mk.injEq] at h4
      rw [← h4.2]
      exact ⟨fun id h=>List.mem_append_right _ h,fun id off h=>List.mem_append_left _ (by rw [h];exact List.mem_cons_self ..)⟩
  refine ⟨fun id hid=>sub.1 id (i0 id hid),fun j id off hsj hj hog=>?_⟩
  by_cases hjm:j = m
  ·subst hjm;exact sub.2 id off hog
  ·exact sub.1 id (i1 j id off hsj (by omega) hog)
theorem RunS.callTouch {i j:Nat} {o p:Oper} (hsi:s≤i) (hi:i < k) (hsj:s≤j) (hj:j < k) (ho:ops[i]? = some o) (hp:ops[j]? = some p) (hpc:(plainCall X call ops h0 o (S i)).isSome = true) (hpl:(R i).plain) (hnj:¬ (R j).plain):∀ id ∈ touches ((S j).get X) p (R j),h0.length≤id:=by
 intro id hid
 have hne:i ≠ j:=fun e=>hnj (e ▸ hpl)
 by_cases hij:i < j
 ·have hC:=ra.clAt d hsi ho hpc j hij (by omega)
  have h4:=ra.clo j p hp hsj hj
  unfold besideB at h4
  split at h4
  ·cases h4
  ·split at h4
   ·rename_i hpj
    exact (hnj (ra.pcRec hsj hj hp hpj).1).elim
   ·split at h4
    ·cases h4
    ·rename_i hc
     apply Classical.byContradiction
     intro hlt
     exact hc (by
      unfold hurts
      rw [hC,if_neg (fun hh=>hnj (Rec.plainB_iff.1 hh)),Bool.true_and,List.any_eq_true]
      exact ⟨id,hid,decide_eq_true (by omega)⟩)
 ·exact (ra.clEmpty hsi hi ho hpc).1 id ((ra.kept d i (by omega) (by omega)).2.2 j p id hsj (by omega) hp hnj hid)
theorem RunS.callLoad {i j:Nat} {o p:Oper} {id off:Nat} (hsi:s≤i) (hi:i < k) (hsj:s≤j) (hj:j < k) (ho:ops[i]? = some o) (hp:ops[j]? = some p) (hpc:(plainCall X call ops h0 o (S i)).isSome = true) (hpl:(R j).plain) (hog:(R j).og = some (.cell id off)):False:=by
 by_cases hij:i < j
 ·have hC:=ra.clAt d hsi ho hpc j hij (by omega)
  have h4:=ra.clo j p hp hsj hj
  unfold besideB at h4
  split at h4
  ·cases h4
  ·split at h4
   ·rename_i hpj
    rw [(ra.pcRec hsj hj hp hpj).2] at hog
    cases hog
   ·split at h4
    ·cases h4
    ·rename_i hc
     exact hc (by
      unfold hurts
      rw [hC,Rec.plainB_iff.2 hpl,hog]
      rfl)
 ·by_cases hij2:i = j
  ·subst hij2
   rw [(ra.pcRec hsi hi ho hpc).2] at hog
   cases hog
  ·have:=(ra.ogKept d i hsi (by omega)).2 j id off hsj (by omega) hog
   rw [(ra.clEmpty hsi hi ho hpc).2] at this
   cases this
theorem RunS.callLds {i:Nat} {o:Oper} {id:Nat} (hsi:s≤i) (hi:i < k) (ho:ops[i]? = some o) (hpc:(plainCall X call ops h0 o (S i)).isSome = true) (hid:id ∈ lds0):False:=by
 have:=(ra.ogKept d i hsi (by omega)).1 id hid
 rw [(ra.clEmpty hsi hi ho hpc).2] at this
 cases this
end
end
section
variable {X:Ctx} {base N s k e:Nat} {call:CallF} {ops:Array Oper} {h0:List Ob} {lds0:List Nat}
structure InvS (ops:Array Oper) (s k:Nat) (S:Nat→St) (R:Nat→Rec) (L:Array Bool) (sR:St):Prop where
 c1:∀ (j:Nat) (o:Oper) (t:Nat),s≤j→j < k→L[j]? = some true→ops[j]? = some o→o.dst = some t→lookT t sR.s = (R j).v
 c2:∀ t:Nat,(∀ (j:Nat) (o:Oper),s≤j→j < k→L[j]? = some true→ops[j]? = some o→o.dst ≠ some t)→lookT t sR.s = lookT t (S s).s
 c3:∃ m,s≤m∧m≤k∧sR.h = (S m).h∧∀ j,s≤j→j < k→¬ (R j).plain→(L[j]? = some true ↔ j < m)
 c4:∀ (j:Nat) (o:Oper) (t:Nat) (l:Loc),s≤j→j < k→L[j]? = some true→ops[j]? = some o→o.dst = some t→(R j).og = some l→(∀ (i:Nat) (p:Oper) (u:Nat),j < i→i < k→L[i]? = some true→ops[i]? = some p→l = .slot u→p.dst ≠ some u)→(t,l) ∈ sR.og
 c5:∀ (t:Nat) (l:Loc),(t,l) ∈ sR.og→(t,l) ∈ (S s).og∨∃ (j:Nat) (o:Oper),s≤j∧j < k∧ops[j]? = some o∧(R j).og = some l
 c6:∀ (t:Nat) (l:Loc),(t,l) ∈ (S s).og→(∀ (j:Nat) (o:Oper),s≤j→j < k→L[j]? = some true→ops[j]? = some o→o.dst ≠ some t∧∀ u,l = .slot u→o.dst ≠ some u)→(t,l) ∈ sR.og
variable {S:Nat→St} {R:Nat→Rec} {B:Nat→Bk} {C:Nat→Bool × List Nat} {L:Array Bool} {sR:St}
theorem InvS.at (d:SegOk ops s k e) (ra:RunS X call N ops s k h0 lds0 S R B C) (inv:InvS ops s k S R L sR) (hcl:Closed ops L) {i:Nat} (hsi:s≤i) (hi:i < k) (hL:L[i]? = some false) (hr:∀ p,ops[i]? = some p→∀ j ∈ directs p,L[j]? = some true) (hn:¬ (R i).plain) :
  sR.h = (S i).h∧∀ j,s≤j→j < k→¬ (R j).plain→(L[j]? = some true ↔ j < i):=by
 obtain ⟨m,hsm,hm,h1,h2⟩:=inv.c3
 have key:∀ j,s≤j→j < k→¬ (R j).plain→(L[j]? = some true ↔ j < i):=fun j hsj hj hnj=>by
  constructor
  ·intro hl
   apply Classical.byContradiction
   intro hge
   by_cases hji:j = i
   ·rw [hji,hL] at hl;simp at hl
   ·have hanc:=ra.order d j i hsi (by omega) hj hnj hn
    have:=hcl.anc hanc fun q hq=>hcl j q hq hl
    rw [hL] at this
    simp at this
  ·intro hji
   exact hcl.anc (ra.order d i j hsj hji hi hn hnj) hr
 exact ⟨h1.trans (ra.constH d hsm hm hsi (by omega) fun j hsj hj hnj=>(h2 j hsj hj hnj).symm.trans (key j hsj hj hnj)),key⟩
theorem InvS.set (d:SegOk ops s k e) (ra:RunS X call N ops s k h0 lds0 S R B C) (inv:InvS ops s k S R L sR) (hcl:Closed ops L) {i:Nat} {o:Oper} (hsi:s≤i) (hi:i < k) (ho:ops[i]? = some o) (hL:L[i]? = some false) (hr:∀ p,ops[i]? = some p→∀ j ∈ directs p,L[j]? = some true) :
  InvS ops s k S R (L.setIfInBounds i true) ((R i).on o.dst sR) where
 c1:=fun j p t hsj hj hl hp hd=>by
  rw [on_look]
  rw [listed_set hL] at hl
  by_cases hji:j = i
  ·subst hji
   rw [ho] at hp
   cases hp
   rw [if_pos hd]
  ·rw [if_neg fun hh=>hji (d.dist j i p o t hp hsj hj ho hsi hi hd hh)]
   exact inv.c1 j p t hsj hj (hl.resolve_left hji) hp hd
 c2:=fun t h=>by
  rw [on_look,if_neg (h i o hsi hi ((listed_set hL).2 (.inl rfl)) ho)]
  exact inv.c2 t fun j p hsj hj hl hp=>h j p hsj hj ((listed_set hL).2 (.inr hl)) hp
 c3:=by
  rw [on_h]
  by_cases hb:(R i).plain
  ·rw [Rec.eff_plain hb]
   obtain ⟨m,hsm,hm,h1,h2⟩:=inv.c3
   refine ⟨m,hsm,hm,h1,fun j hsj hj hnj=>?_⟩
   rw [listed_set hL,← h2 j hsj hj hnj]
   constructor
   ·rintro (rfl | h)
    ·exact (hnj hb).elim
    ·exact h
   ·exact .inr
  ·obtain ⟨h1,h2⟩:=inv.at d ra hcl hsi hi hL hr hb
   obtain ⟨_,_,h3,_⟩:=ra.step i o ho hsi hi
   refine ⟨i + 1,by omega,by omega,by rw [h1,h3,on_h],fun j hsj hj hnj=>?_⟩
   rw [listed_set hL,h2 j hsj hj hnj]
   omega
 c4:=fun j p t l hsj hj hl hp hd hog hno=>by
  rw [listed_set hL] at hl
  by_cases hji:j = i
  ·subst hji
   rw [ho] at hp
   cases hp
   rw [hd]
   exact on_og_new hog
  ·have hlj:=hl.resolve_left hji
   refine on_og_keep (inv.c4 j p t l hsj hj hlj hp hd hog fun i' q u h1 h2 h3=>hno i' q u h1 h2 ((listed_set hL).2 (.inr h3))) (fun hh=>hji (d.dist j i p o t hp hsj hj ho hsi hi hd hh)) fun u hu hh=>?_
   subst hu
   obtain ⟨_,h2,_⟩:=ra.step j p hp hsj hj
   have hlook:=recA_og (recB_og h2 hog) hog
   rcases d.look j i p o u hp hsj hj hlook ho hsi hi hh with ⟨_,hanc⟩ | ⟨hji2,hanc⟩
   ·have:=hcl.anc hanc fun q hq=>hcl j q hq hlj
    rw [hL] at this
    simp at this
   ·exact hno i o u hji2 hi ((listed_set hL).2 (.inl rfl)) ho rfl hh
 c5:=fun t l h=>by
  rcases on_og _ _ _ h with h | ⟨_,h⟩
  ·exact inv.c5 t l h
  ·exact .inr ⟨i,o,hsi,hi,ho,h⟩
 c6:=fun t l h hn=>by
  obtain ⟨n1,n2⟩:=hn i o hsi hi ((listed_set hL).2 (.inl rfl)) ho
  exact on_og_keep (inv.c6 t l h fun j p hsj hj hl hp=>hn j p hsj hj ((listed_set hL).2 (.inr hl)) hp) n1 n2
theorem InvS.see (d:SegOk ops s k e) (ra:RunS X call N ops s k h0 lds0 S R B C) (inv:InvS ops s k S R L sR) (hcl:Closed ops L) {i:Nat} {o:Oper} (hsi:s≤i) (hi:i < k) (ho:ops[i]? = some o) (hL:L[i]? = some false) (hr:∀ p,ops[i]? = some p→∀ j ∈ directs p,L[j]? = some true) {t:Nat} (ht:t ∈ o.looksAt ops) :
  lookT t (S i).s = lookT t sR.s:=by
 have none:(∀ (j:Nat) (p:Oper),s≤j→j < i→ops[j]? = some p→p.dst ≠ some t)→(∀ (j:Nat) (p:Oper),s≤j→j < k→L[j]? = some true→ops[j]? = some p→p.dst ≠ some t)→lookT t (S i).s = lookT t sR.s:=fun h1 h2=>by
  rw [ra.old d t i hsi (by omega) h1,inv.c2 t h2]
 by_cases h:∃ (j:Nat) (p:Oper),s≤j∧j < k∧ops[j]? = some p∧p.dst = some t
 ·obtain ⟨j,p,hsj,hj,hp,hd⟩:=h
  rcases d.look i j o p t ho hsi hi ht hp hsj hj hd with ⟨h1,h2⟩ | ⟨h1,h2⟩
  ·have hl:=hcl.anc h2 hr
   rw [ra.new d hsj hp hd i (by omega) h1,inv.c1 j p t hsj hj hl hp hd]
  ·have hnl:L[j]? ≠ some true:=fun hl=>by
    have:=hcl.anc h2 fun q hq=>hcl j q hq hl
    rw [hL] at this
    simp at this
   refine none (fun j' p' hsj' hj' hp' hd' => ?_) (fun j' p' hsj' hj' hl' hp' hd' => ?_)
   ·have:=d.dist j' j p' p t hp' hsj' (by omega) hp hsj hj hd' hd
    omega
   ·have:=d.dist j' j p' p t hp' hsj' hj' hp hsj hj hd' hd
    subst this
    exact hnl hl'
 ·have hno:∀ (j:Nat) (p:Oper),s≤j→j < k→ops[j]? = some p→p.dst ≠ some t:=fun j p hsj hj hp hd=>h ⟨j,p,hsj,hj,hp,hd⟩
  exact none (fun j p hsj hj hp=>hno j p hsj (by omega) hp) fun j p hsj hj _ hp=>hno j p hsj hj hp
theorem InvS.done (d:SegOk ops s k e) (ra:RunS X call N ops s k h0 lds0 S R B C) (inv:InvS ops s k S R L sR) (hall:∀ j,j < k→L[j]? = some true) {a:Act} {w:World} {g:Gh} (rl:Rel X base N sR a w g):Rel X base N (S k) a w g:=by
 have hh:sR.h = (S k).h:=by
  obtain ⟨m,hsm,hm,h1,h2⟩:=inv.c3
  exact h1.trans (ra.constH d hsm hm d.hs (Nat.le_refl _) fun j hsj hj hnj=>(h2 j hsj hj hnj).symm.trans ⟨fun _=>hj,fun _=>hall j hj⟩)
 refine ⟨rl.defers,rl.size,fun t=>?_,?_,?_,fun t l hm=>?_⟩
 ·have:lookT t (S k).s = lookT t sR.s:=by
   by_cases h:∃ (j:Nat) (p:Oper),s≤j∧j < k∧ops[j]? = some p∧p.dst = some t
   ·obtain ⟨j,p,hsj,hj,hp,hd⟩:=h
    rw [ra.new d hsj hp hd k (Nat.le_refl _) hj,inv.c1 j p t hsj hj (hall j hj) hp hd]
   ·have hno:∀ (j:Nat) (p:Oper),s≤j→j < k→ops[j]? = some p→p.dst ≠ some t:=fun j p hsj hj hp hd=>h ⟨j,p,hsj,hj,hp,hd⟩
    rw [ra.old d t k d.hs (Nat.le_refl _) hno,inv.c2 t fun j p hsj hj _ hp=>hno j p hsj hj hp]
  rw [this]
  exact rl.slots t
 ·rw [← hh];exact rl.sit
 ·rw [← hh];exact rl.low
 ·rcases ra.og d k d.hs (Nat.le_refl _) t l hm with ⟨h1,h2⟩ | ⟨j,o,hsj,h1,h2,h3,h4,h5⟩
  ·exact rl.og t l (inv.c6 t l h1 fun j o hsj hj _ ho=>h2 j o hsj hj ho)
  ·exact rl.og t l (inv.c4 j o t l hsj h1 (hall j h1) h2 h3 h4 fun i p u hji hi _ hp hu=>h5 i p u hji hi hp hu)
def PhaseS (X:Ctx) (call:CallF) (base N:Nat) (ops:Array Oper) (s k e:Nat) (S:Nat→St) (R:Nat→Rec) (stE:St) (L:Array Bool) (a:Act) (w:World) (g:Gh):Prop :=
 ((∀ i,k≤i→L[i]? ≠ some true)∧(∀ j,j < s→L[j]? = some true)∧∃ sR,InvS ops s k S R L sR∧Rel X base N sR a w g) ∨
 ∃ m st,k≤m∧m≤e∧(∀ j,L[j]? = some true ↔ j < m)∧runOps X call base N ops ((ops.toList.drop m).take (e - m)) st = some stE∧Rel X base N st a w g
theorem Rel.lessOg {st st':St} {a:Act} {w:World} {g:Gh} (r:Rel X base N st a w g) (hs:st'.s = st.s) (hh:st'.h = st.h) (ho:∀ x ∈ st'.og,x ∈ st.og):Rel X base N st' a w g :=
 ⟨r.defers,r.size,fun t=>by rw [hs];exact r.slots t,by rw [hh];exact r.sit,by rw [hh];exact r.low,fun t l hm=>r.og t l (ho _ hm)⟩
theorem forget_rel {o:Oper} {r:Rec} {st:St} {dst:Option Tmp} {a:Act} {w:World} {g:Gh} (h:Rel X base N (r.on dst st) a w g):Rel X base N ((r.forget X o).on dst st) a w g:=by
 cases hf:(r.forget X o).og with
 | some l=>rw [forget_og hf];exact h
 | none =>
  have hv:(r.forget X o).v = r.v:=by
   unfold Rec.forget
   split
   ·split <;> rfl
   ·rfl
  have e:(r.forget X o).on dst st = { st with h:=r.eff st.h }.put dst r.v:=by
   unfold Rec.on
   rw [hf,forget_eff,hv]
  rw [e]
  unfold Rec.on at h
  split at h
  ·rename_i l hl
   cases dst with
   | none=>exact h
   | some t=>exact h.lessOg rfl rfl fun x hx=>List.mem_cons_of_mem _ hx
  ·exact h
theorem stepB_sound {o:Oper} {st sR:St} {r:Rec} {a:Act} {w:World} {g:Gh} (h:recB X call ops h0 o st = some r) (hop:∀ x ∈ o.op.operands,st.get X x = sR.get X x) (hg:guardOf X ops st o = guardOf X ops sR o)
  (hpl:r.plain→∀ id,ldOf (st.get X) o = some id→id < h0.length→sR.h[id]? = h0[id]?) (hnp:¬ r.plain→sR.h = st.h) (hca:∀ c,o.op = .call c→¬ r.plain→st.h = h0)
  (hog:¬ r.plain→∀ (t id j:Nat),(t,Loc.cell id j) ∈ sR.og→id ∉ touches (st.get X) o r)
  (hpc:(plainCall X call ops h0 o st).isSome = true→(∀ id,id < h0.length→sR.h[id]? = h0[id]?)∧∀ (t id j:Nat),(t,Loc.cell id j) ∉ sR.og)
  (hN:dstOk N o = true) (rl:Rel X base N sR a w g) (hc:CallPOk X call) (hci:CallIOk X call) {K:Act→World→Prop} {Q:Exit→Act→World→Prop}
  (hK:Goes X base N (r.on o.dst sR) g w K):if Region.wanted o (yielded ops a.tmps) then o.wp X.P a w K Q∨(o.asks X.P a w∧LetsOut Q) else K (a.put o.dst undef) w:=by
 rcases recB_cases h with ⟨r0,h',rfl⟩ | ⟨v,hv,rfl⟩
 ·refine stepA_sound h' hop hg (fun hp=>hpl (forget_plain.2 hp)) (fun hp=>hnp fun hh=>hp (forget_plain.1 hh)) (fun c hcc hp=>hca c hcc fun hh=>hp (forget_plain.1 hh)) (fun hp=>?_) hN rl hc hci fun a' w' g' l' r' => hK a' w' g' l' (forget_rel r')
  have:=hog fun hh=>hp (forget_plain.1 hh)
  rwa [forget_touches] at this
 ·obtain ⟨hh,hno⟩:=hpc (by rw [hv];rfl)
  unfold plainCall at hv
  split at hv
  ·rename_i v' h1 hgt hcaa
   split at hv
   ·rename_i hsame
    cases hv
    have hs:=sameObs_eq _ _ hsame
    obtain ⟨c,f,gf,ca,cb,hopc,hf,hcal,hcall,hy,hle,hargs,hlow,hne⟩:=callA_spec hcaa
    rw [hg] at hgt
    rw [if_pos (guard_sound hgt rl)]
    left
    have hxf:=hop f (by rw [hopc];simp [Op.operands,Call.operands,hf])
    have hxs:copies (st.get X) c.args = copies (sR.get X) c.args:=by
     unfold copies
     apply List.map_congr_left
     intro x hx
     rw [hop x (by rw [hopc];simp only [Op.operands,Call.operands,hf];simp at hx;simp [hx])]
    have htk:h0.take h1.length = sR.h.take h1.length:=by
     apply List.ext_getElem?
     intro i
     rw [List.getElem?_take,List.getElem?_take]
     split
     ·rename_i hi;exact (hh i (by omega)).symm
     ·rfl
    have hpos:0 < h1.length:=List.length_pos_iff.2 hne
    have hm:h1.length≤sR.h.length:=by
     have:=hh (h1.length - 1) (by omega)
     rw [List.getElem?_eq_getElem (l:=h0) (by omega)] at this
     have:=(List.getElem?_eq_some_iff.1 this).1
     omega
    rw [hxf] at hcal
    rw [hxs,htk] at hcall
    rw [hxs] at hargs
    rw [htk] at hlow
    refine step_callF hopc hf hcal hcall rfl hm hargs hlow hy (fun t id j hmm=>(hno t id j hmm).elim) hci hN rl ?_
    have e1:h1 ++ sR.h.drop h1.length = sR.h:=by
     have:h1 = sR.h.take h1.length:=by rw [← htk];exact hs
     generalize hm':h1.length = m at *
     rw [this,List.take_append_drop]
    rw [e1]
    have e2:({ sR with h:=sR.h ++ [] }:St) = sR:=by simp
    simp only [Rec.on,Rec.eff,e2] at hK
    exact hK
   ·cases hv
  ·cases hv
section
variable {stE:St} {a:Act} {w:World} {g:Gh}
theorem PhaseS.second (d:SegOk ops s k e) (ra:RunS X call N ops s k h0 lds0 S R B C) (hB:runOps X call base N ops ((ops.toList.drop k).take (e - k)) (S k) = some stE) (h:PhaseS X call base N ops s k e S R stE L a w g) (hall:∀ j,j < k→L[j]? = some true) :
  ∃ m st,k≤m∧m≤e∧(∀ j,L[j]? = some true ↔ j < m)∧runOps X call base N ops ((ops.toList.drop m).take (e - m)) st = some stE∧Rel X base N st a w g:=by
 rcases h with ⟨h1,_,sR,h2,h3⟩ | h
 ·refine ⟨k,S k,Nat.le_refl _,d.hk,fun j=>⟨fun hj=>?_,hall j⟩,hB,h2.done d ra hall h3⟩
  apply Classical.byContradiction
  intro hn
  exact h1 j (by omega) hj
 ·exact h
theorem seg_any {md:Region.Mode} (hmd:∀ L:Array Bool,L.size = ops.size→Region.ready md ops L = [] → ∀ i,i < ops.size→L[i]? = some true) (d:SegOk ops s k e) (hc:CallPOk X call) (hci:CallIOk X call) (ra:RunS X call N ops s k h0 lds0 S R B C) (h00:(S s).h = h0)
  (hl0:∀ (t id j:Nat),(t,Loc.cell id j) ∈ (S s).og→id ∈ lds0) (hB:runOps X call base N ops ((ops.toList.drop k).take (e - k)) (S k) = some stE) {g0:Gh} {w0:World} {Q:Exit→Act→World→Prop}
  (H:∀ (fuel:Nat) (L:Array Bool) (a:Act) (w:World) (g:Gh),unl L = fuel→L.size = ops.size→Closed ops L→(∀ j,L[j]? = some true ↔ j < e)→Later g0 w0 g w→Rel X base N stE a w g→wpAny X.P md ops Q fuel L a w) :
  ∀ (fuel:Nat) (L:Array Bool) (a:Act) (w:World) (g:Gh),unl L = fuel→L.size = ops.size→Closed ops L→Later g0 w0 g w→PhaseS X call base N ops s k e S R stE L a w g→wpAny X.P md ops Q fuel L a w:=by
 have fin:∀ (fuel:Nat) (L:Array Bool) (a:Act) (w:World) (g:Gh),unl L = fuel→L.size = ops.size→Closed ops L→Later g0 w0 g w→PhaseS X call base N ops s k e S R stE L a w g→(∀ i,i < e→L[i]? = some true)→wpAny X.P md ops Q fuel L a w:=by
  intro fuel L a w g hu hs hcl hl hp hall
  obtain ⟨m,st,h1,h2,h3,h4,h5⟩:=hp.second d ra hB fun j hj=>hall j (by have:=d.hk;omega)
  have hm:m = e:=by
   apply Classical.byContradiction
   intro hn
   have:=(h3 m).1 (hall m (by omega))
   omega
  subst hm
  rw [Nat.sub_self,List.take_zero] at h4
  simp [runOps] at h4
  subst h4
  exact H fuel L a w g hu hs hcl h3 hl h5
 intro fuel
 induction fuel with
 | zero =>
  intro L a w g hu hs hcl hl hp
  have hall:∀ i,i < e→L[i]? = some true:=fun i hi=>unl_zero hu (by have:=d.he;omega)
  exact fin 0 L a w g hu hs hcl hl hp hall
 | succ fuel ih =>
  intro L a w g hu hs hcl hl hp
  by_cases hdone:∀ i,i < e→L[i]? = some true
  ·exact fin _ L a w g hu hs hcl hl hp hdone
  refine ⟨fun hr=>(hdone fun i hi=>hmd L hs hr i (by have:=d.he;omega)).elim,fun i hi=>?_⟩
  obtain ⟨hi1,hi2⟩:=ready_md hs hi
  have hlt:i < ops.size:=by have:=(Array.getElem?_eq_some_iff.1 hi1).1;omega
  have ho:ops[i]? = some ops[i]:=Array.getElem?_eq_getElem hlt
  generalize ops[i] = o at ho
  have hcl':=hcl.set hi1 hi2
  have hs':(L.setIfInBounds i true).size = ops.size:=by simpa using hs
  have hu':unl (L.setIfInBounds i true) = fuel:=by have:=unl_set hi1;omega
  have nl:L[i]? ≠ some true:=by rw [hi1];simp
  have hie:i < e:=by
   apply Classical.byContradiction
   intro hn
   exact hdone fun j hj=>hcl.anc (d.bar i (by omega) hlt j hj) hi2
  unfold wpOp
  simp only [ho]
  by_cases hik:i < k
  ·rcases hp with ⟨h1,hls,sR,inv,rl⟩ | ⟨m,st,h1,h2,h3,_⟩
   ·have hsi:s≤i:=by
     apply Classical.byContradiction
     intro hn
     exact nl (hls i (by omega))
    obtain ⟨hN,hrec,hnext,_⟩:=ra.step i o ho hsi hik
    have hsee:∀ t,t ∈ o.looksAt ops→lookT t (S i).s = lookT t sR.s:=fun t ht=>inv.see d ra hcl hsi hik ho hi1 hi2 ht
    have hhs:(R i).plain→∀ id,ldOf ((S i).get X) o = some id→id < h0.length→sR.h[id]? = h0[id]?:=fun hpl id hid hlt' => by
     obtain ⟨m,hsm,hm,h1,_⟩:=inv.c3
     rw [h1]
     exact ra.oldBox d h00 hlt' (fun j p hsj hj hp hnj=>ra.apart d hsi hik hsj hj ho hp hpl hnj hid) m hsm hm
    have hogs:¬ (R i).plain→∀ (t id j:Nat),(t,Loc.cell id j) ∈ sR.og→id ∉ touches ((S i).get X) o (R i):=fun hn t id j hm=>by
     rcases inv.c5 t _ hm with h2 | ⟨j',o',hsj,h1,h2,h3⟩
     ·exact ra.apart0 d hsi hik ho hn (hl0 t id j h2)
     ·obtain ⟨_,h4,_,_⟩:=ra.step j' o' h2 hsj h1
      have hpl:(R j').plain:=by
       apply Classical.byContradiction
       intro hn'
       have:=(recA_np (recB_np h4 hn') hn').2.1
       rw [h3] at this
       cases this
      exact ra.apart d hsj h1 hsi hik h2 ho hpl hn (recA_og2 (recB_og h4 h3) h3)
    have hnps:¬ (R i).plain→sR.h = (S i).h:=fun hn=>(inv.at d ra hcl hsi hik hi1 hi2 hn).1
    have hcas:∀ c,o.op = .call c→¬ (R i).plain→(S i).h = h0:=fun c hcc hn=>by
     rw [← h00]
     exact ra.const d i s (Nat.le_refl _) hsi (by omega) fun j hsj hj=>ra.callFirst d hsi hik ho hn hcc j hsj hj
    have hpcs:(plainCall X call ops h0 o (S i)).isSome = true→(∀ id,id < h0.length→sR.h[id]? = h0[id]?)∧∀ (t id j:Nat),(t,Loc.cell id j) ∉ sR.og:=fun hpc=>by
     have hpl:=(ra.pcRec hsi hik ho hpc).1
     refine ⟨fun id hlt' => ?_,fun t id j hm=>?_⟩
     ·obtain ⟨m,hsm,hm,h1,_⟩:=inv.c3
      rw [h1]
      exact ra.oldBox d h00 hlt' (fun j p hsj hj hp hnj hm' => by have:=ra.callTouch d hsi hik hsj hj ho hp hpc hpl hnj id hm';omega) m hsm hm
     ·rcases inv.c5 t _ hm with h2 | ⟨j',o',hsj,h1,h2,h3⟩
      ·exact ra.callLds d hsi hik ho hpc (hl0 t id j h2)
      ·obtain ⟨_,h4,_,_⟩:=ra.step j' o' h2 hsj h1
       have hpl':(R j').plain:=by
        apply Classical.byContradiction
        intro hn'
        have:=(recA_np (recB_np h4 hn') hn').2.1
        rw [h3] at this
        cases this
       exact ra.callLoad d hsi hik hsj h1 ho h2 hpc hpl' h3
    refine stepB_sound hrec (fun x hx=>?_) (guardOf_see hsee) hhs hnps hcas hogs hpcs hN rl hc hci fun a' w' g' l' r' => ?_
    ·cases x with
     | tmp t=>exact hsee t (List.mem_append_left _ (List.mem_filterMap.2 ⟨.tmp t,by simpa using hx,rfl⟩))
     | _=>rfl
    ·refine ih _ a' w' g' hu' hs' hcl' (hl.trans l') (.inl ⟨fun j hj hjl=>?_,fun j hj=>(listed_set hi1).2 (.inr (hls j hj)),_,inv.set d ra hcl hsi hik ho hi1 hi2,r'⟩)
     rw [listed_set hi1] at hjl
     rcases hjl with rfl | hjl
     ·omega
     ·exact h1 j hj hjl
   ·exact (nl ((h3 i).2 (by omega))).elim
  ·have hbelow:∀ j,j < i→L[j]? = some true:=fun j hj=>hcl.anc (d.full i (by omega) hie j hj) hi2
   obtain ⟨m,st,h1,h2,h3,h4,rl⟩:=hp.second d ra hB fun j hj=>hbelow j (by omega)
   have hmi:m = i:=by
    have e1:¬ i < m:=fun hh=>nl ((h3 i).2 hh)
    have e2:¬ m < i:=fun hh=>by have:=(h3 m).1 (hbelow m hh);omega
    omega
   subst hmi
   have hdrop:(ops.toList.drop m).take (e - m) = o :: (ops.toList.drop (m + 1)).take (e - (m + 1)):=by
    rw [List.drop_eq_getElem_cons (by simpa using hlt),show e - m = (e - (m + 1)) + 1 by omega,List.take_succ_cons]
    congr 1
    have:=Array.getElem?_eq_some_iff.1 ho
    simpa using this.2
   rw [hdrop] at h4
   simp only [runOps] at h4
   have ph:∀ (st1:St) (a':Act) (w':World) (g':Gh),runOps X call base N ops ((ops.toList.drop (m + 1)).take (e - (m + 1))) st1 = some stE→Rel X base N st1 a' w' g' → PhaseS X call base N ops s k e S R stE (L.setIfInBounds m true) a' w' g':=by
    intro st1 a' w' g' hrun r'
    refine .inr ⟨m + 1,st1,by omega,by omega,fun j=>?_,hrun,r'⟩
    rw [listed_set hi1,h3 j]
    omega
   split at h4
   ·rename_i hN
    split at h4
    ·rename_i hg
     rw [if_pos (guard_sound hg rl)]
     left
     split at h4
     ·rename_i st1 hst
      exact stepAll_sound hst hN rl hc hci fun a' w' g' l' r' => ih _ a' w' g' hu' hs' hcl' (hl.trans l') (ph st1 a' w' g' h4 r')
     ·cases h4
    ·rename_i hg
     rw [if_neg (by rw [guard_sound hg rl];simp)]
     exact ih _ _ w g hu' hs' hcl' hl (ph _ _ w g h4 (rl.put hN fun d _=>.d _ _ _ (.tup [] [] rfl (by intro j v d hj;simp at hj))))
    ·cases h4
   ·cases h4
end
end
section
variable {X:Ctx} {base N s k e:Nat} {call:CallF} {ops:Array Oper}
theorem fullAt0 {m i j:Nat} (h:fullAt 0 m i = true) (hj:j < i):m.testBit j = true:=by
 have:=fullAt_spec (F:=[]) (m:=m) (i:=i) (j:=j) (by simpa [maskL] using h) hj
 rcases this with h | h
 ·exact h
 ·cases h
theorem segOkB_spec (h:segOkB ops (masks ops.toList []) s k e = true):SegOk ops s k e:=by
 unfold segOkB at h
 simp only [Bool.and_eq_true,decide_eq_true_eq] at h
 obtain ⟨⟨⟨⟨⟨⟨h1,h2⟩,h3⟩,h4⟩,h5⟩,h6⟩,h7⟩:=h
 have hmem:∀ {i:Nat} {o:Oper},ops[i]? = some o→(o,i) ∈ ops.toList.zipIdx:=fun {i o} ho=>by
  rw [List.mem_zipIdx_iff_getElem?]
  simpa using ho
 refine ⟨h1,h2,h3,fun i o ho j hj=>?_,fun i j o p t ho hsi hi ht hp hsj hj hd=>?_,fun i j o p t ho hsi hi hp hsj hj hd hd2=>?_,fun i hki hie j hj=>?_,fun i hei hi j hj=>?_⟩
 ·have:=List.all_eq_true.1 h4 _ (hmem ho)
  exact of_decide_eq_true (List.all_eq_true.1 this j hj)
 ·have:=List.all_eq_true.1 h7 _ (hmem ho)
  simp only [Bool.or_eq_true,decide_eq_true_eq] at this
  have:=(this.resolve_left (by omega))
  have:=List.all_eq_true.1 this _ (hmem hp)
  simp only [Bool.or_eq_true,decide_eq_true_eq] at this
  have:=this.resolve_left (by omega)
  rw [hd] at this
  simp only [Bool.and_eq_true,Bool.or_eq_true,decide_eq_true_eq,Bool.not_eq_true'] at this
  rcases this.1 with (h | h) | h
  ·rw [List.contains_eq_mem,decide_eq_false_iff_not] at h
   exact (h ht).elim
  ·exact .inl ⟨h.1,masks_anc h.2⟩
  ·exact .inr ⟨h.1,masks_anc h.2⟩
 ·have:=List.all_eq_true.1 h7 _ (hmem ho)
  simp only [Bool.or_eq_true,decide_eq_true_eq] at this
  have:=(this.resolve_left (by omega))
  have:=List.all_eq_true.1 this _ (hmem hp)
  simp only [Bool.or_eq_true,decide_eq_true_eq] at this
  have:=this.resolve_left (by omega)
  rw [hd2] at this
  simp only [Bool.and_eq_true,Bool.or_eq_true,decide_eq_true_eq,Bool.not_eq_true',beq_iff_eq,bne_iff_ne,ne_eq] at this
  rcases this.2 with h | h
  ·exact h
  ·exact (h hd).elim
 ·have:=List.all_eq_true.1 h5 i (List.mem_range.2 hie)
  simp only [Bool.or_eq_true,decide_eq_true_eq] at this
  exact masks_anc (fullAt0 (this.resolve_left (by omega)) hj)
 ·unfold barAt at h6
  have:=List.all_eq_true.1 h6 i (List.mem_range.2 hi)
  simp only [Bool.or_eq_true,decide_eq_true_eq] at this
  exact masks_anc (fullAt0 (this.resolve_left (by omega)) hj)
theorem ready_lt (d:∀ (i:Nat) (o:Oper),ops[i]? = some o→∀ j ∈ directs o,j < i) {L:Array Bool} (hL:L.size = ops.size) (h:Region.ready .any ops L = []):∀ i,i < ops.size→L[i]? = some true:=by
 intro i
 induction i using Nat.strongRecOn with
 | ind i ih =>
  intro hi
  have hlt:i < L.size:=by omega
  cases hb:L[i] with
  | true=>rw [Array.getElem?_eq_getElem hlt,hb]
  | false =>
   have:i ∈ Region.ready .any ops L:=(ready_iff hL).2 ⟨by rw [Array.getElem?_eq_getElem hlt,hb],fun o ho j hj=>ih j (d i o ho j hj) (by have:=d i o ho j hj;omega)⟩
   rw [h] at this
   cases this
theorem runSegs_sound {md:Region.Mode} (hmd:∀ L:Array Bool,L.size = ops.size→Region.ready md ops L = [] → ∀ i,i < ops.size→L[i]? = some true) (hc:CallPOk X call) (hci:CallIOk X call) {g0:Gh} {w0:World} {Q:Exit→Act→World→Prop} {stE:St}
  (hK:∀ a w g,Later g0 w0 g w→Rel X base N stE a w g→Q .normal a w):∀ (f s:Nat) (st:St),runSegs X call base N ops (masks ops.toList []) f s st = some stE →
  ∀ (fuel:Nat) (L:Array Bool) (a:Act) (w:World) (g:Gh),unl L = fuel→L.size = ops.size→Closed ops L→(∀ j,L[j]? = some true ↔ j < s)→Later g0 w0 g w→Rel X base N st a w g→wpAny X.P md ops Q fuel L a w:=by
 intro f
 induction f with
 | zero=>intro s st h;cases h
 | succ f ih =>
  intro s st h fuel L a w g hu hs hcl hL hl rl
  simp only [runSegs] at h
  split at h
  ·rename_i hse
   simp only [Option.some.injEq] at h
   subst h
   have hall:∀ i,i < ops.size→L[i]? = some true:=fun i hi=>(hL i).2 (by omega)
   have hno:∀ i,i ∈ Region.ready md ops L→False:=fun i hi=>by
    have h1:=(ready_md hs hi).1
    have hlt:=(Array.getElem?_eq_some_iff.1 h1).1
    rw [hall i (by omega)] at h1
    simp at h1
   cases fuel with
   | zero=>exact ⟨List.eq_nil_iff_forall_not_mem.2 fun i hi=>hno i hi,hK a w g hl rl⟩
   | succ n=>exact ⟨fun _=>hK a w g hl rl,fun i hi=>(hno i hi).elim⟩
  ·generalize nextBar ops.size (masks ops.toList []) s = e at h
   generalize (if e = s + 1 then s else e) = k at h
   split at h
   ·rename_i hok
    have d:=segOkB_spec hok
    split at h
    ·rename_i st1 hA
     split at h
     ·rename_i st2 hB
      obtain ⟨S,R,B,C,ra,h0,h1⟩:=runS_run d.hs (Nat.le_trans d.hk d.he) hA
      rw [← h1] at hB
      refine seg_any hmd d hc hci ra (by rw [h0]) (fun t id j hm=>?_) hB (g0:=g0) (w0:=w0) (fun fuel L a w g hu hs hcl hL hl rl=>ih e st2 h fuel L a w g hu hs hcl hL hl rl) fuel L a w g hu hs hcl hl (.inl ⟨fun i hi hli=>?_,fun j hj=>(hL j).2 hj,S s,⟨fun j o t hsj hj hlj=>?_,fun t _=>rfl,⟨s,Nat.le_refl _,d.hs,rfl,fun j hsj hj _=>?_⟩,fun j o t l hsj hj hlj=>?_,fun t l hm=>.inl hm,fun t l hm _=>hm⟩,by rw [h0];exact rl⟩)
      ·rw [h0] at hm
       unfold cellIds
       exact List.mem_filterMap.2 ⟨_,hm,rfl⟩
      ·have:=(hL i).1 hli
       have:=d.hs
       omega
      ·have:=(hL j).1 hlj;omega
      ·rw [hL j]
      ·have:=(hL j).1 hlj;omega
     ·cases h
    ·cases h
   ·cases h
end
theorem swapId_inv (n m i:Nat):swapId n m (swapId n m i) = i:=by
 unfold swapId
 by_cases h1:i = n
 ·subst h1
  rw [if_pos rfl]
  by_cases h2:m = i
  ·rw [if_pos h2,h2]
  ·rw [if_neg h2,if_pos rfl]
 ·rw [if_neg h1]
  by_cases h2:i = m
  ·subst h2;rw [if_pos rfl,if_pos rfl]
  ·rw [if_neg h2,if_neg h1,if_neg h2]
theorem swapId_low {n m i b:Nat} (hi:i < b) (hn:b≤n) (hm:b≤m):swapId n m i = i:=by
 unfold swapId
 rw [if_neg (by omega),if_neg (by omega)]
theorem swapId_lt {n m i l:Nat} (hn:n < l) (hm:m < l):swapId n m i < l ↔ i < l:=by
 unfold swapId
 split
 ·omega
 ·split <;> omega
def Own.ren (n m:Nat):Own→Own
 | .obj i=>.obj (swapId n m i)
 | .cell i j=>.cell (swapId n m i) j
 | p=>p
structure Rens (n m:Nat) (g g':Gh):Prop where
 μ:∀ (id b:Nat),g.μ[id]? = some b→g'.μ[swapId n m id]? = some b
 own:∀ b,g'.own b = (g.own b).ren n m
 e:g'.e = g.e
 pin:g'.pin = g.pin
theorem renVs_get (n m:Nat):∀ (l:List V) (j:Nat),(renVs n m l)[j]? = (l[j]?).map (V.ren n m)
 | [],_=>by simp [renVs]
 | v :: l,0=>by simp [renVs]
 | v :: l,j + 1=>by simp [renVs,renVs_get n m l j]
theorem renVs_length (n m:Nat):∀ (l:List V),(renVs n m l).length = l.length
 | []=>by simp [renVs]
 | v :: l=>by simp [renVs,renVs_length n m l]
section
variable {X:Ctx} {n m:Nat} {g g':Gh} {w:World}
theorem Rens.repV (r:Rens n m g g') {p:Own} {v:Value} {x:V} (h:RepV X w g p v x):RepV X w g' (p.ren n m) v (x.ren n m):=by
 induction h with
 | d p v x h=>exact .d _ v x (by rw [r.e];exact h)
 | tail p E cells k b c cur z vals hz hz0 hb hn hm hcur hcl he ho hp hv hr =>
  refine .tail _ E cells k b c cur z vals hz hz0 hb hn hm hcur hcl (by rw [r.e];exact he) (by rw [r.own,ho]) ?_ hv (fun j v d h1 h2=>by rw [r.e];exact hr j v d h1 h2)
  obtain ⟨t,i,j,h | h⟩:=hp
  ·exact ⟨t,i,j,.inl (by rw [h];rfl)⟩
  ·exact ⟨t,swapId n m i,j,.inr (by rw [h];rfl)⟩
 | tail0 p E a=>exact .tail0 _ E a
 | full p b o cells k h=>exact .full _ b o cells k (by rw [r.e];exact h)
 | obj p id off b h=>exact .obj _ _ off b (r.μ id b h)
 | osl p id off k c b h hn=>exact .osl _ _ off k c b (r.μ id b h) hn
 | clo p fn va vb a b hla hlb _ _ iha ihb =>
  refine .clo _ fn va vb _ _ (by rw [renVs_length];exact hla) (by rw [renVs_length];exact hlb) (fun j v x h1 h2=>?_) (fun j v x h1 h2=>?_)
  ·rw [renVs_get] at h2
   cases ha:a[j]? with
   | none=>rw [ha] at h2;cases h2
   | some y=>rw [ha] at h2;cases h2;exact iha j v y h1 ha
  ·rw [renVs_get] at h2
   cases hb:b[j]? with
   | none=>rw [hb] at h2;cases h2
   | some y=>rw [hb] at h2;cases h2;exact ihb j v y h1 hb
 | agg p vals vs hl _ ih =>
  refine .agg _ vals _ (by rw [renVs_length];exact hl) (fun j v x h1 h2=>?_)
  rw [renVs_get] at h2
  cases hb:vs[j]? with
  | none=>rw [hb] at h2;cases h2
  | some y=>rw [hb] at h2;cases h2;exact ih j v y h1 hb
 | tup p vals vs hl _ ih =>
  refine .tup _ vals _ (by rw [renVs_length];exact hl) (fun j v x h1 h2=>?_)
  rw [renVs_get] at h2
  cases hb:vs[j]? with
  | none=>rw [hb] at h2;cases h2
  | some y=>rw [hb] at h2;cases h2;exact ih j v y h1 hb
 | mp p id b h=>exact .mp _ _ b (r.μ id b h)
 | it p id b h=>exact .it _ _ b (r.μ id b h)
theorem Rens.repOb (r:Rens n m g g') {id b:Nat} {o:Ob} (h:RepOb X w g id b o):RepOb X w g' (swapId n m id) b (o.ren n m):=by
 cases o with
 | cells vs =>
  obtain ⟨vals,T,h1,h2,h3,h4⟩:=h
  refine ⟨vals,T,h1,by rw [renVs_length];exact h2,by rw [r.e];exact h3,fun j v x k1 k2=>?_⟩
  rw [renVs_get] at k2
  cases hb:vs[j]? with
  | none=>rw [hb] at k2;cases k2
  | some y=>rw [hb] at k2;cases k2;exact r.repV (h4 j v y k1 hb)
 | frozen ds=>obtain ⟨vals,T,h1,h2,h3,h4⟩:=h;exact ⟨vals,T,h1,h2,by rw [r.e];exact h3,fun j v x k1 k2=>by rw [r.e];exact h4 j v x k1 k2⟩
 | map es ck=>obtain ⟨en,h1,h2,h3,h4⟩:=h;exact ⟨en,h1,h2,by rw [r.e];exact h3,fun j v x k1 k2=>by rw [r.e];exact h4 j v x k1 k2⟩
 | iter s pos=>exact ⟨h.1,by rw [r.e];exact h.2⟩
end
def Gh.ren (g:Gh) (n m:Nat):Gh:={ μ:=(List.range g.μ.length).map fun i=>g.μ.getD (swapId n m i) 0,e:=g.e,own:=fun b=>(g.own b).ren n m,pin:=g.pin }
theorem ren_get {g:Gh} {n m:Nat} (hn:n < g.μ.length) (hm:m < g.μ.length) (id:Nat):(g.ren n m).μ[id]? = g.μ[swapId n m id]?:=by
 simp only [Gh.ren,List.getElem?_map]
 by_cases h:id < g.μ.length
 ·rw [List.getElem?_range h,Option.map_some,List.getElem?_eq_getElem ((swapId_lt hn hm).2 h),List.getD_eq_getElem?_getD,List.getElem?_eq_getElem ((swapId_lt hn hm).2 h)]
  rfl
 ·rw [List.getElem?_eq_none (by simpa using h),List.getElem?_eq_none (by have:=mt (swapId_lt (i:=id) hn hm).1 h;omega)]
  rfl
theorem rens_ren {g:Gh} {n m:Nat} (hn:n < g.μ.length) (hm:m < g.μ.length):Rens n m g (g.ren n m) :=
 ⟨fun id b h=>by rw [ren_get hn hm,swapId_inv];exact h,fun _=>rfl,rfl,rfl⟩
theorem Rel.ren {X:Ctx} {base N n m:Nat} {st st':St} {a:Act} {w:World} {g:Gh} (rl:Rel X base N st a w g) (bn:base≤n) (bm:base≤m) (hn:n < st.h.length) (hm:m < st.h.length)
  (hs:∀ t,lookT t st'.s = (lookT t st.s).ren n m) (hl:st'.h.length = st.h.length) (hh:∀ id o,st'.h[id]? = some o→∃ o',st.h[swapId n m id]? = some o' ∧ o = o'.ren n m) (hog:st'.og = []) :
  Later g w (g.ren n m) w∧Rel X base N st' a w (g.ren n m):=by
 have hlen:=rl.sit.heap.len
 have gn:n < g.μ.length:=by omega
 have gm:m < g.μ.length:=by omega
 have r:=rens_ren gn gm
 have lat:Later g w (g.ren n m) w:=⟨rfl,rfl,rfl,Nat.le_refl _,fun _ _ _=>rfl,fun _=>Nat.le_refl _,fun b hb=>⟨rfl,by rw [r.own,hb];rfl,rfl⟩,rfl⟩
 refine ⟨lat,⟨rl.defers,rl.size,fun t=>?_,⟨fun b hb=>?_,⟨?_,fun id b hb=>?_,fun id b o hb ho=>?_⟩,rl.sit.glob.later lat⟩,⟨by rw [hl];exact rl.low.1,fun k hk hk2 id b o hid hb ho=>?_,fun id b hid hb=>?_⟩,fun t l hm=>by rw [hog] at hm;cases hm⟩⟩
 ·rw [hs];exact r.repV (rl.slots t)
 ·obtain ⟨h1,h2⟩:=rl.sit.fresh b hb
  exact ⟨by rw [r.own,h1];rfl,h2⟩
 ·simp only [Gh.ren,List.length_map,List.length_range];omega
 ·rw [ren_get gn gm] at hb
  rw [r.own,rl.sit.heap.own _ _ hb,Own.ren,swapId_inv]
 ·rw [ren_get gn gm] at hb
  obtain ⟨o',h1,rfl⟩:=hh id o ho
  have:=r.repOb (rl.sit.heap.ob _ _ _ hb h1)
  rwa [swapId_inv] at this
 ·have e:=swapId_low (n:=n) (m:=m) (b:=base) (Nat.lt_of_lt_of_le hid hk) bn bm
  rw [ren_get gn gm,e] at hb
  obtain ⟨o',h1,rfl⟩:=hh id o ho
  rw [e] at h1
  have:=rl.low.2.1 k hk hk2 id b o' hid hb h1
  have rt:Rens n m (g.trunc k) ((g.ren n m).trunc k):=⟨fun i c hc=>by
   obtain ⟨k1,k2⟩:=trunc_get hc
   rw [swapId_low (b:=base) (Nat.lt_of_lt_of_le k1 hk) bn bm]
   refine trunc_put k1 ?_
   rw [ren_get gn gm,swapId_low (b:=base) (Nat.lt_of_lt_of_le k1 hk) bn bm]
   exact k2,fun _=>rfl,rfl,rfl⟩
  have:=rt.repOb this
  rwa [e] at this
 ·rw [ren_get gn gm,swapId_low (b:=base) hid bn bm]
  exact rl.low.2.2 id b hid hb
def Waits (dir:Nat→Nat→Prop):List Nat→List Nat→Prop
 | _,[]=>True
 | done,i :: r=>(∀ j,dir i j→j ∈ done)∧Waits dir (i :: done) r
def Dir (ops:Array Oper) (i j:Nat):Prop:=∃ o,ops[i]? = some o∧j ∈ directs o
structure Ord (ops:Array Oper) (done l:List Nat):Prop where
 wait:Waits (Dir ops) done l
 nodup:l.Nodup
 all:∀ i,i ∈ l ↔ i < ops.size∧i ∉ done
section
variable {dir dir':Nat→Nat→Prop}
theorem Waits.mono (h:∀ i j,dir' i j→dir i j):∀ {l done:List Nat},Waits dir done l→Waits dir' done l
 | [],_,_=>trivial
 | i :: l,done,w=>⟨fun j hj=>w.1 j (h i j hj),Waits.mono h w.2⟩
theorem Waits.both:∀ {l done:List Nat},Waits dir done l→Waits dir' done l→Waits (fun i j=>dir i j∨dir' i j) done l
 | [],_,_,_=>trivial
 | i :: l,done,w,w' => ⟨fun j hj=>hj.elim (w.1 j) (w'.1 j),Waits.both w.2 w'.2⟩
theorem Waits.map {π:Nat→Nat}:∀ {l done:List Nat},Waits dir done l→(∀ x ∈ l,∀ j',dir' (π x) j' → ∃ j,dir x j∧π j = j')→Waits dir' (done.map π) (l.map π)
 | [],_,_,_=>trivial
 | i :: l,done,w,h=>⟨fun j' hj=>by
   obtain ⟨j,h1,rfl⟩:=h i (List.mem_cons_self ..) j' hj
   exact List.mem_map.2 ⟨j,w.1 j h1,rfl⟩,by
   have:=Waits.map w.2 fun x hx=>h x (List.mem_cons_of_mem _ hx)
   simpa using this⟩
theorem Waits.filter {p:Nat→Bool}:∀ {l done done':List Nat},Waits dir done l→(∀ j ∈ done,p j = true→j ∈ done')→Waits (fun i j=>dir i j∧p j = true) done' (l.filter p)
 | [],_,_,_,_=>trivial
 | i :: l,done,done',w,h=>by
  rw [List.filter_cons]
  split
  ·exact ⟨fun j hj=>h j (w.1 j hj.1) hj.2,Waits.filter w.2 fun j hj hp=>by
    rcases List.mem_cons.1 hj with rfl | hj
    ·exact List.mem_cons_self ..
    ·exact List.mem_cons_of_mem _ (h j hj hp)⟩
  ·rename_i hpi
   exact Waits.filter w.2 fun j hj hp=>by
    rcases List.mem_cons.1 hj with rfl | hj
    ·exact (hpi hp).elim
    ·exact h j hj hp
theorem waits_two (i j:Nat) (hne:i ≠ j):∀ (l done:List Nat),Waits (fun a b=>a = i∧b = j) done l∨Waits (fun a b=>a = j∧b = i) done l:=by
 have sat:∀ (a b:Nat) (l done:List Nat),b ∈ done→Waits (fun x y=>x = a∧y = b) done l:=by
  intro a b l
  induction l with
  | nil=>intro _ _;trivial
  | cons x l ih=>intro done hb;exact ⟨fun y hy=>by rw [hy.2];exact hb,ih _ (List.mem_cons_of_mem _ hb)⟩
 intro l
 induction l with
 | nil=>intro _;exact .inl trivial
 | cons x l ih =>
  intro done
  by_cases hi:x = i
  ·subst hi
   exact .inr ⟨fun y hy=>(hne hy.1).elim,sat _ _ _ _ (List.mem_cons_self ..)⟩
  ·by_cases hj:x = j
   ·subst hj
    exact .inl ⟨fun y hy=>(hi hy.1).elim,sat _ _ _ _ (List.mem_cons_self ..)⟩
   ·rcases ih (x :: done) with h | h
    ·exact .inl ⟨fun y hy=>(hi hy.1).elim,h⟩
    ·exact .inr ⟨fun y hy=>(hj hy.1).elim,h⟩
end
section
variable {P:Program} {ops ops':Array Oper} {Q:Exit→Act→World→Prop}
theorem Ord.sound:∀ (l done:List Nat) (L:Array Bool) (a:Act) (w:World),Ord ops done l→L.size = ops.size→(∀ j,L[j]? = some true ↔ j ∈ done)→wpAny P .any ops Q l.length L a w→wpOps P ops Q l a w:=by
 intro l
 induction l with
 | nil=>intro done L a w _ _ _ h;exact h.2
 | cons i r ih =>
  intro done L a w d hs hL h
  obtain ⟨h1,h2⟩:=(d.all i).1 (List.mem_cons_self ..)
  have hLi:L[i]? = some false:=by
   have hlt:i < L.size:=by omega
   cases hb:L[i] with
   | true=>exact (h2 ((hL i).1 (by rw [Array.getElem?_eq_getElem hlt,hb]))).elim
   | false=>rw [Array.getElem?_eq_getElem hlt,hb]
  have hr:i ∈ Region.ready .any ops L:=(ready_iff hs).2 ⟨hLi,fun o ho j hj=>(hL j).2 (d.wait.1 j ⟨o,ho,hj⟩)⟩
  rw [wpOps_cons]
  refine wpOp_mono (fun a' w' hw=>ih (i :: done) _ a' w' ⟨d.wait.2,(List.nodup_cons.1 d.nodup).2,fun j=>?_⟩ (by simpa using hs) (fun j=>?_) hw) (h.2 i hr)
  ·have:=d.all j
   rw [List.mem_cons] at this
   have hn:=(List.nodup_cons.1 d.nodup).1
   rw [List.mem_cons,not_or]
   constructor
   ·intro hj
    exact ⟨(this.1 (.inr hj)).1,fun e=>hn (e ▸ hj),(this.1 (.inr hj)).2⟩
   ·rintro ⟨k1,k2,k3⟩
    exact (this.2 ⟨k1,k3⟩).resolve_left k2
  ·rw [listed_set hLi,hL j,List.mem_cons]
theorem go_ord {md:Region.Mode} (hmd:∀ L:Array Bool,L.size = ops.size→Region.ready md ops L = [] → ∀ i,i < ops.size→L[i]? = some true) :
  ∀ (fuel t:Nat) (L:Array Bool) (done:List Nat),L.size = ops.size→unl L = fuel→(∀ j,L[j]? = some true ↔ j ∈ done)→Ord ops done (Region.linearise.go md ops fuel t L []):=by
 intro fuel
 induction fuel with
 | zero =>
  intro t L done hs hu hL
  refine ⟨trivial,List.nodup_nil,fun i=>⟨fun h=>(by cases h),fun h=>(h.2 ((hL i).1 (unl_zero hu (by omega)))).elim⟩⟩
 | succ fuel ih =>
  intro t L done hs hu hL
  simp only [Region.linearise.go]
  change Ord ops done (match (Region.ready md ops L)[t % (Region.ready md ops L).length]? with
   | some i=>Region.linearise.go md ops fuel (t / (Region.ready md ops L).length) (L.setIfInBounds i true) [i]
   | none=>[].reverse)
  cases hi:(Region.ready md ops L)[t % (Region.ready md ops L).length]? with
  | none =>
   have hnil:Region.ready md ops L = []:=by
    cases hr:Region.ready md ops L with
    | nil=>rfl
    | cons x xs =>
     rw [hr] at hi
     have hlt:t % (x :: xs).length < (x :: xs).length:=Nat.mod_lt _ (by simp)
     simp at hi
     simp at hlt
     omega
   have hall:=hmd L hs hnil
   exact ⟨trivial,List.nodup_nil,fun i=>⟨fun h=>(by cases h),fun h=>(h.2 ((hL i).1 (hall i h.1))).elim⟩⟩
  | some i =>
   simp only []
   rw [linearise_go_acc,List.reverse_singleton,List.singleton_append]
   obtain ⟨k1,k2⟩:=ready_md hs (List.mem_of_getElem? hi)
   have hu':unl (L.setIfInBounds i true) = fuel:=by have:=unl_set k1;omega
   have d:=ih (t / (Region.ready md ops L).length) (L.setIfInBounds i true) (i :: done) (by simpa using hs) hu' (fun j=>by rw [listed_set k1,hL j,List.mem_cons])
   have hlt:i < ops.size:=by have:=(Array.getElem?_eq_some_iff.1 k1).1;omega
   have hnd:i ∉ done:=fun h=>by have:=(hL i).2 h;rw [k1] at this;simp at this
   refine ⟨⟨fun j hj=>?_,d.wait⟩,List.nodup_cons.2 ⟨fun h=>((d.all i).1 h).2 (List.mem_cons_self ..),d.nodup⟩,fun j=>?_⟩
   ·obtain ⟨o,ho,hj⟩:=hj
    exact (hL j).1 (k2 o ho j hj)
   ·rw [List.mem_cons,d.all j,List.mem_cons,not_or]
    constructor
    ·rintro (rfl | h)
     ·exact ⟨hlt,hnd⟩
     ·exact ⟨h.1,h.2.2⟩
    ·rintro ⟨h1,h2⟩
     by_cases h:j = i
     ·exact .inl h
     ·exact .inr ⟨h1,h,h2⟩
theorem wpOps_ren {π:Nat→Nat}:∀ (l:List Nat) (a:Act) (w:World),(∀ x ∈ l,∃ o o',ops[x]? = some o∧ops'[π x]? = some o' ∧ o'.dst = o.dst∧o'.op = o.op∧o'.type = o.type∧o'.pos = o.pos∧∀ tmps,Region.wanted o' (yielded ops' tmps) = Region.wanted o (yielded ops tmps)) →
  wpOps P ops' Q (l.map π) a w→wpOps P ops Q l a w:=by
 intro l
 induction l with
 | nil=>intro a w _ h;exact h
 | cons x l ih =>
  intro a w H h
  obtain ⟨o,o',h1,h2,h3,h4,h5,h6,h7⟩:=H x (List.mem_cons_self ..)
  rw [List.map_cons,wpOps_cons] at h
  rw [wpOps_cons]
  have e:∀ ρ,execOp ρ o' = execOp ρ o:=fun ρ=>by
   obtain ⟨d,op,ty,ps,af,gd⟩:=o
   obtain ⟨d',op',ty',ps',af',gd'⟩:=o'
   simp only at h3 h4 h5 h6
   subst h3;subst h4;subst h5;subst h6
   rfl
  have ih':=ih
  unfold wpOp at h ⊢
  simp only [h1,h2] at h ⊢
  rw [h7] at h
  split
  ·rename_i hw
   rw [if_pos hw] at h
   rcases h with h | ⟨h8,h9⟩
   ·left
    have:o.wp P a w (wpOps P ops' Q (l.map π)) Q:=by
     unfold Oper.wp at h ⊢
     rw [e] at h
     generalize (execOp a.eval o).run P w = r at h ⊢
     cases r with
     | ok n w' => cases n <;> simp only [Oper.upon,h3] at h ⊢ <;> exact h
     | halt x w' => cases x <;> simp only [Oper.upon,h3] at h ⊢ <;> exact h
    exact Oper.wp_mono (fun a w hh=>ih a w (fun y hy=>H y (List.mem_cons_of_mem _ hy)) hh) this
   ·right
    refine ⟨?_,h9⟩
    unfold Oper.asks at h8 ⊢
    rw [e] at h8
    exact h8
  ·rename_i hw
   rw [if_neg hw,h3] at h
   exact ih _ _ (fun y hy=>H y (List.mem_cons_of_mem _ hy)) h
theorem float_first {i:Nat} {oi:Oper} {v:Value} (hi:ops[i]? = some oi) (hsel:∀ (j:Nat) (o:Oper) cs b,ops[j]? = some o→o.op ≠ .select cs b) (hQ:∀ c a w,¬ Q (.panic c) a w) (l2:List Nat) :
  ∀ (l1:List Nat) (a:Act) (w:World),(∀ j ∈ l1,∃ oj,ops[j]? = some oj∧oi.apart ops oj = true)→Yields P ops oi v a→wpOps P ops Q (l1 ++ l2) (a.put oi.dst v) w→wpOps P ops Q (l1 ++ i :: l2) a w:=by
 intro l1
 induction l1 with
 | nil =>
  intro a w _ hy h
  rw [List.nil_append,wpOps_cons]
  exact hy.wpOp hi h
 | cons j l1 ih =>
  intro a w H hy h
  obtain ⟨oj,hj,hap⟩:=H j (List.mem_cons_self ..)
  rw [List.cons_append,wpOps_cons] at h ⊢
  have:=wpOp_put hj hap (fun cs b=>hsel i oi cs b hi) (fun cs b=>hsel j oj cs b hj) (fun c a w hq=>(hQ c _ w hq).elim) hy h
  exact wpOp_mono (fun a' w' h3=>ih a' w' (fun y hy=>H y (List.mem_cons_of_mem _ hy)) h3.1 h3.2) this
end
section
variable {X:Ctx} {base N:Nat} {ops:Array Oper} {st:St} {a:Act} {w:World} {g:Gh}
theorem still_any {w w':World} {p q:Own} {v:Value} {x:V} (hx:x.still = true) (h:RepV X w g p v x):RepV X w' g q v x:=by
 cases h with
 | d _ _ y h=>cases h <;> first | exact .d _ _ _ (.int _ _) | exact .d _ _ _ (.bool _) | (simp [V.still] at hx)
 | obj _ id off b h=>exact .obj _ id off b h
 | _=>simp [V.still] at hx
theorem still_inj {w w':World} {p q:Own} {v u:Value} {x:V} (hx:x.still = true) (h:RepV X w g p v x) (h':RepV X w' g q u x):v = u:=by
 cases h with
 | d _ _ y h =>
  cases h with
  | int k n=>cases h' with | d _ _ _ h' => cases h';rfl
  | bool b=>cases h' with | d _ _ _ h' => cases h';rfl
  | _=>simp [V.still] at hx
 | obj _ id off b h =>
  cases h' with
  | obj _ _ _ b' h' => rw [h] at h';cases h';rfl
 | _=>simp [V.still] at hx
theorem float_yields {o:Oper} {v:V} (h:floatV X (st.get X) o = some v) (rl:Rel X base N st a w g):∃ u,Yields X.P ops o u a∧∀ p,RepV X w g p u v:=by
 unfold floatV at h
 split at h
 ·rename_i x hg hop
  cases h
  obtain ⟨q,hq⟩:=rl.get x
  exact ⟨a.eval x,.inl ⟨by unfold Region.wanted;rw [hg],fun w' => by unfold execOp;simp [hop]⟩,fun p=>hq.copy⟩
 split at h
 ·rename_i hc
  rw [Bool.and_eq_true,Option.isNone_iff_eq_none] at hc
  obtain ⟨hg,hst⟩:=hc
  split at h
  ·rename_i v' hv
   split at h
   ·rename_i hvs
    cases h
    have ops':∀ w',RepOps X w' g a (st.get X) o:=fun w' x hx=>by
     obtain ⟨q,hq⟩:=rl.get x
     exact ⟨q,still_any (List.all_eq_true.1 hst x (by simpa using hx)) hq⟩
    have key:∀ w',∃ u,(execOp a.eval o).run X.P w' = .ok (.value u) w' ∧ RepV X w' g .free u v:=by
     intro w'
     have hr:=ops' w'
     split at hv
     ·rename_i x hop
      cases hv
      obtain ⟨q,hq⟩:=hr x (by simp [hop,Op.operands])
      exact ⟨a.eval x,by unfold execOp;simp [hop],still_any hvs hq⟩
     ·rename_i x hop
      split at hv
      ·rename_i id off hρ
       cases hv
       obtain ⟨q,hq⟩:=hr x (by simp [hop,Op.operands])
       rw [hρ] at hq
       generalize hve:a.eval x = y at hq
       have hq':RepV X w' g .free y (.obj id off):=hq.place (by simp)
       cases hq with
       | obj _ _ _ b hb=>exact ⟨_,by unfold execOp;simp [hop,hve],hq'⟩
      ·cases hv
     ·rename_i t x f hop
      obtain ⟨q,hq⟩:=hr x (by simp [hop,Op.operands])
      obtain ⟨u,h1,h2⟩:=fieldAddr_sound hv hq .free
      exact ⟨u,by unfold execOp;simp only [hop];simp only [Sem.run_bind,h1,Result.andThen_ok,Sem.run_pure],h2⟩
     ·rename_i t x i hop
      obtain ⟨q,hq⟩:=hr x (by simp [hop,Op.operands])
      obtain ⟨q',hq'⟩:=hr i (by simp [hop,Op.operands])
      obtain ⟨u,h1,h2⟩:=index_sound hv hq hq' .free
      exact ⟨u,by unfold execOp;simp only [hop];simp only [Sem.run_bind,h1,Result.andThen_ok,Sem.run_pure],h2⟩
     ·rename_i hop
      cases hd:pureOp X (st.get X) o with
      | none=>rw [hd] at hv;cases hv
      | some d =>
       rw [hd] at hv
       cases hv
       obtain ⟨u,h1,h2⟩:=pure_sound hd (fun cs b hh=>by rw [hop] at hh;cases hh) hr
       exact ⟨u,h1,.d _ _ _ h2⟩
     ·cases hv
    obtain ⟨u,h1,h2⟩:=key w
    refine ⟨u,.inl ⟨by unfold Region.wanted;rw [hg],fun w' => ?_⟩,fun p=>still_any hvs h2⟩
    obtain ⟨u',k1,k2⟩:=key w'
    rw [k1,still_inj hvs k2 h2]
   ·cases h
  ·cases h
 ·cases h
end
section
variable {P:Program} {ops:Array Oper} {Q:Exit→Act→World→Prop} {σ:List Nat}
theorem filterMap_get {α β:Type} {f:α→Option β}:∀ (l:List α),(∀ x ∈ l,(f x).isSome = true)→∀ k:Nat,(l.filterMap f)[k]? = (l[k]?).bind f
 | [],_,k=>by simp
 | x :: l,h,k=>by
  obtain ⟨y,hy⟩:=Option.isSome_iff_exists.1 (h x (List.mem_cons_self ..))
  rw [List.filterMap_cons_some hy]
  cases k with
  | zero=>simp [hy]
  | succ k=>simpa using filterMap_get l (fun x hx=>h x (List.mem_cons_of_mem _ hx)) k
theorem filterMap_len {α β:Type} {f:α→Option β}:∀ (l:List α),(∀ x ∈ l,(f x).isSome = true)→(l.filterMap f).length = l.length
 | [],_=>rfl
 | x :: l,h=>by
  obtain ⟨y,hy⟩:=Option.isSome_iff_exists.1 (h x (List.mem_cons_self ..))
  rw [List.filterMap_cons_some hy]
  simp [filterMap_len l (fun x hx=>h x (List.mem_cons_of_mem _ hx))]
theorem renOk_spec (h:renOkB ops σ = true) {i:Nat} (hi:i ∈ σ):∃ o,ops[i]? = some o∧∀ gd b,o.guard = some (gd,b)→gd ∈ σ:=by
 have:=List.all_eq_true.1 h i hi
 split at this
 ·rename_i o ho
  refine ⟨o,ho,fun gd b hg=>?_⟩
  rw [hg] at this
  simpa using this
 ·cases this
theorem renOps_get (h:renOkB ops σ = true) (k:Nat):(renOps ops σ)[k]? = (σ[k]?).bind fun i=>(ops[i]?).map (renOper σ):=by
 unfold renOps
 rw [List.getElem?_toArray]
 exact filterMap_get σ (fun x hx=>by obtain ⟨o,ho,_⟩:=renOk_spec h hx;rw [ho];rfl) k
theorem renOps_size (h:renOkB ops σ = true):(renOps ops σ).size = σ.length:=by
 unfold renOps
 rw [List.size_toArray]
 exact filterMap_len σ (fun x hx=>by obtain ⟨o,ho,_⟩:=renOk_spec h hx;rw [ho];rfl)
theorem idx_get {x:Nat} (hx:x ∈ σ):σ[σ.idxOf x]? = some x:=by
 have h:=List.idxOf_lt_length_of_mem hx
 rw [List.getElem?_eq_getElem h,List.getElem_idxOf h]
theorem renOps_at (h:renOkB ops σ = true) {x:Nat} {o:Oper} (hx:x ∈ σ) (ho:ops[x]? = some o):(renOps ops σ)[σ.idxOf x]? = some (renOper σ o):=by
 rw [renOps_get h,idx_get hx,Option.bind_some,ho]
 rfl
theorem ren_wanted (h:renOkB ops σ = true) {x:Nat} {o:Oper} (hx:x ∈ σ) (ho:ops[x]? = some o) (tmps:Array Value):Region.wanted (renOper σ o) (yielded (renOps ops σ) tmps) = Region.wanted o (yielded ops tmps):=by
 obtain ⟨o',ho',hgd⟩:=renOk_spec h hx
 rw [ho] at ho'
 cases ho'
 unfold Region.wanted
 cases hg:o.guard with
 | none=>simp [renOper,hg]
 | some gb =>
  obtain ⟨gd,b⟩:=gb
  have hm:=hgd gd b hg
  obtain ⟨p,hp,_⟩:=renOk_spec h hm
  have:yielded (renOps ops σ) tmps (σ.idxOf gd) = yielded ops tmps gd:=by
   unfold yielded
   rw [renOps_at h hm hp,hp]
   rfl
  simp [renOper,hg,this]
theorem ren_directs {o:Oper} {j':Nat} (h:j' ∈ directs (renOper σ o)):∃ j,j ∈ directs o∧j ∈ σ∧σ.idxOf j = j':=by
 unfold directs renOper at h
 rw [List.mem_filterMap] at h
 obtain ⟨e',he',hb⟩:=h
 simp only [List.mem_filterMap] at he'
 obtain ⟨e,he,hee⟩:=he'
 split at hee
 ·rename_i hc
  cases hee
  split at hb
  ·rename_i hbd
   cases hb
   refine ⟨e.on,List.mem_filterMap.2 ⟨e,he,?_⟩,by simpa using hc,rfl⟩
   rw [if_pos (by unfold Region.binds at hbd ⊢;exact hbd)]
  ·cases hb
 ·cases hee
theorem Ord.ren {l:List Nat} (d:Ord ops [] l) (h:renOkB ops σ = true) (hnd:σ.Nodup):Ord (renOps ops σ) [] ((l.filter fun x=>σ.contains x).map fun x=>σ.idxOf x):=by
 have hmem:∀ x,x ∈ l.filter (fun x=>σ.contains x) ↔ x ∈ σ:=fun x=>by
  rw [List.mem_filter,d.all x]
  constructor
  ·rintro ⟨_,h2⟩;simpa using h2
  ·intro hx
   obtain ⟨o,ho,_⟩:=renOk_spec h hx
   exact ⟨⟨(Array.getElem?_eq_some_iff.1 ho).1,by simp⟩,by simpa using hx⟩
 refine ⟨?_,?_,fun i=>?_⟩
 ·have w1:=Waits.filter (p:=fun x=>σ.contains x) (done':=[]) d.wait (fun j hj=>by cases hj)
  have:=Waits.map (π:=fun x=>σ.idxOf x) (dir':=Dir (renOps ops σ)) w1 fun x hx j' hj=>by
   obtain ⟨o',ho',hj⟩:=hj
   have hxs:=(hmem x).1 hx
   obtain ⟨o,ho,_⟩:=renOk_spec h hxs
   rw [renOps_at h hxs ho] at ho'
   cases ho'
   obtain ⟨j,h1,h2,h3⟩:=ren_directs hj
   exact ⟨j,⟨⟨o,ho,h1⟩,by simpa using h2⟩,h3⟩
  simpa using this
 ·unfold List.Nodup
  rw [List.pairwise_map]
  have hp:(l.filter fun x=>σ.contains x).Nodup:=d.nodup.filter _
  refine List.Pairwise.imp_of_mem ?_ hp
  intro x y hx hy hne he
  have h1:=idx_get ((hmem x).1 hx)
  have h2:=idx_get ((hmem y).1 hy)
  rw [he,h2] at h1
  cases h1
  exact hne rfl
 ·rw [List.mem_map,renOps_size h]
  constructor
  ·rintro ⟨x,hx,rfl⟩
   exact ⟨List.idxOf_lt_length_of_mem ((hmem x).1 hx),by simp⟩
  ·rintro ⟨hi,_⟩
   refine ⟨σ[i],(hmem _).2 (List.getElem_mem hi),?_⟩
   have h1:=idx_get (List.getElem_mem hi)
   have hlt:=List.idxOf_lt_length_of_mem (List.getElem_mem hi)
   rw [List.getElem?_eq_getElem hlt] at h1
   have h2:σ[σ.idxOf σ[i]] = σ[i]:=List.getElem_idxOf hlt
   exact (List.getElem_inj hnd).1 h2
theorem wpOps_renOps {l:List Nat} (h:renOkB ops σ = true) (hl:∀ x ∈ l,x ∈ σ) {a:Act} {w:World} (hw:wpOps P (renOps ops σ) Q (l.map fun x=>σ.idxOf x) a w):wpOps P ops Q l a w :=
 wpOps_ren l a w (fun x hx=>by
  obtain ⟨o,ho,_⟩:=renOk_spec h (hl x hx)
  exact ⟨o,renOper σ o,ho,renOps_at h (hl x hx) ho,rfl,rfl,rfl,rfl,ren_wanted h (hl x hx) ho⟩) hw
def edgeOper (i j k:Nat) (o:Oper):Oper:=if k = i then { o with after:=o.after.push ⟨j,.phase⟩ } else o
theorem edge_dst (i j k:Nat) (o:Oper):(edgeOper i j k o).dst = o.dst:=by unfold edgeOper;split <;> rfl
theorem edge_op (i j k:Nat) (o:Oper):(edgeOper i j k o).op = o.op:=by unfold edgeOper;split <;> rfl
theorem edge_type (i j k:Nat) (o:Oper):(edgeOper i j k o).type = o.type:=by unfold edgeOper;split <;> rfl
theorem edge_pos (i j k:Nat) (o:Oper):(edgeOper i j k o).pos = o.pos:=by unfold edgeOper;split <;> rfl
theorem edge_guard (i j k:Nat) (o:Oper):(edgeOper i j k o).guard = o.guard:=by unfold edgeOper;split <;> rfl
theorem edge_directs {i j k b:Nat} {o:Oper} (h:b ∈ directs (edgeOper i j k o)):b ∈ directs o∨(k = i∧b = j):=by
 unfold edgeOper at h
 split at h
 ·rename_i hk
  unfold directs at h
  simp only [Array.toList_push,List.filterMap_append,List.mem_append] at h
  rcases h with h | h
  ·exact .inl h
  ·refine .inr ⟨hk,?_⟩
   simpa [Region.binds] using h
 ·exact .inl h
theorem addEdge_get (ops:Array Oper) (i j k:Nat):(addEdge ops i j)[k]? = (ops[k]?).map (edgeOper i j k):=by
 unfold addEdge
 rw [Array.getElem?_modify]
 by_cases h:i = k
 ·subst h
  rw [if_pos rfl]
  cases ops[i]? with
  | none=>rfl
  | some o=>simp [edgeOper]
 ·rw [if_neg h]
  cases ops[k]? with
  | none=>rfl
  | some o=>simp [edgeOper,Ne.symm h]
theorem Ord.edge {i j:Nat} {l:List Nat} (d:Ord ops [] l) (hw:Waits (fun a b=>a = i∧b = j) [] l):Ord (addEdge ops i j) [] l:=by
 refine ⟨Waits.mono (fun a b hab=>?_) (Waits.both d.wait hw),d.nodup,fun x=>?_⟩
 ·obtain ⟨o',ho',hb⟩:=hab
  rw [addEdge_get] at ho'
  cases ho:ops[a]? with
  | none=>rw [ho] at ho';cases ho'
  | some o =>
   rw [ho] at ho'
   cases ho'
   exact (edge_directs hb).imp (fun h=>⟨o,ho,h⟩) id
 ·rw [d.all x]
  have:(addEdge ops i j).size = ops.size:=by simp [addEdge]
  rw [this]
theorem wpOps_edge {i j:Nat} {l:List Nat} (hl:∀ x ∈ l,x < ops.size) {a:Act} {w:World} (h:wpOps P (addEdge ops i j) Q l a w):wpOps P ops Q l a w:=by
 refine wpOps_ren (π:=id) l a w (fun x hx=>?_) (by simpa using h)
 have ho:ops[x]? = some (ops[x]'(hl x hx)):=Array.getElem?_eq_getElem _
 generalize ops[x]'(hl x hx) = o at ho
 refine ⟨o,_,ho,by rw [id,addEdge_get,ho];rfl,edge_dst ..,edge_op ..,edge_type ..,edge_pos ..,fun tmps=>?_⟩
 have hy:yielded (addEdge ops i j) tmps = yielded ops tmps:=by
  funext k
  unfold yielded
  rw [addEdge_get]
  cases ops[k]? with
  | none=>rfl
  | some p=>simp only [Option.map_some,Option.bind_some,edge_dst]
 rw [hy]
 unfold Region.wanted
 rw [edge_guard]
end
section
variable {X:Ctx} {base N:Nat} {call:CallF} {ops:Array Oper} {st:St} {a:Act} {w:World} {g:Gh}
theorem backs_lt (h:backs ops = true):∀ (i:Nat) (o:Oper),ops[i]? = some o→∀ j ∈ directs o,j < i:=fun i o ho j hj=>by
 have:=List.all_eq_true.1 h (o,i) (by rw [List.mem_zipIdx_iff_getElem?];simpa using ho)
 exact of_decide_eq_true (List.all_eq_true.1 this j hj)
theorem swapL_mem {n i j x:Nat} (hi:i < n) (hj:j < n):x ∈ swapL n i j ↔ x < n:=by
 unfold swapL
 rw [List.mem_map]
 constructor
 ·rintro ⟨y,hy,rfl⟩
  exact (swapId_lt hi hj).2 (List.mem_range.1 hy)
 ·intro hx
  exact ⟨swapId i j x,List.mem_range.2 ((swapId_lt hi hj).2 hx),swapId_inv i j x⟩
theorem swapId_inj {n m i j:Nat} (h:swapId n m i = swapId n m j):i = j:=by rw [← swapId_inv n m i,h,swapId_inv]
theorem swapL_nodup {n i j:Nat}:(swapL n i j).Nodup:=by
 unfold swapL List.Nodup
 rw [List.pairwise_map]
 exact List.Pairwise.imp (fun hne h=>hne (swapId_inj h)) (List.nodup_range (n:=n))
theorem swapL_idx {n i j x:Nat} (hi:i < n) (hj:j < n) (hx:x < n):(swapL n i j).idxOf x = swapId i j x:=by
 have hm:=(swapL_mem hi hj).2 hx
 have hlt:=List.idxOf_lt_length_of_mem hm
 generalize hk:(swapL n i j).idxOf x = k at hlt ⊢
 have h1:(swapL n i j)[k] = x:=by
  subst hk
  exact List.getElem_idxOf hlt
 have h2:(swapL n i j)[k] = swapId i j k:=by simp [swapL]
 rw [h1] at h2
 rw [h2,swapId_inv]
theorem sameRen_spec {n m:Nat} {s1 s2:St} (h:sameRen n m s1 s2 = true):(∀ t,lookT t s1.s = (lookT t s2.s).ren n m)∧s1.h = renH n m s2.h:=by
 unfold sameRen at h
 rw [Bool.and_eq_true,Bool.and_eq_true] at h
 obtain ⟨⟨h1,h2⟩,h3⟩:=h
 refine ⟨fun t=>?_,sameObs_eq _ _ h1⟩
 have key:∀ (l:List (Nat × V)),(∀ v,(t,v) ∉ l)→lookT t l = und:=by
  intro l
  induction l with
  | nil=>intro _;rfl
  | cons x l ih =>
   intro hn
   obtain ⟨u,v⟩:=x
   simp only [lookT]
   rw [if_neg]
   ·exact ih fun v' hv=>hn v' (List.mem_cons_of_mem _ hv)
   ·intro he
    rw [beq_iff_eq] at he
    exact hn v (by rw [he];exact List.mem_cons_self ..)
 by_cases a1:∃ v,(t,v) ∈ s1.s
 ·obtain ⟨v,hv⟩:=a1
  exact V.same_eq _ _ (List.all_eq_true.1 h2 _ hv)
 ·by_cases a2:∃ v,(t,v) ∈ s2.s
  ·obtain ⟨v,hv⟩:=a2
   exact V.same_eq _ _ (List.all_eq_true.1 h3 _ hv)
  ·rw [key s1.s fun v hv=>a1 ⟨v,hv⟩,key s2.s fun v hv=>a2 ⟨v,hv⟩]
   rfl
theorem renH_get {n m:Nat} {h:List Ob} {id:Nat} {o:Ob} (hn:n < h.length) (hm:m < h.length) (ho:(renH n m h)[id]? = some o):∃ o',h[swapId n m id]? = some o' ∧ o = o'.ren n m:=by
 unfold renH at ho
 rw [List.getElem?_map] at ho
 by_cases hlt:id < h.length
 ·rw [List.getElem?_range hlt] at ho
  have hs:=(swapId_lt (i:=id) hn hm).2 hlt
  refine ⟨h[swapId n m id],List.getElem?_eq_getElem hs,?_⟩
  simp only [Option.map_some,Option.some.injEq] at ho
  rw [← ho,List.getD_eq_getElem?_getD,List.getElem?_eq_getElem hs]
  rfl
 ·rw [List.getElem?_eq_none (by simpa using hlt)] at ho
  cases ho
theorem floatAt_spec {i:Nat} {o:Oper} {v:V} (h:floatAt X N ops st i = some (o,v)) :
  ops[i]? = some o∧dstOk N o = true∧Region.free .any ops (Array.replicate ops.size false) i = true∧Region.noSelect ops = true∧renOkB ops ((List.range ops.size).filter (· != i)) = true∧floatV X (st.get X) o = some v:=by
 unfold floatAt at h
 split at h
 ·rename_i o' ho
  split at h
  ·rename_i hc
   simp only [Bool.and_eq_true,beq_iff_eq] at hc
   obtain ⟨⟨⟨h2,h3⟩,h4⟩,h5⟩:=hc
   cases hv:floatV X (st.get X) o' with
   | none=>rw [hv] at h;cases h
   | some y=>rw [hv] at h;cases h;exact ⟨ho,h2,h3,h4,h5,hv⟩
  ·cases h
 ·cases h
theorem unord_spec {i j:Nat} (h:unord ops = some (i,j)):i < j∧j < ops.size:=by
 unfold unord at h
 obtain ⟨x,hx,hh⟩:=List.exists_of_findSome?_eq_some h
 have hxs:=List.mem_range.1 (List.mem_filter.1 hx).1
 cases hf:(List.range x).find? fun i=>isAlloc ops i && !((masks ops.toList []).getD x 0).testBit i with
 | none=>rw [hf] at hh;cases hh
 | some y =>
  rw [hf] at hh
  cases hh
  exact ⟨List.mem_range.1 (List.mem_of_find?_eq_some hf),hxs⟩
theorem Waits.notIn {dir:Nat→Nat→Prop} {i:Nat}:∀ (l1 l2 done:List Nat),Waits dir done (l1 ++ i :: l2)→i ∉ done→i ∉ l1→∀ j ∈ l1,¬ dir j i
 | [],_,_,_,_,_,j,hj=>by cases hj
 | x :: l1,l2,done,w,hd,hn,j,hj=>by
  rcases List.mem_cons.1 hj with rfl | hj
  ·exact fun h=>hd (w.1 i h)
  ·exact Waits.notIn l1 l2 (x :: done) w.2 (fun h=>(List.mem_cons.1 h).elim (fun e=>hn (e ▸ List.mem_cons_self ..)) hd) (fun h=>hn (List.mem_cons_of_mem _ h)) j hj
theorem runX_sound {Q:Exit→Act→World→Prop} (hc:CallPOk X call) (hci:CallIOk X call) (hQ:∀ c a w,¬ Q (.panic c) a w):∀ (f:Nat) (b:Bool) (ops:Array Oper) (st st':St),runX X call base N f b ops st = some st' → st.og = [] →
  ∀ (l:List Nat) (a:Act) (w:World) (g:Gh),Ord ops [] l→Rel X base N st a w g→(∀ a' w' g',Later g w g' w' → Rel X base N st' a' w' g' → Q .normal a' w')→wpOps X.P ops Q l a w:=by
 have segs:∀ (ops:Array Oper) (st st':St),backs ops = true→runSegs X call base N ops (masks ops.toList []) (ops.size + 1) 0 st = some st' → ∀ (l:List Nat) (a:Act) (w:World) (g:Gh),Ord ops [] l→Rel X base N st a w g→(∀ a' w' g',Later g w g' w' → Rel X base N st' a' w' g' → Q .normal a' w')→wpOps X.P ops Q l a w:=by
  intro ops st st' hb h l a w g d rl hK
  have none:∀ i,(Array.replicate ops.size false)[i]? ≠ some true:=fun i hl=>by
   rw [Array.getElem?_replicate] at hl
   split at hl <;> simp at hl
  have hlen:l.length = ops.size:=by
   have h1:l.Perm (List.range ops.size):=by
    rw [List.perm_ext_iff_of_nodup d.nodup List.nodup_range]
    intro x
    rw [d.all x,List.mem_range]
    simp
   have:=h1.length_eq
   simpa using this
  refine Ord.sound l [] (Array.replicate ops.size false) a w d (by simp) (fun j=>⟨fun hl=>(none j hl).elim,fun h=>by cases h⟩) ?_
  exact runSegs_sound (fun L hs hr=>ready_lt (backs_lt hb) hs hr) hc hci (g0:=g) (w0:=w) hK _ 0 st h l.length _ a _ g (by rw [hlen];exact unl_start _) (by simp) (fun i o ho hl j hj=>(none i hl).elim) (fun j=>⟨fun hl=>(none j hl).elim,fun h=>by omega⟩) (Later.refl g w) rl
 intro f
 induction f with
 | zero=>intro b ops st st' h;cases h
 | succ f ih =>
  intro b ops st st' h hog l a w g d rl hK
  have hlt:∀ x ∈ l,x < ops.size:=fun x hx=>((d.all x).1 hx).1
  simp only [runX] at h
  split at h
  ·rename_i i j hu
   obtain ⟨hij,hjs⟩:=unord_spec hu
   split at h
   ·rename_i hok
    split at h
    ·rename_i s1 s2 h1 h2
     split at h
     ·rename_i hcond
      simp only [Bool.and_eq_true,decide_eq_true_eq] at hcond
      obtain ⟨⟨⟨⟨c1,c2⟩,c3⟩,c4⟩,c5⟩:=hcond
      cases h
      obtain ⟨e1,e2⟩:=sameRen_spec c5
      rcases waits_two j i (by omega) l [] with hw | hw
      ·refine wpOps_edge hlt (ih b _ st s1 h1 hog l a w g (d.edge hw) rl fun a' w' g' k r=>hK a' w' g' k (r.lessOg rfl rfl fun x hx=>by cases hx))
      ·have hfil:l.filter (fun x=>(swapL ops.size i j).contains x) = l:=by
        rw [List.filter_eq_self]
        intro x hx
        simpa using (swapL_mem (by omega) hjs).2 (hlt x hx)
       have d2:=d.ren hok swapL_nodup
       rw [hfil] at d2
       have hmap:l.map (fun x=>(swapL ops.size i j).idxOf x) = l.map (swapId i j):=List.map_congr_left fun x hx=>swapL_idx (by omega) hjs (hlt x hx)
       refine wpOps_renOps hok (fun x hx=>(swapL_mem (by omega) hjs).2 (hlt x hx)) ?_
       rw [hmap] at d2 ⊢
       have hw2:Waits (fun a b=>a = j∧b = i) [] (l.map (swapId i j)):=by
        have:=Waits.map (π:=swapId i j) (dir':=fun a b=>a = j∧b = i) hw fun x hx j' hj' => ?_
        ·simpa using this
        ·obtain ⟨k1,rfl⟩:=hj'
         have hx':x = j':=by
          apply swapId_inj (n:=j') (m:=j)
          rw [k1]
          unfold swapId
          rw [if_pos rfl]
         refine ⟨j,⟨hx',rfl⟩,?_⟩
         unfold swapId
         rw [if_neg (by omega),if_pos rfl]
       refine wpOps_edge (fun x hx=>by have:=(d2.all x).1 hx;exact this.1) (ih b _ st s2 h2 hog _ a w g (d2.edge hw2) rl fun a' w' g' k r=>?_)
       obtain ⟨k2,r2⟩:=r.ren (st':={ s1 with og:=[] }) c1 c2 c3 c4 e1 (by show s1.h.length = _;rw [e2];simp [renH]) (fun id o ho=>renH_get c3 c4 (by rw [← e2];exact ho)) rfl
       exact hK a' w' _ (k.trans k2) r2
     ·cases h
    ·cases h
   ·cases h
  ·split at h
   ·rename_i s hs
    cases h
    split at hs
    ·cases hs
    ·split at hs
     ·rename_i hb
      exact segs ops st st' hb hs l a w g d rl hK
     ·cases hs
   ·split at h
    ·rename_i i o v hf
     unfold firstFloat at hf
     obtain ⟨x,hx,hh⟩:=List.exists_of_findSome?_eq_some hf
     cases hfl:floatAt X N ops st x with
     | none=>rw [hfl] at hh;cases hh
     | some ov =>
      rw [hfl] at hh
      cases hh
      obtain ⟨ho,hN,hfree,hns,hok,hv⟩:=floatAt_spec hfl
      obtain ⟨u,hy,hu⟩:=float_yields (ops:=ops) hv rl
      have hil:i ∈ l:=(d.all i).2 ⟨List.mem_range.1 hx,by simp⟩
      obtain ⟨l1,l2,rfl⟩:=List.append_of_mem hil
      have hni:i ∉ l1∧i ∉ l2:=by
       have:=d.nodup
       rw [List.nodup_append] at this
       exact ⟨fun h=>(this.2.2 i h i (List.mem_cons_self ..)) rfl,(List.nodup_cons.1 this.2.1).1⟩
      refine float_first ho (Region.noSelect_spec hns) hQ l2 l1 a w (fun j hj=>?_) hy ?_
      ·have hjs:=hlt j (List.mem_append_left _ hj)
       refine ⟨ops[j],Array.getElem?_eq_getElem hjs,?_⟩
       refine Region.free_spec ho hfree j ops[j] (Array.getElem?_eq_getElem hjs) (fun e=>hni.1 (e ▸ hj)) ?_ fun e he hb heq=>?_
       ·rw [Array.getD_eq_getD_getElem?,Array.getElem?_replicate,if_pos hjs];rfl
       ·refine Waits.notIn l1 l2 [] d.wait (by simp) hni.1 j hj ⟨ops[j],Array.getElem?_eq_getElem hjs,?_⟩
        unfold directs
        exact List.mem_filterMap.2 ⟨e,by simpa using he,by rw [if_pos hb,heq]⟩
      ·have hfil:(l1 ++ i :: l2).filter (fun x=>((List.range ops.size).filter (· != i)).contains x) = l1 ++ l2:=by
        have hin:∀ y ∈ l1 ++ l2,(((List.range ops.size).filter (· != i)).contains y) = true:=fun y hym=>by
         have hys:=hlt y (by rw [List.mem_append] at hym ⊢;rcases hym with h | h <;> simp [h])
         have hne:y ≠ i:=fun e=>by
          rcases List.mem_append.1 hym with h | h
          ·exact hni.1 (e ▸ h)
          ·exact hni.2 (e ▸ h)
         simp [List.mem_filter,hys,hne]
        rw [List.filter_append,List.filter_cons_of_neg (by simp [List.mem_filter]),List.filter_eq_self.2 fun x hx=>hin x (List.mem_append_left _ hx),List.filter_eq_self.2 fun x hx=>hin x (List.mem_append_right _ hx)]
       have d2:=d.ren hok ((List.nodup_range (n:=ops.size)).filter _)
       rw [hfil] at d2
       refine wpOps_renOps hok (fun x hx=>?_) (ih true _ (st.put o.dst v) st' h ?_ _ _ w g d2 (rl.put hN fun dd _=>hu _) hK)
       ·have:x ∈ (l1 ++ i :: l2).filter (fun x=>((List.range ops.size).filter (· != i)).contains x):=by rw [hfil];exact hx
        have:=(List.mem_filter.1 this).2
        simpa using this
       ·cases hd:o.dst with
        | none=>simpa [St.put] using hog
        | some t=>simp [St.put,hog]
    ·split at h
     ·rename_i hb
      exact segs ops st st' hb h l a w g d rl hK
     ·cases h
theorem draw_sound {k id:Nat} {st st':St} {a:Act} {w:World} {g:Gh} (hd:drawOk ops = some k∨ops.size < k) (h:runDraw X call base N ops k st = some st') (hog:st.og = []) (hc:CallPOk X call) (hci:CallIOk X call) (rl:Rel X base N st a w g) {Q:Exit→Act→World→Prop}
  (hK:Goes X base N st' g w (fun a w=>Q .normal a w)):(Code.region id ops true).wp X.P Q a w:=by
 unfold runDraw at h
 split at h
 ·rename_i st1 h0
  simp only [Option.some.injEq] at h
  subst h
  rcases hd with hd | hd
  ·exact draw0_sound hd h0 hog hc hci rl hK
  ·unfold runDraw0 drawGoK at h0
   rw [if_neg (by rw [Bool.and_eq_true,decide_eq_true_eq];omega)] at h0
   cases h0
 ·split at h
  ·rename_i hm
   rw [Bool.and_eq_true] at hm
   obtain ⟨hm,hb⟩:=hm
   have kp:Keep g w g { w with drawn:=w.drawn + 1 }:=⟨⟨rfl,rfl,rfl,Nat.le_refl _,fun _ _=>rfl,fun _ _=>rfl,fun _ _=>rfl,fun _ _ h=>h,rfl,rl.sit.fresh⟩,rfl⟩
   have none:∀ i,(Array.replicate ops.size false)[i]? ≠ some true:=fun i hl=>by
    rw [Array.getElem?_replicate] at hl
    split at hl <;> simp at hl
   let Q':Exit→Act→World→Prop:=fun e a w=>match e with | .normal=>Q .normal a w | _=>False
   refine Code.wp_mono (Q:=Q') (fun e a w hq=>by cases e <;> first | exact hq | exact hq.elim) ?_
   have fin:∀ (md:Region.Mode) (t:Nat),(md = .any∨backAll ops = true∨prog md ops = true)→wpOps X.P ops Q' (Region.linearise.go md ops ops.size t (Array.replicate ops.size false) []) a { w with drawn:=w.drawn + 1 }:=fun md t hmd=>by
    have hmd':∀ L:Array Bool,L.size = ops.size→Region.ready md ops L = [] → ∀ i,i < ops.size→L[i]? = some true:=fun L hs hr=>by
     rcases hmd with rfl | hb' | hb'
     ·exact ready_lt (backs_lt hb) hs hr
     ·exact ready_back hb' hs hr
     ·exact ready_prog hb' hs hr
    have d:Ord ops [] _:=go_ord hmd' ops.size t (Array.replicate ops.size false) [] (by simp) (unl_start _) (fun j=>⟨fun hl=>(none j hl).elim,fun h=>by cases h⟩)
    exact runX_sound hc hci (fun c a w h=>h) _ _ _ _ _ h hog _ a _ g d (rl.keep kp) fun a' w' g' l' r' => hK a' w' g' ((kp.later rl.sit.fresh).trans l') r'
   refine wp_region_draw fun t=>?_
   unfold Region.schedule
   split
   ·exact fin .any t (.inl rfl)
   ·rename_i hn
    unfold drawGo at hm
    rw [Bool.or_eq_true,Bool.or_eq_true] at hm
    refine fin _ (t / 2) (.inr ?_)
    rcases hm with (h1 | h1) | h1
    ·exact absurd h1 hn
    ·exact .inl h1
    ·rw [Bool.and_eq_true] at h1
     right
     split
     ·exact h1.1
     ·exact h1.2
  ·cases h
end
section
variable {X:Ctx} {base N:Nat} {st:St} {a:Act} {w:World} {g:Gh} {call:CallF}
theorem Rel.ogNil (r:Rel X base N st a w g):Rel X base N { st with og:=[] } a w g :=
 ⟨r.defers,r.size,r.slots,r.sit,r.low,fun _ _ h=>by cases h⟩
theorem lookT_keepS (keep:List Nat) (s:List (Nat × V)) (t:Nat):lookT t (keepS keep s) = lookT t s∨lookT t (keepS keep s) = und:=by
 induction keep with
 | nil=>exact .inr rfl
 | cons u l ih =>
  simp only [keepS,List.map_cons,lookT]
  by_cases h:(u == t) = true
  ·rw [if_pos h];simp only [beq_iff_eq] at h;subst h;exact .inl rfl
  ·rw [if_neg h];exact ih
theorem Rel.forget (r:Rel X base N st a w g) (keep:List Nat):Rel X base N { s:=keepS keep st.s,h:=st.h,og:=[] } a w g:=by
 refine ⟨r.defers,r.size,fun t=>?_,r.sit,r.low,fun _ _ h=>by cases h⟩
 rcases lookT_keepS keep st.s t with h | h
 ·simp only [h];exact r.slots t
 ·simp only [h];exact .d _ _ _ (.und _)
theorem RepV.toTrunc0 {n:Nat} {p:Own} {v:Value} {x:V} (r:RepV X w g p v x) (h:x.low0 n = true):RepV X w (g.trunc n) p v x:=by
 cases r with
 | d _ _ _ r=>exact .d _ _ _ r
 | full _ b' o cells n r=>exact .full _ b' o cells n r
 | obj _ id off b' r=>exact .obj _ id off b' (trunc_put (by simpa [V.low0] using h) r)
 | osl _ id off n c b' r hn=>exact .osl _ id off n c b' (trunc_put (by simpa [V.low0] using h) r) hn
 | mp _ id b' r=>exact .mp _ id b' (trunc_put (by simpa [V.low0] using h) r)
 | it _ id b' r=>exact .it _ id b' (trunc_put (by simpa [V.low0] using h) r)
 | _=>simp [V.low0] at h
theorem RepV.toTrunc {n:Nat} {p:Own} {v:Value} {x:V} (r:RepV X w g p v x) (h:x.low n = true):RepV X w (g.trunc n) p v x:=by
 cases r with
 | d _ _ _ r=>exact .d _ _ _ r
 | tail _ E cells m b' c cur z vals hz hz0 hb hn hm hcur hcl hee hoo hp hv hr=>exact .tail _ E cells m b' c cur z vals hz hz0 hb hn hm hcur hcl hee hoo hp hv hr
 | tail0 _ E a0=>exact .tail0 _ E _
 | full _ b' o cells n r=>exact .full _ b' o cells n r
 | obj _ id off b' r=>exact .obj _ id off b' (trunc_put (by simpa [V.low] using h) r)
 | osl _ id off n c b' r hn=>exact .osl _ id off n c b' (trunc_put (by simpa [V.low] using h) r) hn
 | clo _ fn va vb a b hla hlb ha hb =>
  simp only [V.low,Bool.and_eq_true] at h
  exact .clo _ fn va vb a b hla hlb (fun j v x k1 k2=>(ha j v x k1 k2).toTrunc0 (List.all_eq_true.1 h.1 x (List.mem_of_getElem? k2))) (fun j v x k1 k2=>(hb j v x k1 k2).toTrunc0 (List.all_eq_true.1 h.2 x (List.mem_of_getElem? k2)))
 | agg _ vals vs hl hr =>
  simp only [V.low] at h
  exact .agg _ vals vs hl (fun j v x k1 k2=>(hr j v x k1 k2).toTrunc0 (List.all_eq_true.1 h x (List.mem_of_getElem? k2)))
 | tup _ vals vs hl hr =>
  simp only [V.low] at h
  exact .tup _ vals vs hl (fun j v x k1 k2=>(hr j v x k1 k2).toTrunc0 (List.all_eq_true.1 h x (List.mem_of_getElem? k2)))
 | mp _ id b' r=>exact .mp _ id b' (trunc_put (by simpa [V.low] using h) r)
 | it _ id b' r=>exact .it _ id b' (trunc_put (by simpa [V.low] using h) r)
theorem RepOb.toTrunc {n id b:Nat} {o:Ob} (r:RepOb X w g id b o) (h:o.low n = true):RepOb X w (g.trunc n) id b o:=by
 cases o with
 | cells vs =>
  obtain ⟨vals,T,h1,h2,h3,h4⟩:=r
  refine ⟨vals,T,h1,h2,h3,fun j v x k1 k2=>(h4 j v x k1 k2).toTrunc ?_⟩
  have:=List.all_eq_true.1 (by simpa [Ob.low] using h:vs.all (V.low n) = true) x (List.mem_of_getElem? k2)
  exact this
 | frozen ds=>obtain ⟨vals,T,h1,h2,h3,h4⟩:=r;exact ⟨vals,T,h1,h2,h3,h4⟩
 | map es ck=>obtain ⟨en,h1,h2,h3,h4⟩:=r;exact ⟨en,h1,h2,h3,h4⟩
 | iter s pos=>exact r
theorem later_trunc (n:Nat):Later g w (g.trunc n) w:=⟨rfl,rfl,rfl,Nat.le_refl _,fun _ _ _=>rfl,fun _=>Nat.le_refl _,fun _ h=>⟨rfl,h,rfl⟩,rfl⟩
theorem GlobOk.trunc (h:GlobOk X w g) (n:Nat):GlobOk X w (g.trunc n):=h
theorem Rel.trunc (r:Rel X base N st a w g) {n:Nat} (hb:base≤n) (hs:∀ t,(lookT t st.s).low n = true) (hh:(st.h.take n).all (Ob.low n) = true):Rel X base N { s:=st.s,h:=st.h.take n,og:=[] } a w (g.trunc n):=by
 have old:∀ (id:Nat) (o:Ob),(st.h.take n)[id]? = some o→id < n∧st.h[id]? = some o:=by
  intro id o h
  rw [List.getElem?_take] at h
  split at h
  ·exact ⟨‹_›,h⟩
  ·cases h
 refine ⟨r.defers,r.size,fun t=>(r.slots t).toTrunc (hs t),⟨r.sit.fresh,⟨?_,fun id b hb=>?_,fun id b o hb ho=>?_⟩,r.sit.glob⟩,⟨?_,fun m hm hel id b o hid hbb ho=>?_,fun id b hid hbb=>trunc_put (Nat.lt_of_lt_of_le hid hb) (r.low.2.2 id b hid hbb)⟩,fun _ _ h=>by cases h⟩
 ·simp only [Gh.trunc,List.length_take,r.sit.heap.len]
 ·exact r.sit.heap.own id b (trunc_get hb).2
 ·obtain ⟨h1,h2⟩:=old id o ho
  exact (r.sit.heap.ob id b o (trunc_get hb).2 h2).toTrunc (List.all_eq_true.1 hh o (List.mem_of_getElem? ho))
 ·have:=r.low.1
  simp only [List.length_take]
  omega
 ·have h3:=r.low.2.1 m hm hel id b o hid (trunc_get hbb).2 (old id o ho).2
  have:(g.trunc n).trunc m = g.trunc m:=by
   simp only [Gh.trunc,List.take_take,Nat.min_eq_left (Nat.le_trans hm hb)]
  rw [this]
  exact h3
theorem lookT_all {s:List (Nat × V)} {q:V→Bool} (h:s.all (fun x=>q x.2) = true) (hu:q und = true) (t:Nat):q (lookT t s) = true:=by
 induction s with
 | nil=>exact hu
 | cons x l ih =>
  obtain ⟨u,v⟩:=x
  simp only [List.all_cons,Bool.and_eq_true] at h
  simp only [lookT]
  split
  ·exact h.1
  ·exact ih h.2
theorem Rel.clean (r:Rel X base N st a w g) (keep:List Nat) {n:Nat} (hb:base≤n):∃ g',Later g w g' w∧Rel X base N (Pv.clean keep n st) a w g':=by
 unfold Pv.clean
 simp only
 split
 ·rename_i h
  simp only [Bool.and_eq_true] at h
  exact ⟨g.trunc n,later_trunc n,(r.forget keep).trunc hb (fun t=>lookT_all h.1 rfl t) h.2⟩
 ·exact ⟨g,Later.refl g w,r.forget keep⟩
def exitOf:Ex→Exit
 | .nrm=>.normal
 | .exit id=>.exit id
 | .ret=>.ret
theorem exec_sound (hc:CallPOk X call) (hci:CallIOk X call) {fuel n all rets:Nat}:∀ (c:Code) (nx:Nat) (exs:List (Nat × Nat)) (st:St) (ex:Ex) (st':St) (a:Act) (w:World) (g:Gh) (Q:Exit→Act→World→Prop),
  exec X call base N fuel (annot n all rets c nx exs).1 st = some (ex,st')→Rel X base N st a w g→Goes X base N st' g w (fun a w=>Q (exitOf ex) a w)→c.wp X.P Q a w:=by
 intro c
 induction c with
 | skip =>
  intro nx exs st ex st' a w g Q h r hK
  simp only [annot,exec,Option.some.injEq,Prod.mk.injEq] at h
  obtain ⟨rfl,rfl⟩:=h
  exact wp_skip (hK a w g (Later.refl g w) r)
 | region id ops draw =>
  intro nx exs st ex st' a w g Q h r hK
  cases draw with
  | false =>
   simp only [annot,exec] at h
   split at h
   ·rename_i st1 hrun
    simp only [Option.some.injEq,Prod.mk.injEq] at h
    obtain ⟨rfl,rfl⟩:=h
    exact wp_region_list (runOps_sound hc hci _ _ _ _ _ _ hrun r.ogNil fun a' w' g' l r' => hK a' w' g' l (r'.forget _))
   ·cases h
  | true =>
   simp only [annot] at h
   split at h
   ·rename_i k hd
    simp only [exec] at h
    split at h
    ·rename_i st1 hrun
     simp only [Option.some.injEq,Prod.mk.injEq] at h
     obtain ⟨rfl,rfl⟩:=h
     exact draw_sound (.inl hd) hrun rfl hc hci r.ogNil fun a' w' g' l r' => hK a' w' g' l (r'.forget _)
    ·cases h
   ·simp only [exec] at h
    split at h
    ·rename_i st1 hrun
     simp only [Option.some.injEq,Prod.mk.injEq] at h
     obtain ⟨rfl,rfl⟩:=h
     exact draw_sound (.inr (by omega)) hrun rfl hc hci r.ogNil fun a' w' g' l r' => hK a' w' g' l (r'.forget _)
    ·cases h
 | seq x y ihx ihy =>
  intro nx exs st ex st' a w g Q h r hK
  simp only [annot,exec] at h
  refine wp_seq ?_
  split at h
  ·rename_i st1 hx
   exact ihx _ _ _ _ _ _ _ _ _ hx r fun a' w' g' l r' => ihy _ _ _ _ _ _ _ _ _ h r' (hK.trans l)
  ·rename_i hne
   refine ihx _ _ _ _ _ _ _ _ _ h r fun a' w' g' l r' => ?_
   have:=hK a' w' g' l r'
   cases ex with
   | nrm=>exact (hne _ h).elim
   | exit i=>exact this
   | ret=>exact this
 | cond c x y ihx ihy =>
  intro nx exs st ex st' a w g Q h r hK
  simp only [annot,exec] at h
  obtain ⟨q,hq⟩:=r.get c
  split at h
  ·rename_i hcc
   rw [hcc] at hq
   refine wp_cond_true ?_ (ihx _ _ _ _ _ _ _ _ _ h r hK)
   generalize a.eval c = v at hq
   cases hq with | d _ _ _ hq=>cases hq;rfl
  ·rename_i hcc
   rw [hcc] at hq
   refine wp_cond_false ?_ (ihy _ _ _ _ _ _ _ _ _ h r hK)
   generalize a.eval c = v at hq
   cases hq with | d _ _ _ hq=>cases hq;rfl
  ·cases h
 | block id b ih =>
  intro nx exs st ex st' a w g Q h r hK
  simp only [annot,exec] at h
  refine wp_block ?_
  split at h
  ·rename_i i st1 hb
   simp only [Option.some.injEq,Prod.mk.injEq] at h
   obtain ⟨rfl,rfl⟩:=h
   refine ih _ _ _ _ _ _ _ _ _ hb r fun a' w' g' l r' => ?_
   have:=hK a' w' g' l r'
   simp only [exitOf,Exit.inBlock]
   split
   ·rename_i hid;rw [if_pos hid] at this;exact this
   ·rename_i hid;rw [if_neg hid] at this;exact this
  ·rename_i hne
   refine ih _ _ _ _ _ _ _ _ _ h r fun a' w' g' l r' => ?_
   have:=hK a' w' g' l r'
   cases ex with
   | nrm=>exact this
   | exit i=>exact (hne _ _ h).elim
   | ret=>exact this
 | loop b ih =>
  intro nx exs st ex st' a w g Q h r hK
  simp only [annot,exec] at h
  generalize hkeep:bitsOf n _ = keep at h
  generalize (annot n all rets b ((annot n all rets b 0 exs).2) exs).2 = m at h
  refine wp_loop_ghost (fun k a1 w1=>∃ st1 g1,loopN (fun st=>exec X call base N fuel (annot n all rets b m exs).1 st) keep st.h.length k st1 = some (ex,st')∧Rel X base N st1 a1 w1 g1∧Later g w g1 w1) fuel ⟨st,g,h,r,Later.refl g w⟩ ?_
  rintro k a1 w1 ⟨st1,g1,hl,r1,l1⟩
  cases k with
  | zero=>simp [loopN] at hl
  | succ k =>
   obtain ⟨g2,l2,r2⟩:=r1.clean keep (n:=st.h.length) r.low.1
   simp only [loopN] at hl
   split at hl
   ·rename_i st2 hb
    exact ih _ _ _ _ _ _ _ _ _ hb r2 fun a' w' g' l r' => ⟨k,Nat.lt_succ_self k,st2,g',hl,r',(l1.trans l2).trans l⟩
   ·rename_i hne
    refine ih _ _ _ _ _ _ _ _ _ hl r2 fun a' w' g' l r' => ?_
    have:=hK a' w' g' ((l1.trans l2).trans l) r'
    cases ex with
    | nrm=>exact (hne _ hl).elim
    | exit i=>exact this
    | ret=>exact this
 | exit id =>
  intro nx exs st ex st' a w g Q h r hK
  simp only [annot,exec,Option.some.injEq,Prod.mk.injEq] at h
  obtain ⟨rfl,rfl⟩:=h
  exact wp_exit (hK a w g (Later.refl g w) r)
 | ret =>
  intro nx exs st ex st' a w g Q h r hK
  simp only [annot,exec,Option.some.injEq,Prod.mk.injEq] at h
  obtain ⟨rfl,rfl⟩:=h
  exact wp_ret (hK a w g (Later.refl g w) r)
 | label l =>
  intro nx exs st ex st' a w g Q h r hK
  simp only [annot,exec,Option.some.injEq,Prod.mk.injEq] at h
  obtain ⟨rfl,rfl⟩:=h
  exact wp_label (hK a w g (Later.refl g w) r)
 | scope b ih =>
  intro nx exs st ex st' a w g Q h r hK
  simp only [annot] at h
  refine wp_scope_straight (ih _ _ _ _ _ _ _ _ _ h r fun a' w' g' l r' => ?_)
  have:=hK a' w' g' l r'
  cases ex <;> exact this
 | _ =>
  intro nx exs st ex st' a w g Q h r hK
  simp [annot,exec] at h
end
section
variable {X:Ctx} {base N:Nat} {st:St} {a:Act} {w:World} {g:Gh}
def resRun (tmps:Array Value):ResultVar→Sem Value
 | .tmp t=>pure (tmps.getD t undef)
 | .cell b t=>do loadVar t (← asAddr (tmps.getD b undef))
theorem resultOf_sound {rv:ResultVar} {y:V} (h:resultOf X st rv = some y) (r:Rel X base N st a w g) :
  ∃ v q,(resRun a.tmps rv).run X.P w = .ok v w∧RepV X w g q v y∧(q = .free∨∃ t,q = .slot t):=by
 cases rv with
 | tmp t =>
  simp only [resultOf,Option.some.injEq] at h
  subst h
  exact ⟨_,.slot t,rfl,(r.slots t).flat,.inr ⟨t,rfl⟩⟩
 | cell b t =>
  have hl:loadOp X (st.get X) st.h t (.tmp b) = some y:=by
   simp only [resultOf] at h
   simp only [loadOp,St.get]
   split at h
   ·rename_i id off hb
    rw [hb]
    simp only
    split at h
    ·rename_i vs hh;rw [hh];exact h
    ·rename_i ds hh;rw [hh];exact h
    ·cases h
   ·rename_i c off hb
    rw [hb]
    exact h
   ·cases h
  obtain ⟨u,h1,h2⟩:=load_sound hl (r.slots b) r.sit.heap .free
  refine ⟨u,.free,?_,h2,.inl rfl⟩
  unfold Instr.loadAt at h1
  cases hv:a.tmps.getD b undef with
  | pointer ad =>
   cases ad with
   | some ad =>
    rw [hv] at h1
    simp only [resRun,hv,asAddr,pure_bind]
    simpa [Instr.sureAddr] using h1
   | none=>rw [hv] at h1;simp [Instr.sureAddr] at h1
  | _=>rw [hv] at h1;simp [Instr.sureAddr] at h1
def oneOf:List Value→Value
 | [v]=>v
 | vals=>.tuple ⟨vals⟩
theorem results_run {fn:Func} {vals:List Value} (h:(fn.results.toList.mapM (resRun a.tmps)).run X.P w = .ok vals w) :
  (Go.results fn a.tmps).run X.P w = .ok (oneOf vals) w:=by
 have hres:Go.results fn a.tmps = (do let vs ← fn.results.mapM (resRun a.tmps);pure (if h:vs.size = 1 then vs[0] else .tuple vs)):=by
  unfold Go.results
  congr 1
 rw [hres,Array.mapM_eq_mapM_toList]
 simp only [map_eq_pure_bind,bind_assoc,pure_bind]
 rw [Sem.run_bind,h]
 simp only [Result.andThen_ok]
 match vals with
 | []=>simp [oneOf]
 | [v]=>simp [oneOf]
 | v :: u :: l=>simp [oneOf]
theorem resultsOf_sound {fn:Func} (r:Rel X base N st a w g):∀ (rs:List ResultVar) (ys:List V),resultsOf X st rs = some ys →
  ∃ vals,(rs.mapM (resRun a.tmps)).run X.P w = .ok vals w∧PtV X w g vals (ys.map V.copy)∧vals.length = rs.length:=by
 intro rs
 induction rs with
 | nil =>
  intro ys h
  simp only [resultsOf,Option.some.injEq] at h
  subst h
  exact ⟨[],rfl,⟨rfl,by intro j v x h;simp at h⟩,rfl⟩
 | cons rv rs ih =>
  intro ys h
  simp only [resultsOf] at h
  split at h
  ·rename_i v vs h1 h2
   simp at h
   subst h
   obtain ⟨u,q,k1,k2,_⟩:=resultOf_sound h1 r
   obtain ⟨us,k3,k4,k5⟩:=ih _ h2
   refine ⟨u :: us,?_,⟨by simp [k4.1],fun j v' x hj hx=>?_⟩,by simp [k5]⟩
   ·rw [List.mapM_cons,Sem.run_bind,k1]
    simp only [Result.andThen_ok]
    rw [Sem.run_bind,k3]
    simp
   ·cases j with
    | zero=>simp at hj hx;subst hj;subst hx;exact k2.copy
    | succ j=>simp at hj hx;exact k4.2 j v' x hj (by simpa using hx)
  ·cases h
structure Fz (X:Ctx) (base:Nat) (w:World) (g g':Gh) (h h':List Ob):Prop where
 later:Later g w g' w
 sit:Sit X w g' h'
 low:Low X w g' base h'
 up:∀ p v x,RepV X w g p v x→RepV X w g' p v x
theorem Fz.refl {h:List Ob} (sit:Sit X w g h) (low:Low X w g base h):Fz X base w g g h h:=⟨Later.refl g w,sit,low,fun _ _ _ r=>r⟩
theorem Fz.trans {g1 g2 g3:Gh} {h1 h2 h3:List Ob} (a:Fz X base w g1 g2 h1 h2) (b:Fz X base w g2 g3 h2 h3):Fz X base w g1 g3 h1 h3 :=
 ⟨a.later.trans b.later,b.sit,b.low,fun p v x r=>b.up p v x (a.up p v x r)⟩
theorem Fz.repD {g g':Gh} {h h':List Ob} (a:Fz X base w g g' h h') {v:Value} {d:D} (r:RepD w g.e v d):RepD w g'.e v d:=r.mono a.later.cells a.later.e
theorem fz_one {g:Gh} {h:List Ob} {id b:Nat} {vs:List V} {ds:List D} (sit:Sit X w g h) (low:Low X w g base h) (hμ:g.μ[id]? = some b) (hh:h[id]? = some (.cells vs))
  (hr:∀ vals T,w.heap[b]? = some (.cells ⟨vals⟩ T (0,0))→ds.length≤vals.length∧∀ (j:Nat) (v:Value) (d:D),vals[j]? = some v→ds[j]? = some d→RepD w g.e v d) :
  ∃ vals T,w.heap[b]? = some (.cells ⟨vals⟩ T (0,0))∧ds.length≤vals.length∧Fz X base w g (g.freeze b ds.length) h (h.set id (.frozen ds))∧(g.freeze b ds.length).e b = ds.length ∧
   ∀ (j:Nat) (v:Value) (d:D),vals[j]? = some v→ds[j]? = some d→RepD w (g.freeze b ds.length).e v d:=by
 obtain ⟨vals,T,h1,h2,h3,_⟩:=sit.heap.ob id b _ hμ hh
 obtain ⟨hl,hrr⟩:=hr vals T h1
 have he:g.e b≤ds.length:=by rw [h3];exact Nat.zero_le _
 have ho:∃ id,g.own b = .obj id:=⟨id,sit.heap.own id b hμ⟩
 have eb:(g.freeze b ds.length).e b = ds.length:=by simp [Gh.freeze]
 have rr:∀ (j:Nat) (v:Value) (d:D),vals[j]? = some v→ds[j]? = some d→RepD w (g.freeze b ds.length).e v d:=fun j v d a c=>freeze_repD he (hrr j v d a c)
 have hid:id < h.length:=(List.getElem?_eq_some_iff.1 hh).1
 have hb:b < w.heap.size:=(Array.getElem?_eq_some_iff.1 h1).1
 have ob':∀ (i c:Nat) (o:Ob),g.μ[i]? = some c→(h.set id (.frozen ds))[i]? = some o→RepOb X w (g.freeze b ds.length) i c o:=by
  intro i c o hi hoo
  by_cases hii:i = id
  ·subst hii
   rw [List.getElem?_set_self hid] at hoo
   cases hoo
   rw [hμ] at hi
   cases hi
   exact ⟨vals,T,h1,hl,eb,rr⟩
  ·rw [List.getElem?_set_ne (fun e=>hii e.symm)] at hoo
   have hne:c ≠ b:=fun e=>hii (sit.heap.inj (i:=i) (j:=id) (e ▸ hi) hμ)
   exact freeze_repOb he ho hne (sit.heap.ob i c o hi hoo)
 refine ⟨vals,T,h1,hl,⟨freeze_later he ho,⟨fun x hx=>?_,⟨by rw [List.length_set];exact sit.heap.len,sit.heap.own,ob'⟩,sit.glob.later (freeze_later he ho)⟩,⟨by simpa using low.1,fun n hn hel i c o hin hi hoo=>?_,low.2.2⟩,fun p v x r=>freeze_repV he ho r⟩,eb,rr⟩
 ·have hne:x ≠ b:=by omega
  refine ⟨(sit.fresh x hx).1,?_⟩
  simp only [Gh.freeze]
  rw [if_neg hne]
  exact (sit.fresh x hx).2
 ·have hi:g.μ[i]? = some c:=hi
  by_cases hii:i = id
  ·subst hii
   rw [List.getElem?_set_self hid] at hoo
   cases hoo
   rw [hμ] at hi
   cases hi
   exact ⟨vals,T,h1,hl,eb,rr⟩
  ·rw [List.getElem?_set_ne (fun e=>hii e.symm)] at hoo
   have hne:c ≠ b:=fun e=>hii (sit.heap.inj (i:=i) (j:=id) (e ▸ hi) hμ)
   have:=low.2.1 n hn hel i c o hin hi hoo
   exact freeze_repOb (g:=g.trunc n) he ho hne this
theorem mapH_ok {f:List Ob→V→Option (D × List Ob)}
  (hf:∀ h x d h',f h x = some (d,h')→∀ (g:Gh) q v,Sit X w g h→Low X w g base h→RepV X w g q v x→∃ g',Fz X base w g g' h h' ∧ g'.μ = g.μ∧RepD w g'.e v d) :
  ∀ (vs:List V) h ds h',mapH f h vs = some (ds,h')→∀ (g:Gh) (vals:List Value) (q:Nat→Own),Sit X w g h→Low X w g base h→vs.length≤vals.length→(∀ (j:Nat) v x,vals[j]? = some v→vs[j]? = some x→RepV X w g (q j) v x) →
  ∃ g',Fz X base w g g' h h' ∧ g'.μ = g.μ∧ds.length≤vals.length∧∀ (j:Nat) v d,vals[j]? = some v→ds[j]? = some d→RepD w g'.e v d:=by
 intro vs
 induction vs with
 | nil =>
  intro h ds h' hm g vals q sit low hl hr
  simp only [mapH,Option.some.injEq,Prod.mk.injEq] at hm
  obtain ⟨rfl,rfl⟩:=hm
  exact ⟨g,Fz.refl sit low,rfl,hl,fun j v d _ hd=>by simp at hd⟩
 | cons x vs ih =>
  intro h ds h' hm g vals q sit low hl hr
  cases vals with
  | nil=>simp at hl
  | cons u us =>
   simp only [mapH] at hm
   split at hm
   ·rename_i d h1 hd
    split at hm
    ·rename_i ds' h2 hds
     simp only [Option.some.injEq,Prod.mk.injEq] at hm
     obtain ⟨rfl,rfl⟩:=hm
     obtain ⟨g1,k1,k2,k3⟩:=hf _ _ _ _ hd g (q 0) u sit low (hr 0 u x rfl rfl)
     obtain ⟨g2,m1,m2,m3,m4⟩:=ih _ _ _ hds g1 us (fun j=>q (j + 1)) k1.sit k1.low (by simpa using hl) (fun j v y a b=>k1.up _ _ _ (hr (j + 1) v y (by simpa using a) (by simpa using b)))
     refine ⟨g2,k1.trans m1,m2.trans k2,by simp only [List.length_cons];omega,fun j v d' a b=>?_⟩
     cases j with
     | zero=>simp at a b;subst a;subst b;exact m1.repD k3
     | succ j=>simp at a b;exact m4 j v d' a b
    ·cases hm
   ·cases hm
theorem RepV.toDD {g:Gh} {q:Own} {v:Value} {x:V} {d:D} (r:RepV X w g q v x) (h:x.toD = some d):RepD w g.e v d:=by
 cases x <;> simp [V.toD] at h
 ·subst h;cases r with | d _ _ _ r=>exact r
 ·subst h;exact r.tail_sl
 ·subst h;cases r with | full _ _ _ _ _ r=>exact r
theorem block_take {e:Nat→Nat} {b:Nat} {vals:List Value} {T:TypeId} {ds:List D} (b1:w.heap[b]? = some (.cells ⟨vals⟩ T (0,0))) (b2:ds.length≤vals.length) (b4:∀ (j:Nat) (v:Value) (d:D),vals[j]? = some v→ds[j]? = some d→RepD w e v d) :
  (vals.take ds.length).length = ds.length∧(∀ j v,(vals.take ds.length)[j]? = some v→w.cell? ⟨b,0 + j,none⟩ = some v)∧∀ (j:Nat) (v:Value) (d:D),(vals.take ds.length)[j]? = some v→ds[j]? = some d→RepD w e v d:=by
 have key:∀ (j:Nat) (v:Value),(vals.take ds.length)[j]? = some v→vals[j]? = some v:=fun j v h=>by
  rw [List.getElem?_take] at h
  split at h
  ·exact h
  ·cases h
 exact ⟨by rw [List.length_take];omega,fun j v hj=>by rw [Nat.zero_add,cell_of_heap b1];simpa using key j v hj,fun j v d hj hd=>b4 j v d (key j v hj) hd⟩
theorem freezeN_ok:∀ (k:Nat) h x d h',freezeN k h x = some (d,h')→∀ (g:Gh) q v,Sit X w g h→Low X w g base h→RepV X w g q v x→∃ g',Fz X base w g g' h h' ∧ g'.μ = g.μ∧RepD w g'.e v d:=by
 intro k
 induction k with
 | zero =>
  intro h x d h' hm g q v sit low r
  simp only [freezeN] at hm
  cases hx:x.toD with
  | none=>rw [hx] at hm;cases hm
  | some y =>
   rw [hx] at hm
   simp only [Option.map_some,Option.some.injEq,Prod.mk.injEq] at hm
   obtain ⟨rfl,rfl⟩:=hm
   exact ⟨g,Fz.refl sit low,rfl,r.toDD hx⟩
 | succ k ih =>
  intro h x d h' hm g q v sit low r
  have plain:(x.toD.map fun d=>(d,h)) = some (d,h')→∃ g',Fz X base w g g' h h' ∧ g'.μ = g.μ∧RepD w g'.e v d:=fun hm=>by
   cases hx:x.toD with
   | none=>rw [hx] at hm;cases hm
   | some y =>
    rw [hx] at hm
    simp only [Option.map_some,Option.some.injEq,Prod.mk.injEq] at hm
    obtain ⟨rfl,rfl⟩:=hm
    exact ⟨g,Fz.refl sit low,rfl,r.toDD hx⟩
  have box:∀ (id b:Nat) (vs:List V) (ds:List D) (h1:List Ob),g.μ[id]? = some b→h[id]? = some (.cells vs)→mapH (freezeN k) h vs = some (ds,h1)→(∃ vs',h1[id]? = some (.cells vs')) →
    ∃ g' vals T,Fz X base w g g' h (h1.set id (.frozen ds))∧g'.μ = g.μ∧w.heap[b]? = some (.cells ⟨vals⟩ T (0,0))∧ds.length≤vals.length∧g'.e b = ds.length∧∀ (j:Nat) (v:Value) (d:D),vals[j]? = some v→ds[j]? = some d→RepD w g'.e v d:=by
   intro id b vs ds h1 hμ hh hmp ⟨vs',hh1⟩
   obtain ⟨vals,T,b1,b2,b3,b4⟩:=sit.heap.ob id b _ hμ hh
   obtain ⟨g1,k1,k2,k3,k4⟩:=mapH_ok ih vs h ds h1 hmp g vals (fun j=>.cell id j) sit low b2 b4
   have hμ1:g1.μ[id]? = some b:=by rw [k2];exact hμ
   obtain ⟨vals2,T2,c1,c2,c3,c4,c5⟩:=fz_one (base:=base) k1.sit k1.low hμ1 hh1 (ds:=ds) (fun vals' T' hb' => by
    rw [b1] at hb'
    cases hb'
    exact ⟨k3,k4⟩)
   exact ⟨_,vals2,T2,k1.trans c3,k2,c1,c2,c4,c5⟩
  simp only [freezeN] at hm
  cases x with
  | obj id off =>
   simp only at hm
   cases r with
   | obj _ _ _ b hμ =>
   split at hm
   ·rename_i ds hh
    simp only [Option.some.injEq,Prod.mk.injEq] at hm
    obtain ⟨rfl,rfl⟩:=hm
    obtain ⟨vals,T,b1,b2,b3,b4⟩:=sit.heap.ob id b _ hμ hh
    refine ⟨g,Fz.refl sit low,rfl,?_⟩
    obtain ⟨t1,t2,t3⟩:=block_take b1 b2 b4
    have:=RepD.ref (w:=w) (e:=g.e) b 0 off ds _ t1 (by omega) t2 t3
    simpa using this
   ·rename_i vs hh
    split at hm
    ·rename_i ds h1 hmp
     split at hm
     ·rename_i vs' hh1
      split at hm
      ·simp only [Option.some.injEq,Prod.mk.injEq] at hm
       obtain ⟨rfl,rfl⟩:=hm
       obtain ⟨g',vals,T,c0,cμ,c1,c2,c3,c4⟩:=box id b vs ds h1 hμ hh hmp ⟨vs',hh1⟩
       refine ⟨g',c0,cμ,?_⟩
       obtain ⟨t1,t2,t3⟩:=block_take c1 c2 c4
       have:=RepD.ref (w:=w) (e:=g'.e) b 0 off ds _ t1 (by omega) t2 t3
       simpa using this
      ·cases hm
     ·cases hm
    ·cases hm
   ·cases hm
  | osl id off n =>
   simp only at hm
   split at hm
   ·rename_i hon
    obtain ⟨rfl,_⟩:=hon
    cases r with
    | osl _ _ _ _ c b hμ hn =>
    split at hm
    ·rename_i ds hh
     simp only [Option.some.injEq,Prod.mk.injEq] at hm
     obtain ⟨rfl,rfl⟩:=hm
     obtain ⟨vals,T,b1,b2,b3,b4⟩:=sit.heap.ob id b _ hμ hh
     obtain ⟨t1,t2,t3⟩:=block_take b1 b2 b4
     exact ⟨g,Fz.refl sit low,rfl,.sl b 0 n c ds _ hn t1 (by omega) t2 t3⟩
    ·rename_i vs hh
     split at hm
     ·rename_i ds h1 hmp
      split at hm
      ·rename_i vs' hh1
       split at hm
       ·simp only [Option.some.injEq,Prod.mk.injEq] at hm
        obtain ⟨rfl,rfl⟩:=hm
        obtain ⟨g',vals,T,c0,cμ,c1,c2,c3,c4⟩:=box id b vs ds h1 hμ hh hmp ⟨vs',hh1⟩
        obtain ⟨t1,t2,t3⟩:=block_take c1 c2 c4
        exact ⟨g',c0,cμ,.sl b 0 n c ds _ hn t1 (by omega) t2 t3⟩
       ·cases hm
      ·cases hm
     ·cases hm
    ·cases hm
   ·cases hm
  | _=>exact plain hm
theorem frzRes_ok {t:TypeId} {g:Gh} {h h':List Ob} {x y:V} {q:Own} {v:Value} (hm:frzRes X t h x = some (y,h')) (sit:Sit X w g h) (low:Low X w g base h) (r:RepV X w g q v x) :
  ∃ g',Fz X base w g g' h h' ∧ RepV X w g' q v y:=by
 unfold frzRes at hm
 have same:some (x,h) = some (y,h')→∃ g',Fz X base w g g' h h' ∧ RepV X w g' q v y:=fun e=>by
  cases e;exact ⟨g,Fz.refl sit low,r⟩
 split at hm
 ·split at hm
  ·split at hm
   ·rename_i z hz
    obtain ⟨d,h1⟩:=z
    cases hm
    obtain ⟨g',a,_,b⟩:=freezeN_ok (base:=base) 4 _ _ _ _ hz g q v sit low r
    exact ⟨g',a,.d _ _ _ b⟩
   ·exact same hm
  ·split at hm
   ·rename_i z hz
    obtain ⟨d,h1⟩:=z
    cases hm
    obtain ⟨g',a,_,b⟩:=freezeN_ok (base:=base) 4 _ _ _ _ hz g q v sit low r
    exact ⟨g',a,.d _ _ _ b⟩
   ·exact same hm
  ·exact same hm
 ·exact same hm
theorem frzAll_ok:∀ (ts:List TypeId) (h:List Ob) (vs:List V) (r:List V × List Ob),frzAll X ts h vs = some r→∀ (g:Gh) (vals:List Value),Sit X w g h→Low X w g base h→PtV X w g vals (vs.map V.copy) →
  ∃ g',Fz X base w g g' h r.2∧PtV X w g' vals r.1:=by
 intro ts
 induction ts with
 | nil =>
  intro h vs r hr g vals sit low hp
  cases vs <;> simp [frzAll] at hr
  subst hr
  exact ⟨g,Fz.refl sit low,hp⟩
 | cons t ts ih =>
  intro h vs r hr g vals sit low hp
  cases vs with
  | nil =>
   simp [frzAll] at hr
   subst hr
   exact ⟨g,Fz.refl sit low,hp⟩
  | cons v vs =>
   simp only [frzAll] at hr
   split at hr
   ·rename_i y h1 h1e
    split at hr
    ·rename_i ys h2 h2e
     cases hr
     cases vals with
     | nil=>have:=hp.1;simp at this
     | cons u us =>
      obtain ⟨g1,k1,k2⟩:=frzRes_ok (base:=base) (v:=u) h1e sit low (hp.2 0 u v.copy rfl rfl)
      obtain ⟨g2,m1,m2⟩:=ih _ _ _ h2e g1 us k1.sit k1.low ⟨by have:=hp.1;simpa using this,fun j v' x' a b=>k1.up _ _ _ (hp.2 (j + 1) v' x' (by simpa using a) (by simpa using b))⟩
      refine ⟨g2,k1.trans m1,by simp [m2.1],fun j v' x' a b=>?_⟩
      cases j with
      | zero=>simp at a b;subst a;subst b;exact m1.up _ _ _ k2
      | succ j=>simp at a b;exact m2.2 j v' x' a b
    ·cases hr
   ·cases hr
theorem results_sound {fn:Func} {y:V} {h':List Ob} (h:Pv.results X fn st = some (y,h')) (r:Rel X base N st a w g) :
  ∃ g',Fz X base w g g' st.h h' ∧ ∃ v q,(Go.results fn a.tmps).run X.P w = .ok v w∧RepV X w g' q v y∧(q = .free∨∃ t,q = .slot t):=by
 unfold Pv.results at h
 split at h
 ·rename_i rv t hr ht
  split at h
  ·rename_i v hv
   obtain ⟨u,q,k1,k2,k3⟩:=resultOf_sound hv r
   obtain ⟨g',a,b⟩:=frzRes_ok (base:=base) h r.sit r.low k2
   exact ⟨g',a,u,q,results_run (vals:=[u]) (by rw [hr,List.mapM_cons,Sem.run_bind,k1];simp),b,k3⟩
  ·cases h
 ·cases h
 ·rename_i hne1 hne2
  split at h
  ·rename_i vs hv
   cases hfz:frzAll X fn.resultTypes.toList st.h vs with
   | none=>rw [hfz] at h;simp at h
   | some rr =>
    rw [hfz] at h
    simp only [Option.map_some,Option.some.injEq,Prod.mk.injEq] at h
    obtain ⟨h1,h2⟩:=h
    obtain ⟨vals,k1,k2,k3⟩:=resultsOf_sound (fn:=fn) r _ _ hv
    obtain ⟨g',fa,fb⟩:=frzAll_ok (base:=base) _ _ _ _ hfz g vals r.sit r.low k2
    rw [h2] at fa
    refine ⟨g',fa,_,.free,results_run k1,?_,.inl rfl⟩
    have hl:vals.length ≠ 1:=by
     rw [k3]
     intro hl
     obtain ⟨rv,hrv⟩:=List.length_eq_one_iff.1 hl
     exact hne1 rv hrv
    have hm:oneOf vals = .tuple ⟨vals⟩:=by
     match vals with
     | []=>rfl
     | [v]=>simp at hl
     | v :: u :: l=>rfl
    rw [hm,← h1]
    split
    ·rename_i ds hds
     refine .d _ _ _ ?_
     have:=fb.toDs hds
     exact .tup _ _ this.1 this.2
    ·exact .tup _ _ _ fb.1 fb.2
  ·cases h
end
section
variable {X:Ctx} {w w':World} {g g2:Gh}
theorem lookT_argEnv (vs:List V):∀ n t,lookT t (argEnv n vs) = if n≤t then (vs[t - n]?).getD und else und:=by
 induction vs with
 | nil=>intro n t;simp [argEnv,lookT]
 | cons v vs ih =>
  intro n t
  simp only [argEnv,lookT,ih]
  by_cases h:n = t
  ·subst h;simp
  ·have hb:(n == t) = false:=by simp [h]
   simp only [hb,Bool.false_eq_true,if_false]
   by_cases hle:n≤t
   ·rw [if_pos (by omega),if_pos hle]
    have:t - n = (t - (n + 1)) + 1:=by omega
    rw [this]
    simp
   ·rw [if_neg (by omega),if_neg hle]
theorem RepV.reownFree (he:g2.e = g.e) (hμ:∀ (id b:Nat),g.μ[id]? = some b→g2.μ[id]? = some b) {v:Value} {x:V} (r:RepV X w g .free v x) {q:Own}:RepV X w g2 q v x :=
 (r.reown he hμ .free fun hh=>(hh.ne_free rfl).elim).anyPos
theorem GlobOk.same (h:GlobOk X w g) (he:g2.e = g.e) (ho:∀ b,b < w.heap.size→g.own b = .fgn→g2.own b = .fgn):GlobOk X w g2:=by
 obtain ⟨ms,h⟩:=h
 refine ⟨ms,fun i cs hi=>?_⟩
 obtain ⟨h0,vals,T,fz,h1,h2,h3⟩:=h i cs hi
 exact ⟨ho i (Array.getElem?_eq_some_iff.1 h1).1 h0,vals,T,fz,h1,⟨h2.1,fun j v d hv hd=>by rw [he];exact h2.2 j v d hv hd⟩,by rw [he];exact h3⟩
theorem GlobOk.grow {g':Gh} (h:GlobOk X w g) (k:Grow g w g' w') (hf:Fresh g w):GlobOk X w' g':=h.later (k.later hf)
theorem start_rel {base N:Nat} {vargs:List Value} {args:List V} {h:List Ob} (hp:PtV X w g vargs args) (sit:Sit X w g h) (low:Low X w g base h) :
  Rel X base N { s:=argEnv 0 (args.map V.copy),h:=h,og:=[] } { tmps:=(⟨vargs⟩:Array Value) ++ Array.replicate (N - vargs.length) undef,defers:=[] } w g:=by
 refine ⟨rfl,by simp;omega,fun t=>?_,sit,low,fun _ _ h=>by cases h⟩
 rw [lookT_argEnv,if_pos (Nat.zero_le _)]
 simp only [Nat.sub_zero,List.getElem?_map]
 cases hx:args[t]? with
 | none=>exact .d _ _ _ (.und _)
 | some x =>
  have hlt:t < vargs.length:=by rw [hp.1];exact (List.getElem?_eq_some_iff.1 hx).1
  have hv:vargs[t]? = some vargs[t]:=List.getElem?_eq_getElem hlt
  have:((⟨vargs⟩:Array Value) ++ Array.replicate (N - vargs.length) undef).getD t undef = vargs[t]:=by
   rw [Array.getD_eq_getD_getElem?,Array.getElem?_append_left (by simpa using hlt)]
   simp [hv]
  rw [this]
  exact (hp.2 t _ x hv hx).copy
theorem body_sound {call:CallF} (hc:CallPOk X call) (hci:CallIOk X call) (hf:∀ t,X.frz t = X.frz t) {f:FuncId} {fn:Func} {c:Code} {fuel:Nat} {vargs:List Value} {args:List V} {h h':List Ob} {y:V} (hfn:X.P.funcs[f]? = some fn) (hb:fn.body = some c)
  (hrun:bodyOn X call fuel fn c (args.map V.copy) h = some (y,h')) (hp:PtV X w g vargs args) (sit:Sit X w g h) (low:Low X w g h.length h) {R:Ending→World→Prop}
  (hR:∀ v w' g' q,Later g w g' w' → Sit X w' g' h' → Low X w' g' h.length h' → RepV X w' g' q v y→(q = .free∨∃ t,q = .slot t)→R (.returned v) w'):Calls X.P f ⟨vargs⟩ w R:=by
 have r0:=start_rel (N:=fn.ntmps) hp sit low
 refine calls_of_wp hfn hb ?_
 unfold bodyOn at hrun
 have fin:∀ (st':St) (a':Act) (w':World) (g':Gh),Pv.results X fn st' = some (y,h')→Later g w g' w' → Rel X h.length fn.ntmps st' a' w' g' → a'.defers = [] ∧ ∃ v,(Go.results fn a'.tmps).run X.P w' = .ok v w' ∧ R (.returned v) w':=by
  intro st' a' w' g' hres l r'
  obtain ⟨g2,fz,v,q,h2,h3,h4⟩:=results_sound hres r'
  exact ⟨r'.defers,v,h2,hR v w' g2 q (l.trans fz.later) fz.sit fz.low h3 h4⟩
 split at hrun
 ·rename_i st' hex
  exact exec_sound hc hci c _ _ _ _ _ _ _ _ _ hex r0 fun a' w' g' l r' => fin st' a' w' g' hrun l r'
 ·rename_i st' hex
  exact exec_sound hc hci c _ _ _ _ _ _ _ _ _ hex r0 fun a' w' g' l r' => fin st' a' w' g' hrun l r'
 ·cases hrun
def Gh.alone (g:Gh) (n:Nat):Gh:={ μ:=[],e:=g.e,own:=fun b=>if b < n then .fgn else .free,pin:=⟨[],fun _=>False⟩ }
theorem PtV.pure {vargs:List Value} {args:List V} (h:PtV X w g vargs args) (hp:args.all V.pure = true) (he:g2.e = g.e):PtV X w g2 vargs args:=by
 refine ⟨h.1,fun j v x h1 h2=>?_⟩
 have hx:x.pure = true:=List.all_eq_true.1 hp x (List.mem_of_getElem? h2)
 have:=h.2 j v x h1 h2
 cases this with
 | d _ _ _ r=>exact .d _ _ _ (by rw [he];exact r)
 | tail _ _ _ _ _ _ _ _ _ _ _ _ _ _ _ _ _ _ hp=>exact (IsPos.ne_free hp rfl).elim
 | tail0 _ E a0=>exact .tail0 _ E _
 | full _ b o cells n r=>exact .full _ b o cells n (by rw [he];exact r)
 | obj=>simp [V.pure] at hx
 | osl=>simp [V.pure] at hx
 | clo=>simp [V.pure] at hx
 | agg=>simp [V.pure] at hx
 | tup=>simp [V.pure] at hx
 | mp=>simp [V.pure] at hx
 | it=>simp [V.pure] at hx
theorem alone_sit (hf:Fresh g w) (hg:GlobOk X w g):Sit X w (g.alone w.heap.size) []:=by
 refine ⟨fun b hb=>⟨?_,(hf b hb).2⟩,⟨rfl,fun id b h=>by simp [Gh.alone] at h,fun id b o h=>by simp [Gh.alone] at h⟩,hg.same rfl fun b hb _=>by simp only [Gh.alone];rw [if_pos hb]⟩
 simp only [Gh.alone]
 rw [if_neg (by omega)]
theorem alone_low:Low X w (g.alone w.heap.size) 0 [] :=
 ⟨Nat.le_refl _,fun n hn _ id b o hid=>by omega,fun id b hid=>by omega⟩
theorem alone_own {g':Gh} (l:Later (g.alone w.heap.size) w g' w') {b:Nat} (hb:b < w.heap.size):w'.heap[b]? = w.heap[b]? ∧ g'.own b = .fgn∧g'.e b = g.e b :=
 l.fgn b (by simp only [Gh.alone];rw [if_pos hb])
def Gh.back (g g':Gh) (n k:Nat) (q p:Own):Gh :=
 {μ:=g.μ ++ g'.μ,e:=g'.e,pin:=g.pin,
  own:=fun b=>if b < n then g.own b else match g'.own b with
   | .obj id=>.obj (k + id)
   | .cell id j=>.cell (k + id) j
   | .slot t=>if q = .slot t then p else .free
   | _=>.free }
theorem back_grow {g':Gh} {k:Nat} {q p:Own} (l:Later (g.alone w.heap.size) w g' w') (hf:Fresh g' w'):Grow g w (g.back g' w.heap.size k q p) w' where
 os:=l.os
 tape:=l.tape
 output:=l.output
 size:=l.size
 block:=fun b hb=>(alone_own l hb).1
 own:=fun b hb=>by simp only [Gh.back];rw [if_pos hb]
 e:=fun b hb=>(alone_own l hb).2.2
 μ:=fun id b hb=>by
  have:=(List.getElem?_eq_some_iff.1 hb).1
  simp only [Gh.back]
  rw [List.getElem?_append_left this]
  exact hb
 pin:=rfl
 fresh:=fun b hb=>by
  have h1:=hf b hb
  refine ⟨?_,h1.2⟩
  simp only [Gh.back]
  rw [if_neg (by have:=l.size;omega),h1.1]
theorem shifts_get (n:Nat) (vs:List V):∀ j:Nat,(shifts n vs)[j]? = (vs[j]?).map (V.shift n):=by
 induction vs with
 | nil=>intro j;simp [shifts]
 | cons v vs ih=>intro j;cases j <;> simp [shifts,ih]
theorem shifts_length (n:Nat) (vs:List V):(shifts n vs).length = vs.length:=by
 induction vs with
 | nil=>rfl
 | cons v vs ih=>simp [shifts,ih]
theorem RepV.renumber {n:Nat} (he:g2.e = g.e) (hμ:∀ (id b:Nat),g.μ[id]? = some b→g2.μ[n + id]? = some b) {q:Own} {v:Value} {x:V} (r:RepV X w g q v x):∀ q2,(IsPos q→IsPos q2∧∀ b,g.own b = q→g2.own b = q2)→RepV X w g2 q2 v (x.shift n):=by
 have nf:IsPos Own.free→IsPos Own.free∧∀ b,g.own b = .free→g2.own b = .free:=fun hh=>(hh.ne_free rfl).elim
 induction r with
 | d p v x r=>intro q2 _;exact .d _ _ _ (by rw [he];exact r)
 | tail p E cells m b c cur z vals hz hz0 hb hn hm hcur hcl hee ho hp hv hr =>
  intro q2 h
  obtain ⟨h1,h2⟩:=h hp
  exact .tail _ E cells m b c cur z vals hz hz0 hb hn hm hcur hcl (by rw [he];exact hee) (h2 b ho) h1 hv fun j v d k1 k2=>by rw [he];exact hr j v d k1 k2
 | tail0 _ E a0=>intro q2 _;exact .tail0 _ E _
 | full p b o cells n r=>intro q2 _;exact .full _ b o cells n (by rw [he];exact r)
 | obj p id off b r=>intro q2 _;exact .obj _ _ off b (hμ _ _ r)
 | osl p id off n c b r hn=>intro q2 _;exact .osl _ _ off n c b (hμ _ _ r) hn
 | clo p fn va vb a b hla hlb _ _ iha ihb =>
  intro q2 _
  refine .clo _ fn va vb _ _ (by rw [shifts_length];exact hla) (by rw [shifts_length];exact hlb) (fun j v x h1 h2=>?_) (fun j v x h1 h2=>?_)
  ·rw [shifts_get] at h2
   cases hx:a[j]? with
   | none=>rw [hx] at h2;cases h2
   | some x0=>rw [hx] at h2;cases h2;exact iha j v x0 h1 hx _ nf
  ·rw [shifts_get] at h2
   cases hx:b[j]? with
   | none=>rw [hx] at h2;cases h2
   | some x0=>rw [hx] at h2;cases h2;exact ihb j v x0 h1 hx _ nf
 | agg p vals vs hl _ ih =>
  intro q2 _
  refine .agg _ vals _ (by rw [shifts_length];exact hl) (fun j v x h1 h2=>?_)
  rw [shifts_get] at h2
  cases hx:vs[j]? with
  | none=>rw [hx] at h2;cases h2
  | some x0=>rw [hx] at h2;cases h2;exact ih j v x0 h1 hx _ nf
 | tup p vals vs hl _ ih =>
  intro q2 _
  refine .tup _ vals _ (by rw [shifts_length];exact hl) (fun j v x h1 h2=>?_)
  rw [shifts_get] at h2
  cases hx:vs[j]? with
  | none=>rw [hx] at h2;cases h2
  | some x0=>rw [hx] at h2;cases h2;exact ih j v x0 h1 hx _ nf
 | mp p id b r=>intro q2 _;exact .mp _ _ b (hμ _ _ r)
 | it p id b r=>intro q2 _;exact .it _ _ b (hμ _ _ r)
end
section
variable {X:Ctx}
theorem runP_spec {call:CallF} {fuel:Nat} {f:FuncId} {args:List V} {y:V} {h':List Ob} (hx:extV X f args = none) (h:runP X call fuel f args = some (y,h')) :
  ∃ fn c,X.P.funcs[f]? = some fn∧fn.body = some c∧(fn.name == "runtime.NumGoroutine") = false∧bodyOn X call fuel fn c (args.map V.copy) [] = some (y,h'):=by
 unfold runP at h
 rw [hx] at h
 simp only at h
 split at h
 ·cases h
 ·rename_i fn hfn
  split at h
  ·cases h
  ·rename_i c hb
   split at h
   ·cases h
   ·rename_i hn
    exact ⟨fn,c,hfn,hb,by simpa using hn,h⟩
theorem pure_move {w:World} {g g2:Gh} {q q2:Own} {v:Value} {x:V} (r:RepV X w g q v x) (hx:x.pure = true) (he:g2.e = g.e) (h:IsPos q→IsPos q2∧∀ b,g.own b = q→g2.own b = q2):RepV X w g2 q2 v x:=by
 cases r with
 | d _ _ _ r=>exact .d _ _ _ (by rw [he];exact r)
 | tail _ E cells m b c cur z vals hz hz0 hb hn hm hcur hcl hee ho hp hv hr =>
  obtain ⟨h1,h2⟩:=h hp
  exact .tail _ E cells m b c cur z vals hz hz0 hb hn hm hcur hcl (by rw [he];exact hee) (h2 b ho) h1 hv fun j v d k1 k2=>by rw [he];exact hr j v d k1 k2
 | tail0 _ E a0=>exact .tail0 _ E _
 | full _ b o cells n r=>exact .full _ b o cells n (by rw [he];exact r)
 | obj=>simp [V.pure] at hx
 | osl=>simp [V.pure] at hx
 | clo=>simp [V.pure] at hx
 | agg=>simp [V.pure] at hx
 | tup=>simp [V.pure] at hx
 | mp=>simp [V.pure] at hx
 | it=>simp [V.pure] at hx
theorem RepOb.renumber {w:World} {g g2:Gh} {n:Nat} (he:g2.e = g.e) (hμ:∀ (id b:Nat),g.μ[id]? = some b→g2.μ[n + id]? = some b) (ho:∀ (b id j:Nat),g.own b = .cell id j→g2.own b = .cell (n + id) j) {id b:Nat} {o:Ob} (r:RepOb X w g id b o):RepOb X w g2 (n + id) b (o.shift n):=by
 cases o with
 | cells vs =>
  obtain ⟨vals,T,h1,h2,h3,h4⟩:=r
  refine ⟨vals,T,h1,by rw [shifts_length];exact h2,by rw [he];exact h3,fun j v x k1 k2=>?_⟩
  rw [shifts_get] at k2
  cases hx:vs[j]? with
  | none=>rw [hx] at k2;cases k2
  | some x0=>rw [hx] at k2;cases k2;exact (h4 j v x0 k1 hx).renumber he hμ _ fun _=>⟨⟨0,n + id,j,.inr rfl⟩,fun b hb=>ho b id j hb⟩
 | frozen ds=>obtain ⟨vals,T,h1,h2,h3,h4⟩:=r;exact ⟨vals,T,h1,h2,by rw [he];exact h3,fun j v x k1 k2=>by rw [he];exact h4 j v x k1 k2⟩
 | map es ck=>obtain ⟨en,h1,h2,h3,h4⟩:=r;exact ⟨en,h1,h2,by rw [he];exact h3,fun j v x k1 k2=>by rw [he];exact h4 j v x k1 k2⟩
 | iter s pos=>exact ⟨r.1,by rw [he];exact r.2⟩
theorem slot_of {q:Own} (h:q = .free∨∃ t,q = .slot t) (hp:IsPos q):∃ t,q = .slot t:=by
 rcases h with rfl | h
 ·exact (IsPos.ne_free hp rfl).elim
 ·exact h
theorem callP_step {call:CallF} (hc:CallPOk X call) (hci:CallIOk X call) (hfz:∀ t,X.frz t = X.frz t) {fuel:Nat} {f:FuncId} {args:List V} (hx:extV X f args = none) {y:V} {h':List Ob} (hrun:runP X call fuel f args = some (y,h')) (hpure:args.all V.pure = true)
  {w:World} {g:Gh} {vargs:List Value} (hf:Fresh g w) (hg:GlobOk X w g) (hp:PtV X w g vargs args) {p:Own} (hpos:IsPos p) (k:Nat) :
  ∃ fn,X.P.funcs[f]? = some fn∧(fn.name == "runtime.NumGoroutine") = false∧((∃ c,fn.body = some c)∧Calls X.P f ⟨vargs⟩ w fun E w' => ∃ v g' q,E = .returned v∧Later (g.alone w.heap.size) w g' w' ∧ Sit X w' g' h' ∧ RepV X w' g' q v y∧(IsPos q→IsPos p∧∀ b,g'.own b = q→(g.back g' w.heap.size k q p).own b = p)):=by
 obtain ⟨fn,c,h1,h2,h3,h4⟩:=runP_spec hx hrun
 refine ⟨fn,h1,h3,⟨c,h2⟩,body_sound (g:=g.alone w.heap.size) hc hci hfz h1 h2 h4 (hp.pure hpure rfl) (alone_sit hf hg) alone_low fun v w' g' q l sit _ hr hq=>⟨v,g',q,rfl,l,sit,hr,fun hqp=>⟨hpos,fun b hb=>?_⟩⟩⟩
 obtain ⟨t,rfl⟩:=slot_of hq hqp
 have hnew:¬ b < w.heap.size:=fun hlt=>by
  have:=(alone_own l hlt).2.1
  rw [hb] at this
  cases this
 simp only [Gh.back]
 rw [if_neg hnew,hb]
 simp
def ExtPure (X:Ctx):Prop:=∀ f F,X.ext f = some F→∀ ds y,F ds = some y→y.pure = true
def ExtOk (X:Ctx):Prop :=
 ∀ f F,X.ext f = some F→∀ ds y,F ds = some y→∀ (w:World) (g:Gh) (vargs:List Value),Fresh g w→GlobOk X w g→PtD w g.e vargs ds→∀ p,IsPos p →
  ∃ fn,X.P.funcs[f]? = some fn∧(fn.name == "runtime.NumGoroutine") = false∧((∃ c,fn.body = some c)∧Calls X.P f ⟨vargs⟩ w fun E w' => ∃ v g',E = .returned v∧Keep g w g' w' ∧ RepV X w' g' p v y)
def ExtIOk (X:Ctx):Prop :=
 ∀ f F,X.exti f = some F→∀ args h y h',F args h = some (y,h')→h'.length = h.length→∀ (w:World) (g:Gh) (vargs:List Value),Sit X w g h→PtV X w g vargs args→∀ p,IsPos p →
  ∃ fn,X.P.funcs[f]? = some fn∧(fn.name == "runtime.NumGoroutine") = false∧((∃ c,fn.body = some c)∧Calls X.P f ⟨vargs⟩ w fun E w' => ∃ v g',E = .returned v∧Later g w g' w' ∧ Sit X w' g' h' ∧ RepV X w' g' p v y ∧
   (∀ (id b:Nat),g.μ[id]? = some b→g'.μ[id]? = some b)∧(∀ (b t:Nat),g.own b = .slot t→w'.heap[b]? = w.heap[b]? ∧ g'.own b = .slot t∧g'.e b = g.e b)∧∀ base,Low X w g base h→Low X w' g' base h')
theorem runP_ext {call:CallF} {fuel:Nat} {f:FuncId} {args:List V} {y:V} {h':List Ob} {z:V} (hx:extV X f args = some z) (h:runP X call fuel f args = some (y,h')):∃ F ds,X.ext f = some F∧toDs args = some ds∧F ds = some y∧h' = []:=by
 unfold runP at h
 rw [hx] at h
 simp only [Option.some.injEq,Prod.mk.injEq] at h
 obtain ⟨rfl,rfl⟩:=h
 unfold extV at hx
 split at hx
 ·rename_i F hF
  split at hx
  ·rename_i ds hds
   exact ⟨F,ds,hF,hds,hx,rfl⟩
  ·cases hx
 ·cases hx
theorem extV_none {f:FuncId} (hx:X.ext f = none) (args:List V):extV X f args = none:=by
 unfold extV
 rw [hx]
theorem extV_some {f:FuncId} {F:List D→Option V} (hx:X.ext f = some F) {args:List V} {ds:List D} (hd:toDs args = some ds):extV X f args = F ds:=by
 unfold extV
 rw [hx]
 simp only [hd]
theorem callN_ok (hfz:∀ t,X.frz t = X.frz t) (hx:ExtOk X) (hxp:ExtPure X) (hxi:ExtIOk X) (fuel:Nat):∀ k,CallPOk X (callN X fuel k)∧CallIOk X (callN X fuel k):=by
 intro k
 induction k with
 | zero=>exact ⟨fun f args x h=>by simp [callN] at h,fun f args h y h' hh=>by simp [callN] at hh⟩
 | succ k ih =>
  obtain ⟨hc,hci⟩:=ih
  constructor
  ·intro f args x hcall hpure w g vargs hf hg hp p hpos
   simp only [callN] at hcall
   split at hcall
   ·rename_i v h1 hrun
    split at hcall
    ·rename_i hv
     simp at hcall
     subst hcall
     cases hxf:extV X f args with
     | some z =>
      obtain ⟨F,ds,hxf,e1,e2,rfl⟩:=runP_ext hxf hrun
      exact hx f F hxf ds v e2 w g vargs hf hg (hp.toDs e1) p hpos
     | none =>
     obtain ⟨fn,k1,k2,k3,k4⟩:=callP_step hc hci hfz hxf hrun hpure hf hg hp hpos 0
     refine ⟨fn,k1,k2,k3,k4.mono ?_⟩
     rintro E w' ⟨u,g',q,rfl,l,sit,hr,hq⟩
     have gr:=back_grow (k:=0) (q:=q) (p:=p) l sit.fresh
     refine ⟨u,{ g.back g' w.heap.size 0 q p with μ:=g.μ },rfl,⟨⟨gr.os,gr.tape,gr.output,gr.size,gr.block,gr.own,gr.e,fun _ _ h=>h,rfl,gr.fresh⟩,rfl⟩,?_⟩
     exact pure_move hr hv rfl fun hqp=>⟨(hq hqp).1,(hq hqp).2⟩
    ·cases hcall
   ·cases hcall
  ·intro f args h y h' hcall w g vargs sit hp p hpos
   simp only [callN] at hcall
   split at hcall
   ·rename_i hpure
    split at hcall
    ·rename_i v h1 hrun
     simp at hcall
     obtain ⟨rfl,rfl⟩:=hcall
     cases hxf:extV X f args with
     | some z =>
      obtain ⟨F,ds,hxf,e1,e2,rfl⟩:=runP_ext hxf hrun
      obtain ⟨fn,k1,k2,k3,k4⟩:=hx f F hxf ds v e2 w g vargs sit.fresh sit.glob (hp.toDs e1) p hpos
      refine ⟨fn,k1,k2,k3,k4.mono ?_⟩
      rintro E w' ⟨u,g',rfl,hk,hr⟩
      have hvs:RepV X w' g' p u (v.shift h.length):=by
       cases hr with
       | d _ _ _ r=>exact .d _ _ _ r
       | tail _ E cells m b c cur z vals hz hz0 hb hn hm hcur hcl hee ho hp hv hr=>exact .tail _ E cells m b c cur z vals hz hz0 hb hn hm hcur hcl hee ho hp hv hr
       | tail0 _ E a0=>exact .tail0 _ E _
       | full _ b o cells n r=>exact .full _ b o cells n r
       | _=>exact absurd (hxp f F hxf ds _ e2) (by simp [V.pure])
      refine ⟨u,g',rfl,hk.later sit.fresh,⟨hk.fresh,by simpa using hk.repH sit.fresh sit.heap,sit.glob.grow hk.toGrow sit.fresh⟩,hvs,hk.μ,fun b t hb=>?_,fun base hlow=>?_⟩
      ·have hlt:b < w.heap.size:=by
        apply Classical.byContradiction;intro hn
        rw [(sit.fresh b (by omega)).1] at hb
        cases hb
       exact ⟨hk.block b hlt,(hk.own b hlt).trans hb,hk.e b hlt⟩
      ·refine hlow.grow sit.fresh hk.toGrow sit.heap.len (fun id o hid ho=>?_) (by simp)
       simpa using ho
     | none =>
     obtain ⟨fn,k1,k2,k3,k4⟩:=callP_step hc hci hfz hxf hrun hpure sit.fresh sit.glob hp hpos h.length
     refine ⟨fn,k1,k2,k3,k4.mono ?_⟩
     rintro E w' ⟨u,g',q,rfl,l,sit',hr,hq⟩
     have gr:=back_grow (k:=h.length) (q:=q) (p:=p) l sit'.fresh
     have hμ:∀ (id b:Nat),g'.μ[id]? = some b→(g.back g' w.heap.size h.length q p).μ[h.length + id]? = some b:=by
      intro id b hb
      simp only [Gh.back]
      rw [List.getElem?_append_right (by rw [sit.heap.len];omega),sit.heap.len]
      rw [show h.length + id - h.length = id by omega]
      exact hb
     have hnew:∀ b,g'.own b ≠ .fgn→¬ b < w.heap.size:=fun b hb hlt=>hb (alone_own l hlt).2.1
     have hcell:∀ (b id j:Nat),g'.own b = .cell id j→(g.back g' w.heap.size h.length q p).own b = .cell (h.length + id) j:=by
      intro b id j hb
      simp only [Gh.back]
      rw [if_neg (hnew b (by rw [hb];simp)),hb]
     have hsplit:∀ (id:Nat) (b:Nat),(g.back g' w.heap.size h.length q p).μ[id]? = some b→(id < h.length∧g.μ[id]? = some b)∨∃ i,id = h.length + i∧g'.μ[i]? = some b:=by
      intro id b hb
      simp only [Gh.back] at hb
      by_cases hid:id < h.length
      ·rw [List.getElem?_append_left (by rw [sit.heap.len];exact hid)] at hb
       exact .inl ⟨hid,hb⟩
      ·rw [List.getElem?_append_right (by rw [sit.heap.len];omega),sit.heap.len] at hb
       exact .inr ⟨id - h.length,by omega,hb⟩
     refine ⟨u,g.back g' w.heap.size h.length q p,rfl,gr.later sit.fresh,⟨gr.fresh,⟨?_,fun id b hb=>?_,fun id b o hb ho=>?_⟩,sit.glob.grow gr sit.fresh⟩,hr.renumber (g:=g') (g2:=g.back g' w.heap.size h.length q p) rfl hμ _ (fun hqp=>⟨(hq hqp).1,(hq hqp).2⟩),gr.μ,fun b t hb=>?_,fun base hlow=>?_⟩
     ·simp [Gh.back,sit.heap.len,sit'.heap.len]
     ·rcases hsplit id b hb with ⟨hid,hb⟩ | ⟨i,rfl,hb'⟩
      ·rw [gr.own b (sit.heap.lt hb)]
       exact sit.heap.own id b hb
      ·have ho:=sit'.heap.own i b hb'
       simp only [Gh.back]
       rw [if_neg (hnew b (by rw [ho];simp)),ho]
     ·rcases hsplit id b hb with ⟨hid,hb⟩ | ⟨i,rfl,hb'⟩
      ·rw [List.getElem?_append_left hid] at ho
       exact gr.repOb sit.fresh (sit.heap.ob id b o hb ho)
      ·rw [List.getElem?_append_right (by omega),show h.length + i - h.length = i by omega,List.getElem?_map] at ho
       cases ho1:h1[i]? with
       | none=>rw [ho1] at ho;cases ho
       | some o1 =>
        rw [ho1] at ho
        cases ho
        exact (sit'.heap.ob i b o1 hb' ho1).renumber (g:=g') (g2:=g.back g' w.heap.size h.length q p) rfl hμ hcell
     ·have hlt:b < w.heap.size:=by
       apply Classical.byContradiction;intro hn
       rw [(sit.fresh b (by omega)).1] at hb
       cases hb
      exact ⟨gr.block b hlt,(gr.own b hlt).trans hb,gr.e b hlt⟩
     ·refine hlow.grow sit.fresh gr sit.heap.len (fun id o hid ho=>?_) (by simp)
      rw [List.getElem?_append_left (Nat.lt_of_lt_of_le hid hlow.1)] at ho
      exact ho
    ·cases hcall
   ·
    unfold runI at hcall
    cases hxo:xiOf X f args h with
    | some o =>
     rw [hxo] at hcall
     simp only at hcall
     subst hcall
     unfold xiOf at hxo
     split at hxo
     ·cases hxo
     ·split at hxo
      ·cases hxo
      ·rename_i F hF
       simp only [Option.some.injEq] at hxo
       split at hxo
       ·rename_i v0 h0 hv0
        split at hxo
        ·rename_i hvl
         simp only [Option.some.injEq,Prod.mk.injEq] at hxo
         obtain ⟨rfl,rfl⟩:=hxo
         simp only [Bool.and_eq_true,beq_iff_eq] at hvl
         exact hxi f F hF args h _ _ hv0 hvl.2 w g vargs sit hp p hpos
        ·cases hxo
       ·cases hxo
    | none =>
    rw [hxo] at hcall
    simp only at hcall
    split at hcall
    ·cases hcall
    ·rename_i fn hfn
     split at hcall
     ·cases hcall
     ·rename_i c hb
      split at hcall
      ·cases hcall
      ·rename_i hn
       simp only [Bool.or_eq_true,not_or,Bool.not_eq_true] at hn
       split at hcall
       ·rename_i y1 h1 hbody
        let g0:Gh:={ g with own:=fun b=>match g.own b with | .slot _=>.fgn | o=>o,pin:=⟨g.μ,fun n=>Elder X w g n h⟩ }
        have o1:∀ b t,g.own b = .slot t→g0.own b = .fgn:=fun b t hb=>by simp only [g0,hb]
        have o2:∀ b,(∀ t,g.own b ≠ .slot t)→g0.own b = g.own b:=fun b hb=>by
         show (match g.own b with | .slot _=>Own.fgn | o=>o) = g.own b
         split
         ·rename_i t ho;exact (hb t ho).elim
         ·rfl
        have o3:∀ (b id j:Nat),g.own b = .cell id j→g0.own b = .cell id j:=fun b id j hb=>(o2 b (by rw [hb];simp)).trans hb
        have e0:g0.e = g.e:=rfl
        have μ0:g0.μ = g.μ:=rfl
        have hobs:∀ (id b:Nat) (o:Ob),g.μ[id]? = some b→h[id]? = some o→RepOb X w g0 id b o:=fun id b o hb ho=>(sit.heap.ob id b o hb ho).reown (g2:=g0) e0 (fun _ _ h=>h) o3
        have sit0:Sit X w g0 h:=by
         refine ⟨fun b hb=>⟨?_,(sit.fresh b hb).2⟩,⟨sit.heap.len,fun id b hb=>?_,fun id b o hb ho=>hobs id b o hb ho⟩,sit.glob.same e0 fun b _ hb=>(o2 b (by rw [hb];simp)).trans hb⟩
         ·rw [o2 b (by rw [(sit.fresh b hb).1];simp)];exact (sit.fresh b hb).1
         ·have:=sit.heap.own id b hb
          rw [o2 b (by rw [this];simp)];exact this
        have low0:Low X w g0 h.length h:=by
         refine ⟨Nat.le_refl _,fun n hn hel id b o hid hb ho=>?_,fun id b hid hb=>hb⟩
         rcases hel with rfl | hel
         ·refine (hobs id b o hb ho).reown (g:=g0) (g2:=g0.trunc h.length) rfl (fun i b' hi=>?_) (fun _ _ _ h=>h)
          refine trunc_put ?_ hi
          have:=(List.getElem?_eq_some_iff.1 hi).1
          rw [μ0,sit.heap.len] at this
          exact this
         ·exact (hel id b o hid hb ho).reown (g:=g.trunc n) (g2:=g0.trunc n) rfl (fun _ _ h=>h) o3
        have hp0:PtV X w g0 vargs args:=⟨hp.1,fun j v x k1 k2=>(hp.2 j v x k1 k2).reownFree (g2:=g0) e0 fun _ _ h=>h⟩
        refine ⟨fn,hfn,hn.1,⟨c,hb⟩,body_sound hc hci hfz hfn hb hbody hp0 sit0 low0 fun v w' g' q l sit' low' hr hq=>?_⟩
        let g2:Gh:={ μ:=g'.μ,e:=g'.e,pin:=g.pin,own:=fun b=>match g.own b with | .slot t=>.slot t | _=>match g'.own b with | .slot t=>if q = .slot t then p else .free | o=>o }
        have hfgn:∀ b t,g.own b = .slot t→w'.heap[b]? = w.heap[b]? ∧ g'.own b = .fgn∧g'.e b = g.e b:=fun b t hb=>l.fgn b (o1 b t hb)
        have s1:∀ b t,g.own b = .slot t→g2.own b = .slot t:=fun b t hb=>by simp only [g2,hb]
        have ns:∀ b,g'.own b ≠ .fgn→∀ t,g.own b ≠ .slot t:=fun b hb t ht=>hb (hfgn b t ht).2.1
        have s2:∀ b,(∀ t,g.own b ≠ .slot t)→(∀ t,g'.own b ≠ .slot t)→g2.own b = g'.own b:=fun b h1 h2=>by
         show (match g.own b with | .slot t=>Own.slot t | _=>match g'.own b with | .slot t=>if q = .slot t then p else .free | o=>o) = g'.own b
         split
         ·rename_i t ho;exact (h1 t ho).elim
         ·split
          ·rename_i t ho;exact (h2 t ho).elim
          ·rfl
        have hcell:∀ (b id j:Nat),g'.own b = .cell id j→g2.own b = .cell id j:=fun b id j hb=>(s2 b (ns b (by rw [hb];simp)) (by rw [hb];simp)).trans hb
        have hq2:IsPos q→IsPos p∧∀ b,g'.own b = q→g2.own b = p:=by
         intro hqp
         refine ⟨hpos,fun b hb=>?_⟩
         obtain ⟨t,rfl⟩:=slot_of hq hqp
         simp only [g2]
         cases ho:g.own b with
         | slot t' => exact (ns b (by rw [hb];simp) t' ho).elim
         | _=>simp [hb]
        have hfgn2:∀ b,g.own b = .fgn→w'.heap[b]? = w.heap[b]? ∧ g2.own b = .fgn∧g'.e b = g.e b:=by
         intro b hb
         have h0:g0.own b = .fgn:=(o2 b (by rw [hb];simp)).trans hb
         obtain ⟨k1,k2,k3⟩:=l.fgn b h0
         exact ⟨k1,(s2 b (by rw [hb];simp) (by rw [k2];simp)).trans k2,k3⟩
        have l2:Later g w g2 w':=⟨l.os,l.tape,l.output,l.size,l.cells,l.e,hfgn2,rfl⟩
        have hμ2:∀ (id b:Nat),g.μ[id]? = some b→g'.μ[id]? = some b:=by
         intro id b hb
         refine low'.2.2 id b ?_ (by rw [l.pin];exact hb)
         have:=(List.getElem?_eq_some_iff.1 hb).1
         rw [sit.heap.len] at this
         exact this
        have hobs2:∀ (id b:Nat) (o:Ob),g'.μ[id]? = some b→h1[id]? = some o→RepOb X w' g2 id b o:=fun id b o hb ho=>(sit'.heap.ob id b o hb ho).reown (g:=g') (g2:=g2) rfl (fun _ _ h=>h) hcell
        have fr2:Fresh g2 w':=fun b hb=>by
         have k1:=sit'.fresh b hb
         refine ⟨?_,k1.2⟩
         have k2:=(sit.fresh b (by have:=l.size;omega)).1
         rw [s2 b (by rw [k2];simp) (by rw [k1.1];simp)]
         exact k1.1
        have sit2:Sit X w' g2 h1:=by
         refine ⟨fr2,⟨sit'.heap.len,fun id b hb=>?_,hobs2⟩,sit.glob.later l2⟩
         have:=sit'.heap.own id b hb
         rw [s2 b (ns b (by rw [this];simp)) (by rw [this];simp)]
         exact this
        have hr2:RepV X w' g2 p v y1:=hr.reown (g:=g') (g2:=g2) rfl (fun _ _ h=>h) p hq2
        have hslots:∀ (b t:Nat),g.own b = .slot t→w'.heap[b]? = w.heap[b]? ∧ g2.own b = .slot t∧g2.e b = g.e b:=fun b t hb=>⟨(hfgn b t hb).1,s1 b t hb,(hfgn b t hb).2.2⟩
        have hlow2:∀ base,Low X w g base h→Low X w' g2 base h1:=by
         intro base hl
         refine ⟨Nat.le_trans hl.1 low'.1,fun n hn hel id b o hid hb ho=>?_,fun id b hid hb=>hμ2 id b (hl.2.2 id b hid hb)⟩
         have hold:Elder X w g n h:=hl.2.1 n hn hel
         have:=low'.2.1 n (Nat.le_trans hn hl.1) (.inr (by rw [l.pin];exact hold)) id b o hid hb ho
         exact this.reown (g:=g'.trunc n) (g2:=g2.trunc n) rfl (fun _ _ h=>h) hcell
        split at hcall
        ·rename_i hv
         simp at hcall
         obtain ⟨rfl,rfl⟩:=hcall
         have len':(h1.take h.length).length = h.length:=by rw [List.length_take];have:=low'.1;omega
         refine ⟨v,g2.trunc h.length,rfl,⟨l2.os,l2.tape,l2.output,l2.size,l2.cells,l2.e,l2.fgn,rfl⟩,⟨fr2,⟨?_,fun id b hb=>sit2.heap.own id b (trunc_get hb).2,fun id b o hb ho=>?_⟩,sit2.glob⟩,pure_move hr2 hv rfl (fun hqp=>⟨hqp,fun _ h=>h⟩),fun id b hb=>?_,hslots,fun base hl=>?_⟩
         ·simp only [Gh.trunc,List.length_take,sit2.heap.len]
         ·obtain ⟨k1,k2⟩:=trunc_get hb
          rw [List.getElem?_take,if_pos k1] at ho
          exact (low'.2.1 h.length (Nat.le_refl _) (.inl rfl) id b o k1 k2 ho).reown (g:=g'.trunc h.length) (g2:=g2.trunc h.length) rfl (fun _ _ h=>h) hcell
         ·refine trunc_put ?_ (hμ2 id b hb)
          have:=(List.getElem?_eq_some_iff.1 hb).1
          rw [sit.heap.len] at this
          exact this
         ·have hl2:=hlow2 base hl
          refine ⟨by rw [len'];exact hl.1,fun n hn hel id b o hid hb ho=>?_,fun id b hid hb=>trunc_put (Nat.lt_of_lt_of_le hid hl.1) (hl2.2.2 id b hid hb)⟩
          have k1:id < h.length:=Nat.lt_of_lt_of_le (Nat.lt_of_lt_of_le hid hn) hl.1
          rw [List.getElem?_take,if_pos k1] at ho
          have:=hl2.2.1 n hn hel id b o hid (trunc_get hb).2 ho
          have he:(g2.trunc h.length).trunc n = g2.trunc n:=by
           simp only [Gh.trunc,List.take_take,Nat.min_eq_left (Nat.le_trans hn hl.1)]
          rw [he]
          exact this
        ·simp at hcall
         obtain ⟨rfl,rfl⟩:=hcall
         exact ⟨v,g2,rfl,l2,sit2,hr2,hμ2,hslots,hlow2⟩
       ·cases hcall
end
end Go.Proofs.YtdbmhmembmgndaaGreatDoor.Pv
