/- Lemmas for the law PointsClipsLaw: texts of mine, merged. -/
import Derived.Deep.LoopGhost
import Derived.Scope
import Derived.Test.YtaobccodpdmieaaChecked
import Derived.Below
import Derived.Carry
import Derived.ProofKit
import Derived.OpenShut
import Derived.Deep.Slices
import Derived.SizedLaws
import Derived.Test.YtaobccodpdmieaaMPointsClipsLaw1
/- Pv: text to bytes, slices that are made, copy, a map's length; and all operations of the second row in one. -/
set_option linter.unusedSimpArgs false
set_option linter.unusedVariables false
namespace Go.Proofs.Ytaobccodpdmieaa.Pv
open Go

section
variable {X : Ctx} {base N : Nat} {st : St} {a : Act} {w : World} {g : Gh} {call : CallF} {o : Oper}

theorem keep_bytes {g : Gh} {w : World} (hf : Fresh g w) (e : TypeId) (s : ByteArray) (n : Nat) : Keep g w (g.row w.heap.size n .free) (Lib.bytesWorld w e s) where
  os := by simp [Lib.bytesWorld, World.freeze, World.alloc, World.drew, -World.alloc_eq, -World.drew_eq]
  tape := by simp [Lib.bytesWorld, World.freeze, World.alloc, World.drew, -World.alloc_eq, -World.drew_eq]
  output := by simp [Lib.bytesWorld, World.freeze, World.alloc, World.drew, -World.alloc_eq, -World.drew_eq]
  size := by rw [Lib.bytesWorld_size]; omega
  block := fun b hb => Lib.bytesWorld_at_old w e s b hb
  own := fun b hb => by simp only [Gh.row]; rw [if_neg (by omega)]
  e := fun b hb => by simp only [Gh.row]; rw [if_neg (by omega)]
  μ := fun _ _ h => h
  pin := rfl
  μeq := rfl
  fresh := fun b hb => by
    rw [Lib.bytesWorld_size] at hb
    simp only [Gh.row]
    rw [if_neg (by omega), if_neg (by omega)]
    exact hf b (by omega)

theorem step_stringToBytes {s t e : TypeId} {x : Operand} {l : List UInt8} (hop : o.op = .convert s t x) (hs : X.P.underlying s = some .string) (ht : X.P.underlying t = some (.slice e)) (he : X.P.underlying e = some (.int .u8))
    (hx : st.get X x = .d (.str l)) (hN : dstOk N o = true) (r : Rel X base N st a w g) {K : Act → World → Prop} {Q : Exit → Act → World → Prop}
    (hK : Goes X base N (st.put o.dst (.d (.sl (l.map fun b => .int .u8 b.toNat) l.length))) g w K) : o.wp X.P a w K Q := by
  obtain ⟨q, hq⟩ := r.get x
  rw [hx] at hq
  generalize hve : a.eval x = v at hq
  cases hq with
  | d _ _ _ hd =>
    cases hd
    have hr := Lib.run_convert_string_bytes (P := X.P) w s t e ⟨l.toArray⟩ hs ht he
    have hrun : (execOp a.eval o).run X.P w = .ok (.value (.slice (some ⟨w.heap.size, 0, none⟩) l.length (grownCap w l.length 0 e))) (Lib.bytesWorld w e ⟨l.toArray⟩) := by
      unfold execOp
      have hsz : (⟨l.toArray⟩ : ByteArray).size = l.length := by simp [ByteArray.size]
      rw [hsz] at hr
      simp [hop, hve, hr]
    have hk := keep_bytes r.sit.fresh e ⟨l.toArray⟩ l.length
    refine wp_value hrun (hK _ _ _ (hk.later r.sit.fresh) ((r.keep hk).put hN fun d _ => .d _ _ _ (.sl _ 0 _ _ _ (l.map fun b => .int .u8 b.toNat) ?_ (by simp) (by simp [Gh.row]) (fun j v hj => ?_) (fun j v d h1 h2 => ?_))))
    · exact grownCap_ge w l.length 0 e
    · have hlt : j < l.length := by simpa using (List.getElem?_eq_some_iff.1 hj).1
      rw [Nat.zero_add, Lib.bytesWorld_cell w e ⟨l.toArray⟩ j (by simpa [ByteArray.size] using hlt)]
      rw [List.getElem?_map, List.getElem?_eq_getElem hlt] at hj
      simp at hj
      simp [List.getD_eq_getElem?_getD, List.getElem?_eq_getElem hlt, ← hj]
    · rw [List.getElem?_map] at h1 h2
      cases hs : l[j]? with
      | none => simp [hs] at h1
      | some b => simp [hs] at h1 h2; subst h1; subst h2; exact .int _ _

theorem step_mapLen {c : Call} {x : Operand} {t : TypeId} {es : List (D × D)} (hop : o.op = .call c) (hc : c.callee = .builtin .len) (hargs : c.args.toList = [x]) (hts : c.argTypes.toList = [t]) (ht : isMapT X.P t = true)
    (hes : mapOf st.h (st.get X x) = some es) (hN : dstOk N o = true) (r : Rel X base N st a w g) {K : Act → World → Prop} {Q : Exit → Act → World → Prop}
    (hK : Goes X base N (st.put o.dst (.d (.int .i64 es.length))) g w K) : o.wp X.P a w K Q := by
  have hargs' : c.args = #[x] := by apply Array.ext'; simpa using hargs
  have hts' : c.argTypes = #[t] := by apply Array.ext'; simpa using hts
  obtain ⟨q, hq⟩ := r.get x
  generalize hve : a.eval x = v at hq
  have hu : ∃ k e, X.P.underlying t = some (.map k e) := by
    unfold isMapT at ht
    split at ht
    · rename_i k e hu; exact ⟨k, e, hu⟩
    · cases ht
  obtain ⟨k, e, hu⟩ := hu
  refine step_plain (v := .int .i64 es.length) ?_ (fun p => .d _ _ _ (.int _ _)) hN r hK
  unfold execOp
  rcases mapOf_rep hes r.sit.heap hq with ⟨rfl, rfl⟩ | ⟨b, ens, ck, rfl, h1, h2, h3⟩
  · simp [hop, resolve, hc, hargs', hts', invoke, builtin, hve, Builtin.len_, run_underlying hu, goInt]
  · simp [hop, resolve, hc, hargs', hts', invoke, builtin, hve, Builtin.len_, run_underlying hu, MapKept.run_getObj_map h1, goInt, h2]

/-- A slice that is made. -/
theorem step_makeSlice {t : TypeId} {l c : Operand} {y : V} {h' : List Ob} (hop : o.op = .makeSlice t l c) (hy : makeSliceOp X st t l c = some (y, h')) (hN : dstOk N o = true) (r : Rel X base N st a w g) {K : Act → World → Prop} {Q : Exit → Act → World → Prop}
    (hK : Goes X base N ({ st with h := h' }.put o.dst y) g w K) : o.wp X.P a w K Q := by
  have hf := r.sit.fresh
  unfold makeSliceOp at hy
  split at hy
  · rename_i e kl l' kc c' hE hl hc
    obtain ⟨ql, hql⟩ := r.get l
    obtain ⟨qc, hqc⟩ := r.get c
    have hle : ∃ kl, a.eval l = .int kl l' := by
      unfold intOfV at hl
      split at hl
      · rename_i k n hx; simp at hl; obtain ⟨rfl, rfl⟩ := hl; rw [hx] at hql; generalize a.eval l = v at hql; cases hql with | d _ _ _ hd => cases hd; exact ⟨_, rfl⟩
      · cases hl
    have hce : ∃ kc, a.eval c = .int kc c' := by
      unfold intOfV at hc
      split at hc
      · rename_i k n hx; simp at hc; obtain ⟨rfl, rfl⟩ := hc; rw [hx] at hqc; generalize a.eval c = v at hqc; cases hqc with | d _ _ _ hd => cases hd; exact ⟨_, rfl⟩
      · cases hc
    obtain ⟨kl1, hle⟩ := hle
    obtain ⟨kc1, hce⟩ := hce
    have ht : X.P.underlying t = some (.slice e) := by
      unfold elemT at hE
      split at hE
      · rename_i e' hu; simp at hE; subst hE; exact hu
      · cases hE
    split at hy
    · rename_i i z hi hz
      split at hy
      · rename_i hcnd
        obtain ⟨h0, hlc, hby, hcb, hs0, hzl⟩ := hcnd
        unfold zeroT at hz
        simp only [hi] at hz
        cases hzz : i.zero with
        | none => simp [hzz] at hz
        | some zv =>
          simp [hzz] at hz
          subst hz
          have hzsz : zv.cells.size = i.size := by
            have := (cells_ofVal (w := w) (e := g.e) 4 zv).1
            rw [Array.length_toList] at this
            rw [this]; exact hzl
          have hmk := run_make (P := X.P) w t e i zv ht hi hzz kl1 kc1 l' c' h0 hlc (by have := hby; simp only [bigLen] at this; rw [Int.mul_comm]; omega) (by simp only [bigLen] at hcb; omega)
          have hrun : (execOp a.eval o).run X.P w = .ok (.value (.slice (some ⟨w.heap.size, 0, none⟩) l'.toNat c'.toNat)) (w.alloc (.cells (madeCells zv.cells (c'.toNat * i.size)) e)) := by
            unfold execOp
            simp [hop, hle, hce, hmk]
          split at hy
          · rename_i hl0
            simp at hy
            obtain ⟨rfl, rfl⟩ := hy
            have hk := keep_row (q := dstPos o) hf rfl rfl rfl rfl (.cells ⟨(madeCells zv.cells (c'.toNat * i.size)).toList⟩ e) 0
            have hrep := row_rep (X := X) (w := w) (w1 := w) (g := g) (E := e) (z := i.size) (c := c'.toNat) (k := 0) (vals := []) (rest := (madeCells zv.cells (c'.toNat * i.size)).toList) (ds := []) hf rfl rfl rfl rfl (by simp [sizeT, hi]) (Nat.pos_of_ne_zero hs0) ⟨rfl, by simp⟩ (by simp) (Nat.zero_le _) (by simp only [bigLen] at hcb; simp only [maxLen]; omega) (by simp [size_madeCells]) (dstPos_pos o)
            simp only [Nat.zero_mul, List.nil_append] at hrep
            refine wp_value hrun (hK _ _ _ (hk.later hf) ((r.keep hk).put hN fun d hd => ?_))
            rw [← dstPos_eq hd, hl0]
            exact hrep
          · rename_i hl0
            split at hy
            · rename_i hlceq
              subst hlceq
              simp only [Option.some.injEq, Prod.mk.injEq] at hy
              obtain ⟨rfl, rfl⟩ := hy
              have hpt : PtD w g.e (madeCells zv.cells (l'.toNat * i.size)).toList ((List.replicate l'.toNat (D.ofVal 6 zv).cells).flatten) := zero_rows (len := l'.toNat) (n := i.size) hzl
              have hpv : PtV X w g (madeCells zv.cells (l'.toNat * i.size)).toList (((List.replicate l'.toNat (D.ofVal 6 zv).cells).flatten).map .d) := PtD.toV hpt
              have k := grow_box hf (.cells ⟨(madeCells zv.cells (l'.toNat * i.size)).toList⟩ e)
              refine wp_value hrun (hK _ _ _ (k.later hf) (r.newOb (obj := .cells ⟨(madeCells zv.cells (l'.toNat * i.size)).toList⟩ e) ⟨_, e, heap_alloc_new w _, hpv.1, (hf _ (Nat.le_refl _)).2, fun j v x h1 h2 => (k.repV hf (hpv.2 j v x h1 h2)).anyPos⟩ (fun p => .osl p _ _ _ _ _ r.boxAt (Nat.le_refl _)) hN))
            · cases hy
      · cases hy
    · cases hy
  · cases hy

/-- What 'copy' reads. -/
theorem copySrc_rep {z m : Nat} {x : V} {cs : List V} (h : copySrc st.h z x = some (cs, m)) (hh : RepH X w g st.h) {q : Own} {v : Value} (hv : RepV X w g q v x) :
    ∃ news : List Value, (Builtin.lenOf v).run X.P w = .ok m w ∧ (∀ k, k ≤ m → (Builtin.firstCells z k v).run X.P w = .ok ⟨news.take (k * z)⟩ w) ∧ news.length = cs.length ∧ cs.length = m * z ∧
      ∀ (j : Nat) (u : Value) (y : V), news[j]? = some u → cs[j]? = some y → ∀ p, RepV X w g p u y := by
  unfold copySrc at h
  split at h
  · rename_i s
    split at h
    · rename_i hz
      subst hz
      simp at h
      obtain ⟨rfl, rfl⟩ := h
      cases hv with
      | d _ _ _ hd =>
        cases hd
        refine ⟨s.map fun b => .int .u8 b.toNat, by simp [Builtin.lenOf, ByteArray.size], fun k hk => ?_, by simp, by simp, fun j u y h1 h2 p => ?_⟩
        · simp only [Builtin.firstCells, Sem.run_pure]
          congr 1
          apply Array.ext'
          rw [extract_mk]
          simp [List.map_take]
        · rw [List.getElem?_map] at h1 h2
          cases hs : s[j]? with
          | none => simp [hs] at h1
          | some b => simp [hs] at h1 h2; subst h1; subst h2; exact .d _ _ _ (.int _ _)
    · cases h
  · rename_i id off n
    split at h
    · rename_i vs ho
      split at h
      · rename_i hle
        simp at h
        obtain ⟨rfl, rfl⟩ := h
        cases hv with
        | osl _ _ _ _ c b hb hn =>
          obtain ⟨vals, T, k1, k2, k3, k4⟩ := hh.ob id b _ hb ho
          refine ⟨(vals.drop off).take (n * z), by simp [Builtin.lenOf], fun k hk => ?_, by simp [k2], by simp; omega, fun j u y h1 h2 p => ?_⟩
          · have hkz : k * z ≤ n * z := Nat.mul_le_mul_right z hk
            have := run_firstCells_some (P := X.P) w z k ⟨b, off, none⟩ n c ((vals.drop off).take (k * z)) (by simp [k2]; omega) (fun j v hj => by
              rw [Addr.add_lit, cell_of_heap k1]
              rw [List.getElem?_take] at hj
              split at hj
              · rw [List.getElem?_drop] at hj; simpa using hj
              · cases hj)
            rw [this, List.take_take, Nat.min_eq_left hkz]
          · rw [List.getElem?_take] at h1
            split at h1
            · rename_i hj
              rw [List.getElem?_drop] at h1
              rw [List.getElem?_take, if_pos hj, List.getElem?_drop, List.getElem?_map] at h2
              cases hx : vs[off + j]? with
              | none => simp [hx] at h2
              | some x' => simp [hx] at h2; subst h2; exact (k4 _ u x' h1 hx).copy
            · cases h1
      · cases h
    · cases h
  · rename_i x _ _
    split at h
    · rename_i c n hs
      split at h
      · rename_i hcl
        simp at h
        obtain ⟨rfl, rfl⟩ := h
        rcases V.slice?_rep hs hv with ⟨_, rfl, rfl, rfl⟩ | hr
        · exact ⟨[], by simp [Builtin.lenOf], fun k hk => by simp [Builtin.firstCells], by simp, by simp, by simp⟩
        · cases hr with
          | sl0 ad cp _ =>
            refine ⟨[], by simp [Builtin.lenOf], fun k hk => ?_, by simp, by simp, by simp⟩
            obtain rfl : k = 0 := by omega
            cases ad <;> simp [Builtin.firstCells, loadCells, loadCellsFrom]
          | sl b o' _ cp _ vals hnc hlv hee hc hrr =>
            refine ⟨vals, by simp [Builtin.lenOf], fun k hk => ?_, by simp [hlv], by simp [hcl], fun j u y h1 h2 p => ?_⟩
            · have hkz : k * z ≤ n * z := Nat.mul_le_mul_right z hk
              exact run_firstCells_some (P := X.P) w z k ⟨b, o', none⟩ n cp (vals.take (k * z)) (by rw [List.length_take, hlv, hcl]; exact Nat.min_eq_left hkz) (fun j v hj => by
                rw [Addr.add_lit]
                rw [List.getElem?_take] at hj
                split at hj
                · exact hc j v hj
                · cases hj)
            · rw [List.getElem?_map] at h2
              cases hd : c[j]? with
              | none => simp [hd] at h2
              | some d => simp [hd] at h2; subst h2; exact .d _ _ _ (hrr j u d h1 hd)
      · cases h
    · cases h

theorem step_copy {c : Call} {d x : Operand} {t u e : TypeId} {id off n z m : Nat} {vs cs : List V} (hop : o.op = .call c) (hc : c.callee = .builtin .copy) (hargs : c.args.toList = [d, x]) (hts : c.argTypes.toList = [t, u])
    (he : elemT X.P t = some e) (hd : st.get X d = .osl id off n) (hz : sizeT X.P e = some z) (ho : st.h[id]? = some (.cells vs)) (hsrc : copySrc st.h z (st.get X x) = some (cs, m)) (hle : off + n * z ≤ vs.length)
    (hone : (cs.take (min m n * z)).all V.one = true) (hbase : base ≤ id ∨ (toDs (cs.take (min m n * z))).isSome = true) (hN : dstOk N o = true) (r : Rel X base N st a w g) {K : Act → World → Prop} {Q : Exit → Act → World → Prop}
    (hK : Goes X base N ({ s := st.s, h := st.h.set id (.cells (splice vs off (cs.take (min m n * z)))), og := ogBut id st.og : St }.put o.dst (.d (.int .i64 (min m n : Nat)))) g w K) : o.wp X.P a w K Q := by
  have hargs' : c.args = #[d, x] := by apply Array.ext'; simpa using hargs
  have hts' : c.argTypes = #[t, u] := by apply Array.ext'; simpa using hts
  have ht : X.P.underlying t = some (.slice e) := by
    unfold elemT at he
    split at he
    · rename_i e' hu; simp at he; subst he; exact hu
    · cases he
  obtain ⟨qd, hqd⟩ := r.get d
  rw [hd] at hqd
  obtain ⟨qx, hqx⟩ := r.get x
  generalize hde : a.eval d = dv at hqd
  generalize hxe : a.eval x = xv at hqx
  obtain ⟨news, n1, n2, n3, n4, n5⟩ := copySrc_rep hsrc r.sit.heap hqx
  cases hqd with
  | osl _ _ _ _ cp b hb hn =>
    obtain ⟨vals, T, k1, k2, k3, k4⟩ := r.sit.heap.ob id b _ hb ho
    have hmz : min m n * z ≤ n * z := Nat.mul_le_mul_right z (Nat.min_le_right _ _)
    have hmz2 : min m n * z ≤ m * z := Nat.mul_le_mul_right z (Nat.min_le_left _ _)
    have hlu : (news.take (min m n * z)).length = (cs.take (min m n * z)).length := by simp [n3]
    have hrep : ∀ (j : Nat) (v : Value) (y : V), (news.take (min m n * z))[j]? = some v → (cs.take (min m n * z))[j]? = some y → ∀ p, RepV X w g p v y := by
      intro j v y h1 h2 p
      rw [List.getElem?_take] at h1 h2
      split at h1
      · rename_i hj; rw [if_pos hj] at h2; exact n5 j v y h1 h2 p
      · cases h1
    have hone' : ∀ v ∈ news.take (min m n * z), v.oneCell' = true := by
      intro v hv
      obtain ⟨j, hj, rfl⟩ := List.mem_iff_getElem.1 hv
      have hj2 : j < (cs.take (min m n * z)).length := by rw [← hlu]; exact hj
      simp only [List.all_eq_true] at hone
      exact one_valV (hrep j _ _ (List.getElem?_eq_getElem hj) (List.getElem?_eq_getElem hj2) .free) (hone _ (List.getElem_mem hj2))
    have hle2 : off + (cs.take (min m n * z)).length ≤ vs.length := by simp; omega
    have hst := run_storeCells_at (P := X.P) b off T (news.take (min m n * z)) 0 ⟨vals⟩ w k1 (by show off + 0 + _ ≤ vals.length; rw [hlu, k2]; omega) hone'
    simp only [Nat.add_zero] at hst
    have hrun : (execOp a.eval o).run X.P w = .ok (.value (.int .i64 (min m n : Nat))) (w.setRow b ⟨splice vals off (news.take (min m n * z))⟩) := by
      have hcopy : (Builtin.copy_ #[t, u] o.type #[.slice (some ⟨b, off, none⟩) n cp, xv]).run X.P w = .ok (.int .i64 (min m n : Nat)) (w.setRow b ⟨splice vals off (news.take (min m n * z))⟩) := by
        have hf := n2 (min m n) (Nat.min_le_left _ _)
        simp [Builtin.copy_, run_underlying ht, n1, hf, run_sizeT hz, hst, goInt, splice]
      unfold execOp
      simp [hop, resolve, hc, hargs', hts', invoke, builtin, hde, hxe, hcopy]
    obtain ⟨r2, hl⟩ := r.store (id := id) (b := b) (off := off) (vs := vs) (xs := cs.take (min m n * z)) (us := news.take (min m n * z)) (vals := vals) (T := T) hb ho k1 k2 hlu (fun j v y h1 h2 => hrep j v y h1 h2 _) hle2 hbase
    exact wp_value hrun (hK _ _ _ hl (r2.put hN fun d _ => .d _ _ _ (.int _ _)))
end
end Go.Proofs.Ytaobccodpdmieaa.Pv
/- Pv: one operation, of both rows. -/
set_option linter.unusedSimpArgs false
set_option linter.unusedVariables false
namespace Go.Proofs.Ytaobccodpdmieaa.Pv
open Go

section
variable {X : Ctx} {base N : Nat} {st : St} {a : Act} {w : World} {g : Gh} {call : CallF} {o : Oper}

theorem stepNew_sound {st' : St} (hnew : isNew X.P o = true) (hst : stepNew X base st o = some st') (hN : dstOk N o = true) (r : Rel X base N st a w g) {K : Act → World → Prop} {Q : Exit → Act → World → Prop}
    (hK : Goes X base N st' g w K) : o.wp X.P a w K Q := by
  unfold stepNew at hst
  split at hst
  · rename_i t x hop
    split at hst
    · rename_i s ht hx
      simp only [Option.some.injEq] at hst
      subst hst
      exact step_range hop ht hx hN r hK
    · cases hst
  · rename_i it hop
    split at hst
    · rename_i id hx
      split at hst
      · rename_i s pos hh
        simp only [Option.some.injEq] at hst
        subst hst
        exact step_next hop hx hh hN r hK
      · cases hst
    · cases hst
  · rename_i t x hop
    split at hst
    · rename_i kt et ht
      have fin : (x = none ∨ ∃ y k n, x = some y ∧ st.get X y = .d (.int k n)) → st' = ({ st with h := st.h ++ [Ob.map [] 0] } : St).put o.dst (.mp st.h.length) → o.wp X.P a w K Q := fun h1 h2 => by subst h2; exact step_makeMap hop ht h1 hN r hK
      split at hst
      · rename_i hx
        simp only [Option.some.injEq] at hst
        refine fin (.inl ?_) hst.symm
        cases x with
        | none => rfl
        | some y => simp at hx
      · rename_i k n hx
        simp only [Option.some.injEq] at hst
        refine fin (.inr ?_) hst.symm
        cases x with
        | none => simp at hx
        | some y => exact ⟨y, k, n, rfl, by simpa using hx⟩
      · cases hst
    · cases hst
  · rename_i t x k ok hop
    cases hy : mapGet X st t x k ok with
    | none => simp [hy] at hst
    | some y => simp [hy] at hst; subst hst; exact step_lookup hop hy hN r hK
  · rename_i t m k x hop
    cases hy : mapSet X st t m k x with
    | none => simp [hy] at hst
    | some y => simp [hy] at hst; subst hst; exact step_mapSet (.inl hop) hy hN r hK
  · rename_i t m k x hop
    cases hy : mapSet X st t m k x with
    | none => simp [hy] at hst
    | some y => simp [hy] at hst; subst hst; exact step_mapSet (.inr hop) hy hN r hK
  · rename_i t x hop
    split at hst
    · cases hst
    · cases hst
    · rename_i td hni ht
      cases hd : (st.get X x).toD with
      | none => simp [hd] at hst
      | some d => simp [hd] at hst; subst hst; exact step_makeInterface hop ht (fun m h => hni m (by rw [h])) hd hN r hK
  · rename_i x u t ok hop
    cases hy : assertOp X st x t ok with
    | none => simp [hy] at hst
    | some y => simp [hy] at hst; subst hst; exact step_assert hop hy hN r hK
  · rename_i t l c hop
    cases hy : makeSliceOp X st t l c with
    | none => simp [hy] at hst
    | some y => simp only [hy, Option.map_some, Option.some.injEq] at hst; subst hst; exact step_makeSlice hop hy hN r hK
  · rename_i s t x hop
    cases hcv : convV X s t (st.get X x) with
    | none => simp [hcv] at hst
    | some y =>
      simp [hcv] at hst
      subst hst
      unfold convV at hcv
      split at hcv
      · rename_i e hs ht
        split at hcv
        · rename_i c n he hx
          split at hcv
          · rename_i hn
            cases hl : bytesOf c with
            | none => simp [hl] at hcv
            | some l => simp [hl] at hcv; subst hcv; exact step_bytesToString hop hs ht he hx hn hl hN r hK
          · cases hcv
        · cases hcv
      · rename_i e hs ht
        split at hcv
        · rename_i l he hx
          split at hcv
          · simp only [Option.some.injEq] at hcv
            subst hcv
            exact step_stringToBytes hop hs ht he hx hN r hK
          · cases hcv
        · cases hcv
      · cases hcv
  · rename_i c hop
    split at hst
    · rename_i hc
      split at hst
      · rename_i d x t u hargs hts
        split at hst
        · rename_i e id off n he hd
          split at hst
          · rename_i z vs hz ho
            split at hst
            · rename_i cs m hsrc
              simp only at hst
              split at hst
              · rename_i hcnd
                simp only [Option.some.injEq] at hst
                subst hst
                exact step_copy hop hc hargs hts he hd hz ho hsrc hcnd.1 hcnd.2.1 hcnd.2.2 hN r hK
              · cases hst
            · cases hst
          · cases hst
        · cases hst
      · cases hst
    · rename_i hc
      split at hst
      · rename_i x hargs
        cases hes : mapOf st.h (st.get X x) with
        | none => simp [hes] at hst
        | some es =>
          simp only [hes, Option.map_some, Option.some.injEq] at hst
          subst hst
          have hm : ∃ t, c.argTypes.toList = [t] ∧ isMapT X.P t = true := by
            unfold isNew at hnew
            rw [hop] at hnew
            simp only [hc] at hnew
            split at hnew
            · rename_i t ht; exact ⟨t, ht, hnew⟩
            · cases hnew
          obtain ⟨t, hts, hmt⟩ := hm
          exact step_mapLen hop hc hargs hts hmt hes hN r hK
      · cases hst
    · cases hst
  · cases hst

theorem stepAll_sound {st' : St} (hst : stepAll X call base o st = some st') (hN : dstOk N o = true) (r : Rel X base N st a w g) (hc : CallPOk X call) (hci : CallIOk X call) {K : Act → World → Prop} {Q : Exit → Act → World → Prop}
    (hK : Goes X base N st' g w K) : o.wp X.P a w K Q := by
  unfold stepAll at hst
  split at hst
  · rename_i hn; exact stepNew_sound hn hst hN r hK
  · exact step_sound hst hN r hc hci hK
end
end Go.Proofs.Ytaobccodpdmieaa.Pv
/- Pv: operations one behind the other. -/
set_option linter.unusedSimpArgs false
set_option linter.unusedVariables false
namespace Go.Proofs.Ytaobccodpdmieaa.Pv
open Go

section
variable {X : Ctx} {base N : Nat} {st : St} {a : Act} {w : World} {g : Gh} {call : CallF} {o : Oper} {ops : Array Oper}

theorem Goes.trans {st' : St} {w1 : World} {g1 : Gh} {K : Act → World → Prop} (h : Goes X base N st' g w K) (l : Later g w g1 w1) : Goes X base N st' g1 w1 K :=
  fun a' w' g' k r => h a' w' g' (l.trans k) r

theorem tmp_some {a : Act} {t : Nat} {v : Value} (h : a.tmps.getD t undef = v) (hv : v ≠ undef) : a.tmps[t]? = some v := by
  rw [Array.getD_eq_getD_getElem?] at h
  cases hh : a.tmps[t]? with
  | none => rw [hh] at h; exact absurd h.symm hv
  | some u => rw [hh] at h; simpa using h

theorem guard_sound {b : Bool} (h : guardOf X ops st o = some b) (r : Rel X base N st a w g) : Region.wanted o (yielded ops a.tmps) = b := by
  unfold guardOf at h
  cases hg : o.guard with
  | none => simp [hg] at h; simp [Region.wanted, hg, h]
  | some jw =>
    obtain ⟨j, want⟩ := jw
    simp only [hg] at h
    cases ht : (ops[j]?).bind (·.dst) with
    | none => simp [ht] at h
    | some t =>
      simp only [ht] at h
      have hs := r.slots t
      simp only [Region.wanted, hg, yielded, ht, Option.bind_some]
      split at h
      · rename_i c hc
        simp only [St.get] at hc
        rw [hc] at hs
        generalize hv : a.tmps.getD t undef = v at hs
        cases hs with
        | d _ _ _ hd =>
          cases hd
          rw [tmp_some hv (by simp [undef])]
          simp at h
          rw [← h]
          cases c <;> cases want <;> rfl
      · rename_i hc
        simp only [St.get] at hc
        rw [hc] at hs
        generalize hv : a.tmps.getD t undef = v at hs
        simp at h
        subst h
        cases hs with
        | d _ _ _ hd =>
          cases hd with
          | tup vals cells hl _ =>
            cases hh : a.tmps[t]? with
            | none => rfl
            | some u =>
              rw [Array.getD_eq_getD_getElem?, hh] at hv
              simp at hv
              subst hv
              rfl
      · cases h

theorem runOps_sound (hc : CallPOk X call) (hci : CallIOk X call) {Q : Exit → Act → World → Prop} : ∀ (l : List Oper) (st st' : St) (a : Act) (w : World) (g : Gh), runOps X call base N ops l st = some st' → Rel X base N st a w g →
    Goes X base N st' g w (fun a w => Q .normal a w) → wpList X.P ops Q l a w := by
  intro l
  induction l with
  | nil =>
    intro st st' a w g h r hK
    simp [runOps] at h
    subst h
    exact hK a w g (Later.refl g w) r
  | cons o rest ih =>
    intro st st' a w g h r hK
    simp only [runOps] at h
    split at h
    · rename_i hN
      unfold wpList
      split at h
      · rename_i hg
        rw [if_pos (guard_sound hg r)]
        left
        split at h
        · rename_i st1 hs
          exact stepAll_sound hs hN r hc hci fun a' w' g' l r' => ih st1 st' a' w' g' h r' (hK.trans l)
        · cases h
      · rename_i hg
        rw [if_neg (by rw [guard_sound hg r]; simp)]
        exact ih _ st' _ w g h (r.put hN fun d _ => .d _ _ _ (.tup [] [] rfl (by intro j v d hj; simp at hj))) hK
      · cases h
    · cases h
end

end Go.Proofs.Ytaobccodpdmieaa.Pv
/- Pv: a region whose operations come in any order: what its check says. -/
set_option linter.unusedSimpArgs false
set_option linter.unusedVariables false
namespace Go.Proofs.Ytaobccodpdmieaa.Pv
open Go

/-- 'i' waits for 'j'. -/
inductive Anc (ops : Array Oper) : Nat → Nat → Prop where
  | base (j i : Nat) (o : Oper) (ho : ops[i]? = some o) (h : j ∈ directs o) : Anc ops j i
  | step (j m i : Nat) (o : Oper) (ho : ops[i]? = some o) (h : m ∈ directs o) (k : Anc ops j m) : Anc ops j i

theorem maskOf_spec {ops : Array Oper} {ms : List Nat} {i : Nat} {o : Oper} (ho : ops[i]? = some o) (hms : ∀ m x, ms[m]? = some x → ∀ j, x.testBit j = true → Anc ops j m) (j : Nat) (h : (maskOf ms o).testBit j = true) : Anc ops j i := by
  have key : ∀ (l : List Nat) (m0 : Nat), (∀ x ∈ l, x ∈ directs o) → (∀ j, m0.testBit j = true → Anc ops j i) → ∀ j, (l.foldl (fun m j => m ||| (1 <<< j) ||| ms.getD j 0) m0).testBit j = true → Anc ops j i := by
    intro l
    induction l with
    | nil => intro m0 _ h0 j hj; exact h0 j hj
    | cons y l ih =>
      intro m0 hl h0 j hj
      simp only [List.foldl_cons] at hj
      refine ih _ (fun x hx => hl x (by simp [hx])) (fun j hj => ?_) j hj
      rw [Nat.testBit_or, Nat.testBit_or] at hj
      simp only [Bool.or_eq_true] at hj
      have hy : y ∈ directs o := hl y (by simp)
      rcases hj with (hj | hj) | hj
      · exact h0 j hj
      · have : y = j := by
          rw [Nat.one_shiftLeft, Nat.testBit_two_pow] at hj
          simpa using hj
        rw [← this]
        exact .base y i o ho hy
      · cases hm : ms[y]? with
        | none => simp [hm] at hj
        | some x =>
          simp [hm] at hj
          exact .step j y i o ho hy (hms y x hm j hj)
  exact key (directs o) 0 (fun _ h => h) (by simp) j h

theorem masks_length (l : List Oper) : ∀ ms, (masks l ms).length = ms.length + l.length := by
  induction l with
  | nil => simp [masks]
  | cons o l ih => intro ms; simp only [masks, ih, List.length_append, List.length_cons, List.length_nil]; omega

theorem masks_spec {ops : Array Oper} (l : List Oper) : ∀ ms, (∀ j, l[j]? = ops[ms.length + j]?) → (∀ m x, ms[m]? = some x → ∀ j, x.testBit j = true → Anc ops j m) → ∀ m x, (masks l ms)[m]? = some x → ∀ j, x.testBit j = true → Anc ops j m := by
  induction l with
  | nil => intro ms _ h; exact h
  | cons o l ih =>
    intro ms hl h
    have ho : ops[ms.length]? = some o := by simpa using (hl 0).symm
    refine ih (ms ++ [maskOf ms o]) (fun j => ?_) (fun m x hm j hj => ?_)
    · have := hl (j + 1)
      simp only [List.getElem?_cons_succ] at this
      rw [this]
      simp [Nat.add_assoc, Nat.add_comm 1 j]
    · rw [List.getElem?_append] at hm
      split at hm
      · exact h m x hm j hj
      · have : m = ms.length := by
          have := (List.getElem?_eq_some_iff.1 hm).1
          simp at this
          omega
        subst this
        simp at hm
        subst hm
        exact maskOf_spec ho h j hj

/-- What the check says. -/
structure DrawOk (ops : Array Oper) (k : Nat) : Prop where
  hk : k ≤ ops.size
  lt : ∀ (i : Nat) (o : Oper), ops[i]? = some o → ∀ j ∈ directs o, j < i
  look : ∀ (i j : Nat) (o p : Oper) (t : Tmp), ops[i]? = some o → i < k → t ∈ o.looksAt ops → ops[j]? = some p → j < k → p.dst = some t → j < i ∧ Anc ops j i
  dist : ∀ (i j : Nat) (o p : Oper) (t : Tmp), ops[i]? = some o → i < k → ops[j]? = some p → j < k → o.dst = some t → p.dst = some t → i = j
  full : ∀ i, k ≤ i → i < ops.size → ∀ j, j < i → Anc ops j i

theorem mem_take_zipIdx {ops : Array Oper} {k i : Nat} {o : Oper} (ho : ops[i]? = some o) (hi : i < k) : (o, i) ∈ (ops.toList.take k).zipIdx := by
  rw [List.mem_zipIdx_iff_getElem?]
  simp only
  rw [List.getElem?_take, if_pos hi]
  simpa using ho

theorem drawOk_spec {ops : Array Oper} {k : Nat} (h : drawOk ops = some k) : DrawOk ops k := by
  unfold drawOk at h
  simp only at h
  split at h
  · rename_i hc
    simp only [Option.some.injEq] at h
    simp only [Bool.and_eq_true] at hc
    rw [h] at hc
    obtain ⟨⟨h1, h2⟩, h3⟩ := hc
    have hms := masks_spec (ops := ops) ops.toList [] (by simp) (by simp)
    have hlen := masks_length ops.toList []
    have anc : ∀ i j, ((masks ops.toList []).getD i 0).testBit j = true → Anc ops j i := by
      intro i j hj
      cases hm : (masks ops.toList [])[i]? with
      | none => simp [hm] at hj
      | some x => simp [hm] at hj; exact hms i x hm j hj
    refine ⟨by omega, fun i o ho j hj => ?_, fun i j o p t ho hi ht hp hj hd => ?_, fun i j o p t ho hi hp hj hd hd' => ?_, fun i hi hn j hj => ?_⟩
    · have hm : (o, i) ∈ ops.toList.zipIdx := by
        rw [List.mem_zipIdx_iff_getElem?]; simpa using ho
      have := List.all_eq_true.1 h1 _ hm
      have := List.all_eq_true.1 this j hj
      simpa using this
    · have := List.all_eq_true.1 (List.all_eq_true.1 h2 _ (mem_take_zipIdx ho hi)) _ (mem_take_zipIdx hp hj)
      simp only [hd, Bool.and_eq_true, Bool.or_eq_true, Bool.not_eq_true', decide_eq_true_eq] at this
      rcases this.1 with hh | hh
      · simp at hh; exact (hh ht).elim
      · exact ⟨hh.1, anc i j hh.2⟩
    · have := List.all_eq_true.1 (List.all_eq_true.1 h2 _ (mem_take_zipIdx ho hi)) _ (mem_take_zipIdx hp hj)
      simp only [hd', Bool.and_eq_true, Bool.or_eq_true, beq_iff_eq, bne_iff_ne, ne_eq] at this
      rcases this.2 with hh | hh
      · exact hh
      · exact (hh hd).elim
    · have ho : ops[i]? = some ops[i] := Array.getElem?_eq_getElem hn
      have hm : (ops[i], i) ∈ ops.toList.zipIdx.drop k := by
        rw [List.mem_iff_getElem?]
        refine ⟨i - k, ?_⟩
        rw [List.getElem?_drop, show k + (i - k) = i by omega]
        simp [List.getElem?_zipIdx, ho]
      have := List.all_eq_true.1 h3 _ hm
      simp only [beq_iff_eq] at this
      refine anc i j ?_
      rw [this, Nat.one_shiftLeft, Nat.testBit_two_pow_sub_one]
      simpa using hj
  · cases h

/-- What is listed waits for nothing that is not. -/
def Closed (ops : Array Oper) (L : Array Bool) : Prop := ∀ (i : Nat) (o : Oper), ops[i]? = some o → L[i]? = some true → ∀ j ∈ directs o, L[j]? = some true

theorem Closed.anc {ops : Array Oper} {L : Array Bool} (h : Closed ops L) {j i : Nat} (k : Anc ops j i) : (∀ o, ops[i]? = some o → ∀ m ∈ directs o, L[m]? = some true) → L[j]? = some true := by
  induction k with
  | base i o ho hj => intro hi; exact hi o ho j hj
  | step m i o ho hm _ ih => intro hi; exact ih fun p hp => h m p hp (hi o ho m hm)

theorem ready_iff {ops : Array Oper} {L : Array Bool} (hL : L.size = ops.size) {i : Nat} :
    i ∈ Region.ready .any ops L ↔ L[i]? = some false ∧ ∀ o, ops[i]? = some o → ∀ j ∈ directs o, L[j]? = some true := by
  unfold Region.ready
  rw [List.mem_filter, List.mem_range]
  constructor
  · rintro ⟨h1, h2⟩
    have ho : ops[i]? = some ops[i] := Array.getElem?_eq_getElem h1
    simp only [ho, Option.map_some, Option.getD_some, Bool.and_eq_true, Bool.not_eq_true'] at h2
    refine ⟨?_, fun o hoo j hj => ?_⟩
    · have hlt : i < L.size := by omega
      rw [Array.getElem?_eq_getElem hlt]
      have := h2.1
      rw [Array.getD_eq_getD_getElem?, Array.getElem?_eq_getElem hlt] at this
      simpa using this
    · rw [ho] at hoo
      cases hoo
      simp only [directs, List.mem_filterMap] at hj
      obtain ⟨e, he, hh⟩ := hj
      split at hh
      · rename_i hb
        simp at hh
        subst hh
        have := Array.all_eq_true'.1 h2.2 e (by simpa using he)
        simp only [hb, Bool.not_true, Bool.false_or] at this
        cases hj : L[e.on]? with
        | none => rw [Array.getD_eq_getD_getElem?, hj] at this; simp at this
        | some b => rw [Array.getD_eq_getD_getElem?, hj] at this; simp at this; rw [this]
      · cases hh
  · rintro ⟨h1, h2⟩
    have hlt : i < ops.size := by rw [← hL]; exact (Array.getElem?_eq_some_iff.1 h1).1
    have ho : ops[i]? = some ops[i] := Array.getElem?_eq_getElem hlt
    refine ⟨hlt, ?_⟩
    simp only [ho, Option.map_some, Option.getD_some, Bool.and_eq_true, Bool.not_eq_true']
    refine ⟨by rw [Array.getD_eq_getD_getElem?, h1]; rfl, Array.all_eq_true'.2 fun e he => ?_⟩
    by_cases hb : Region.binds .any e = true
    · have := h2 _ ho e.on (List.mem_filterMap.2 ⟨e, by simpa using he, by simp [hb]⟩)
      rw [Array.getD_eq_getD_getElem?, this]
      simp
    · simp [hb]

/-- How many are not listed. -/
def unl (L : Array Bool) : Nat := L.toList.countP fun b => !b

theorem unl_zero {L : Array Bool} (h : unl L = 0) {i : Nat} (hi : i < L.size) : L[i]? = some true := by
  unfold unl at h
  rw [List.countP_eq_zero] at h
  have := h L[i] (by simp)
  rw [Array.getElem?_eq_getElem hi]
  simpa using this

theorem countP_set {l : List Bool} {i : Nat} (h : l[i]? = some false) : (l.set i true).countP (fun b => !b) + 1 = l.countP fun b => !b := by
  induction l generalizing i with
  | nil => simp at h
  | cons b l ih =>
    cases i with
    | zero => simp at h; subst h; simp
    | succ i =>
      simp only [List.getElem?_cons_succ] at h
      have := ih h
      simp only [List.set_cons_succ, List.countP_cons]
      omega

theorem unl_set {L : Array Bool} {i : Nat} (h : L[i]? = some false) : unl (L.setIfInBounds i true) + 1 = unl L := by
  unfold unl
  rw [Array.toList_setIfInBounds]
  exact countP_set (by simpa using h)

theorem unl_start (n : Nat) : unl (Array.replicate n false) = n := by
  simp [unl, List.countP_replicate]

/-- While something is not listed something is ready. -/
theorem ready_ne {ops : Array Oper} {k : Nat} (d : DrawOk ops k) {L : Array Bool} (hL : L.size = ops.size) (h : Region.ready .any ops L = []) : ∀ i, i < ops.size → L[i]? = some true := by
  intro i
  induction i using Nat.strongRecOn with
  | ind i ih =>
    intro hi
    have hlt : i < L.size := by omega
    cases hb : L[i] with
    | true => rw [Array.getElem?_eq_getElem hlt, hb]
    | false =>
      have : i ∈ Region.ready .any ops L := (ready_iff hL).2 ⟨by rw [Array.getElem?_eq_getElem hlt, hb], fun o ho j hj => ih j (d.lt i o ho j hj) (by have := d.lt i o ho j hj; omega)⟩
      rw [h] at this
      cases this

theorem binds_any {md : Region.Mode} {e : Edge} (h : Region.binds .any e = true) : Region.binds md e = true := by
  unfold Region.binds at h ⊢
  split at h
  · cases h
  · cases h
  · rfl

theorem ready_md {md : Region.Mode} {ops : Array Oper} {L : Array Bool} (hL : L.size = ops.size) {i : Nat} (h : i ∈ Region.ready md ops L) :
    L[i]? = some false ∧ ∀ o, ops[i]? = some o → ∀ j ∈ directs o, L[j]? = some true := by
  unfold Region.ready at h
  rw [List.mem_filter, List.mem_range] at h
  obtain ⟨h1, h2⟩ := h
  have ho : ops[i]? = some ops[i] := Array.getElem?_eq_getElem h1
  simp only [ho, Option.map_some, Option.getD_some, Bool.and_eq_true, Bool.not_eq_true'] at h2
  refine ⟨?_, fun o hoo j hj => ?_⟩
  · have hlt : i < L.size := by omega
    rw [Array.getElem?_eq_getElem hlt]
    have := h2.1
    rw [Array.getD_eq_getD_getElem?, Array.getElem?_eq_getElem hlt] at this
    simpa using this
  · rw [ho] at hoo
    cases hoo
    simp only [directs, List.mem_filterMap] at hj
    obtain ⟨e, he, hh⟩ := hj
    split at hh
    · rename_i hb
      simp at hh
      subst hh
      have := Array.all_eq_true'.1 h2.2 e (by simpa using he)
      simp only [binds_any (md := md) hb, Bool.not_true, Bool.false_or] at this
      cases hj : L[e.on]? with
      | none => rw [Array.getD_eq_getD_getElem?, hj] at this; simp at this
      | some b => rw [Array.getD_eq_getD_getElem?, hj] at this; simp at this; rw [this]
    · cases hh

theorem ready_back {md : Region.Mode} {ops : Array Oper} (hb : backAll ops = true) {L : Array Bool} (hL : L.size = ops.size) (h : Region.ready md ops L = []) : ∀ i, i < ops.size → L[i]? = some true := by
  intro i
  induction i using Nat.strongRecOn with
  | ind i ih =>
    intro hi
    have hlt : i < L.size := by omega
    cases hbi : L[i] with
    | true => rw [Array.getElem?_eq_getElem hlt, hbi]
    | false =>
      have hmem : i ∈ Region.ready md ops L := by
        unfold Region.ready
        rw [List.mem_filter, List.mem_range]
        refine ⟨hi, ?_⟩
        have ho : ops[i]? = some ops[i] := Array.getElem?_eq_getElem hi
        simp only [ho, Option.map_some, Option.getD_some, Bool.and_eq_true, Bool.not_eq_true']
        refine ⟨by rw [Array.getD_eq_getD_getElem?, Array.getElem?_eq_getElem hlt, hbi]; rfl, Array.all_eq_true'.2 fun e he => ?_⟩
        have hon : e.on < i := by
          simp only [backAll, List.all_eq_true] at hb
          have h1 := hb (ops[i], i) (by rw [List.mem_zipIdx_iff_getElem?]; simp [hi])
          exact of_decide_eq_true (h1 e (by simpa using he))
        have := ih e.on hon (by omega)
        rw [Bool.or_eq_true]
        right
        rw [Array.getD_eq_getD_getElem?, this]; rfl
      rw [h] at hmem
      cases hmem

theorem listed_set {L : Array Bool} {i j : Nat} (hi : L[i]? = some false) : (L.setIfInBounds i true)[j]? = some true ↔ j = i ∨ L[j]? = some true := by
  rw [Array.getElem?_setIfInBounds]
  have hlt := (Array.getElem?_eq_some_iff.1 hi).1
  by_cases h : i = j
  · subst h; simp [hlt]
  · rw [if_neg h]
    constructor
    · exact .inr
    · rintro (rfl | h')
      · exact (h rfl).elim
      · exact h'

theorem Closed.set {ops : Array Oper} {L : Array Bool} (hc : Closed ops L) {i : Nat} (hi : L[i]? = some false) (hd : ∀ o, ops[i]? = some o → ∀ j ∈ directs o, L[j]? = some true) : Closed ops (L.setIfInBounds i true) := by
  intro m o ho hm j hj
  rw [listed_set hi] at hm ⊢
  rcases hm with rfl | hm
  · exact .inr (hd o ho j hj)
  · exact .inr (hc m o ho hm j hj)

end Go.Proofs.Ytaobccodpdmieaa.Pv
/- Pv: the first operations of a region whose operations come in any order. -/
set_option linter.unusedSimpArgs false
set_option linter.unusedVariables false
namespace Go.Proofs.Ytaobccodpdmieaa.Pv
open Go

section
variable {X : Ctx} {base N k : Nat} {call : CallF} {ops : Array Oper} {h0 : List Ob}

/-- The run in the text's order, state by state. -/
structure RunA (X : Ctx) (call : CallF) (N : Nat) (ops : Array Oper) (k : Nat) (h0 : List Ob) (S : Nat → St) (R : Nat → Rec) : Prop where
  step : ∀ (i : Nat) (o : Oper), ops[i]? = some o → i < k → dstOk N o = true ∧ recA X call ops h0 o (S i) = some (R i) ∧ S (i + 1) = (R i).on o.dst (S i)

theorem runA_states (l : List Oper) : ∀ st st', runA X call N ops h0 l st = some st' → ∃ S : Nat → St, ∃ R : Nat → Rec, S 0 = st ∧ S l.length = st' ∧
    ∀ (i : Nat) (o : Oper), l[i]? = some o → dstOk N o = true ∧ recA X call ops h0 o (S i) = some (R i) ∧ S (i + 1) = (R i).on o.dst (S i) := by
  induction l with
  | nil =>
    intro st st' h
    simp [runA] at h
    exact ⟨fun _ => st, fun _ => ⟨und, none, []⟩, rfl, h, by intro i o hi; simp at hi⟩
  | cons o l ih =>
    intro st st' h
    simp only [runA] at h
    split at h
    · rename_i hN
      split at h
      · rename_i rc hrc
        obtain ⟨S, R, h1, h2, h3⟩ := ih _ _ h
        refine ⟨fun i => match i with | 0 => st | i + 1 => S i, fun i => match i with | 0 => rc | i + 1 => R i, rfl, h2, fun i p hi => ?_⟩
        cases i with
        | zero => simp at hi; subst hi; exact ⟨hN, hrc, h1⟩
        | succ i => simp at hi; exact h3 i p hi
      · cases h
    · cases h

theorem runA_run {st st' : St} (hk : k ≤ ops.size) (h : runA X call N ops h0 (ops.toList.take k) st = some st') : ∃ S R, RunA X call N ops k h0 S R ∧ S 0 = st ∧ S k = st' := by
  obtain ⟨S, R, h1, h2, h3⟩ := runA_states _ _ _ h
  refine ⟨S, R, ⟨fun i o ho hi => h3 i o (by rw [List.getElem?_take, if_pos hi]; simpa using ho)⟩, h1, ?_⟩
  rw [← h2, List.length_take, Array.length_toList, Nat.min_eq_left hk]

theorem lookT_put (st : St) (dst : Option Tmp) (v : V) (t : Nat) : lookT t (st.put dst v).s = if dst = some t then v else lookT t st.s := by
  cases dst with
  | none => simp [St.put]
  | some d =>
    simp only [St.put, lookT, Option.some.injEq]
    by_cases h : d = t
    · subst h; simp
    · rw [if_neg h]; simp [h]
theorem put_h (st : St) (dst : Option Tmp) (v : V) : (st.put dst v).h = st.h := by cases dst <;> rfl
theorem setOg_s (st : St) (dst : Option Tmp) (l : Loc) : (setOg st dst l).s = st.s := by cases dst <;> rfl
theorem setOg_h (st : St) (dst : Option Tmp) (l : Loc) : (setOg st dst l).h = st.h := by cases dst <;> rfl
theorem on_look (r : Rec) (dst : Option Tmp) (st : St) (t : Nat) : lookT t (r.on dst st).s = if dst = some t then r.v else lookT t st.s := by
  unfold Rec.on
  split
  · rw [setOg_s, lookT_put]
  · rw [lookT_put]
theorem on_h (r : Rec) (dst : Option Tmp) (st : St) : (r.on dst st).h = st.h ++ r.ob := by
  unfold Rec.on
  split
  · rw [setOg_h, put_h]
  · rw [put_h]
theorem on_og (r : Rec) (dst : Option Tmp) (st : St) {t : Nat} {l : Loc} (h : (t, l) ∈ (r.on dst st).og) : (t, l) ∈ st.og ∨ (dst = some t ∧ r.og = some l) := by
  have hput : ∀ (s1 : St), (t, l) ∈ (s1.put dst r.v).og → (t, l) ∈ s1.og := by
    intro s1 h
    cases dst with
    | none => exact h
    | some d => simp only [St.put, List.mem_filter] at h; exact h.1
  unfold Rec.on at h
  split at h
  · rename_i l' hl
    cases dst with
    | none => exact .inl (hput { st with h := st.h ++ r.ob } h)
    | some d =>
      simp only [setOg, List.mem_cons, Prod.mk.injEq] at h
      rcases h with ⟨rfl, rfl⟩ | h
      · exact .inr ⟨rfl, hl⟩
      · exact .inl (hput { st with h := st.h ++ r.ob } h)
  · exact .inl (hput { st with h := st.h ++ r.ob } h)

/-- At most one makes a box. -/
theorem recA_ob {o : Oper} {st : St} {r : Rec} (h : recA X call ops h0 o st = some r) : r.ob = [] ∨ (st.h.length = h0.length ∧ ∃ ob, r.ob = [ob]) := by
  unfold recA at h
  split at h
  · simp at h; subst h; exact .inl rfl
  · split at h
    · split at h
      · simp at h; subst h; exact .inl rfl
      · split at h <;> simp at h <;> subst h <;> exact .inl rfl
      · simp at h; subst h; exact .inl rfl
    · split at h
      · split at h
        · split at h
          · rename_i hc
            simp at h
            subst h
            simp only [Bool.and_eq_true, beq_iff_eq] at hc
            exact .inr ⟨hc.2, _, rfl⟩
          · cases h
        · cases h
      · simp at h; subst h; exact .inl rfl
      · cases h
  · cases h

section
variable {S : Nat → St} {R : Nat → Rec} (d : DrawOk ops k) (ra : RunA X call N ops k h0 S R)

theorem DrawOk.op (d : DrawOk ops k) (i : Nat) (hi : i < k) : ∃ o, ops[i]? = some o := ⟨ops[i]'(by have := d.hk; omega), Array.getElem?_eq_getElem _⟩

include d ra

/-- What no operation so far writes is as it was. -/
theorem RunA.old (t : Nat) : ∀ m, m ≤ k → (∀ (j : Nat) (o : Oper), j < m → ops[j]? = some o → o.dst ≠ some t) → lookT t (S m).s = lookT t (S 0).s := by
  intro m
  induction m with
  | zero => intro _ _; rfl
  | succ m ih =>
    intro hm h
    obtain ⟨o, ho⟩ := d.op m (by omega)
    obtain ⟨_, _, h3⟩ := ra.step m o ho (by omega)
    rw [h3, on_look, if_neg (h m o (by omega) ho)]
    exact ih (by omega) fun j p hj hp => h j p (by omega) hp

/-- What one of them writes is what it came to. -/
theorem RunA.new {j : Nat} {o : Oper} {t : Nat} (ho : ops[j]? = some o) (hd : o.dst = some t) : ∀ m, m ≤ k → j < m → lookT t (S m).s = (R j).v := by
  intro m
  induction m with
  | zero => intro _ h; omega
  | succ m ih =>
    intro hm hj
    obtain ⟨p, hp⟩ := d.op m (by omega)
    obtain ⟨_, _, h3⟩ := ra.step m p hp (by omega)
    rw [h3, on_look]
    by_cases hjm : j = m
    · subst hjm
      rw [ho] at hp
      cases hp
      rw [if_pos hd]
    · rw [if_neg fun hh => hjm (d.dist j m o p t ho (by omega) hp (by omega) hd hh)]
      exact ih (by omega) (by omega)

/-- Where something was read from. -/
theorem RunA.og (h00 : (S 0).og = []) : ∀ m, m ≤ k → ∀ (t : Nat) (l : Loc), (t, l) ∈ (S m).og → ∃ (j : Nat) (o : Oper), j < m ∧ ops[j]? = some o ∧ o.dst = some t ∧ (R j).og = some l := by
  intro m
  induction m with
  | zero => intro _ t l h; rw [h00] at h; cases h
  | succ m ih =>
    intro hm t l h
    obtain ⟨p, hp⟩ := d.op m (by omega)
    obtain ⟨_, _, h3⟩ := ra.step m p hp (by omega)
    rw [h3] at h
    rcases on_og _ _ _ h with h | ⟨h, h'⟩
    · obtain ⟨j, o, h1, h2⟩ := ih (by omega) t l h
      exact ⟨j, o, by omega, h2⟩
    · exact ⟨m, p, by omega, hp, h, h'⟩

theorem RunA.h (hh : (S 0).h = h0) : ∀ m, m ≤ k → ((S m).h = h0 ∧ ∀ j, j < m → (R j).ob = []) ∨ ∃ j, j < m ∧ (R j).ob ≠ [] ∧ (S m).h = h0 ++ (R j).ob ∧ ∀ i, i < m → i ≠ j → (R i).ob = [] := by
  intro m
  induction m with
  | zero => intro _; exact .inl ⟨hh, by intro j hj; omega⟩
  | succ m ih =>
    intro hm
    obtain ⟨p, hp⟩ := d.op m (by omega)
    obtain ⟨_, h2, h3⟩ := ra.step m p hp (by omega)
    have ho := recA_ob h2
    rw [h3, on_h]
    rcases ih (by omega) with ⟨k1, k2⟩ | ⟨j, k1, k2, k3, k4⟩
    · rcases ho with ho | ⟨_, ob, ho⟩
      · left
        refine ⟨by rw [k1, ho]; simp, fun j hj => ?_⟩
        by_cases hjm : j = m
        · rw [hjm]; exact ho
        · exact k2 j (by omega)
      · right
        exact ⟨m, by omega, by rw [ho]; simp, by rw [k1], fun i hi hne => k2 i (by omega)⟩
    · right
      rcases ho with ho | ⟨hl, _⟩
      · refine ⟨j, by omega, k2, by rw [k3, ho]; simp, fun i hi hne => ?_⟩
        by_cases him : i = m
        · rw [him]; exact ho
        · exact k4 i (by omega) hne
      · rw [k3] at hl
        simp at hl
        exact (k2 hl).elim
end
end

/-- A load from old boxes is the same where there are more. -/
theorem loadOp_more {X : Ctx} {ρ : Operand → V} {h : List Ob} {t : TypeId} {p : Operand} {v : V} (hs : List Ob) (hv : loadOp X ρ h t p = some v) : loadOp X ρ (h ++ hs) t p = some v := by
  unfold loadOp at hv ⊢
  split at hv
  · exact hv
  · rename_i id off hp
    cases hh : h[id]? with
    | none => rw [hh] at hv; cases hv
    | some o =>
      have : (h ++ hs)[id]? = some o := by rw [List.getElem?_append_left (List.getElem?_eq_some_iff.1 hh).1]; exact hh
      rw [hh] at hv
      simp only [this]
      exact hv
  · cases hv

theorem valOp_more {X : Ctx} {call : CallF} {ρ : Operand → V} {h : List Ob} {o : Oper} {v : V} (hs : List Ob) (hv : valOp X call ρ h o = some v) : valOp X call ρ (h ++ hs) o = some v := by
  unfold valOp at hv ⊢
  cases hop : o.op <;> simp only [hop] at hv ⊢ <;> first | exact hv | exact loadOp_more hs hv

end Go.Proofs.Ytaobccodpdmieaa.Pv
/- Pv: a region whose operations come in any order. -/
set_option linter.unusedSimpArgs false
set_option linter.unusedVariables false
namespace Go.Proofs.Ytaobccodpdmieaa.Pv
open Go

section
variable {X : Ctx} {base N k : Nat} {call : CallF} {ops : Array Oper} {h0 : List Ob}

theorem on_og_keep {r : Rec} {dst : Option Tmp} {st : St} {t : Nat} {l : Loc} (h : (t, l) ∈ st.og) (h1 : dst ≠ some t) (h2 : ∀ u, l = .slot u → dst ≠ some u) : (t, l) ∈ (r.on dst st).og := by
  have hput : (t, l) ∈ (({ st with h := st.h ++ r.ob } : St).put dst r.v).og := by
    cases dst with
    | none => exact h
    | some d =>
      simp only [St.put, List.mem_filter, Bool.and_eq_true, bne_iff_ne, ne_eq]
      exact ⟨h, fun hh => h1 (by rw [hh]), fun hh => h2 d hh rfl⟩
  unfold Rec.on
  split
  · cases dst with
    | none => exact hput
    | some d => exact List.mem_cons_of_mem _ hput
  · exact hput

theorem on_og_new {r : Rec} {st : St} {t : Nat} {l : Loc} (h : r.og = some l) : (t, l) ∈ (r.on (some t) st).og := by
  unfold Rec.on
  rw [h]
  exact List.mem_cons_self

theorem recA_og {o : Oper} {st : St} {r : Rec} {u : Nat} (h : recA X call ops h0 o st = some r) (hr : r.og = some (.slot u)) : u ∈ o.looksAt ops := by
  unfold recA at h
  split at h
  · simp at h; subst h; cases hr
  · split at h
    · split at h
      · rename_i t hop
        simp at h
        subst h
        simp at hr
        subst hr
        refine List.mem_append_left _ (List.mem_filterMap.2 ⟨.tmp t, ?_, rfl⟩)
        rw [hop]; simp [Op.operands]
      · split at h <;> simp at h <;> subst h <;> cases hr
      · simp at h; subst h; cases hr
    · split at h
      · split at h
        · split at h
          · simp at h; subst h; cases hr
          · cases h
        · cases h
      · simp at h; subst h; cases hr
      · cases h
  · cases h

/-- One of the first operations, where all that it looks at is as it was in the text's order. -/
theorem stepA_sound {o : Oper} {st sR : St} {r : Rec} {hs : List Ob} {a : Act} {w : World} {g : Gh} (h : recA X call ops h0 o st = some r) (hop : ∀ x ∈ o.op.operands, st.get X x = sR.get X x) (hg : guardOf X ops st o = guardOf X ops sR o)
    (hh : sR.h = h0 ++ hs) (hob : r.ob ≠ [] → hs = []) (hN : dstOk N o = true) (rl : Rel X base N sR a w g) (hc : CallPOk X call) {K : Act → World → Prop} {Q : Exit → Act → World → Prop}
    (hK : Goes X base N (r.on o.dst sR) g w K) : if Region.wanted o (yielded ops a.tmps) then o.wp X.P a w K Q ∨ (o.asks X.P a w ∧ LetsOut Q) else K (a.put o.dst undef) w := by
  have app : ({ sR with h := sR.h ++ [] } : St) = sR := by simp
  unfold recA at h
  rw [hg] at h
  split at h
  · rename_i hgf
    simp at h
    subst h
    rw [if_neg (by rw [guard_sound hgf rl]; simp)]
    refine hK _ w g (Later.refl g w) ?_
    simp only [Rec.on, app]
    exact rl.put hN fun d _ => .d _ _ _ (.tup [] [] rfl (by intro j v d hj; simp at hj))
  · rename_i hgt
    rw [if_pos (guard_sound hgt rl)]
    left
    split at h
    · rename_i v hv
      have hv' : valOp X call (st.get X) sR.h o = some v := by rw [hh]; exact valOp_more hs hv
      have plain : r = ⟨v, none, []⟩ → o.wp X.P a w K Q := by
        rintro rfl
        simp only [Rec.on, app] at hK
        refine val_sound hv' (fun y hy => by rw [hop y hy]; exact rl.get y) rl.sit hc (dstPos_pos o) (fun u w' g' k hr => ?_)
        refine hK _ w' g' (k.later rl.sit.fresh) ((rl.keep k).put hN fun d hd => ?_)
        rw [← dstPos_eq hd]
        exact hr
      split at h
      · rename_i t hopm
        simp at h
        subst h
        have hvv : v = (sR.get X (.tmp t)).copy := by
          have hx := hop (.tmp t) (by rw [hopm]; simp [Op.operands])
          unfold valOp at hv'; rw [hopm] at hv'; simp at hv'; rw [← hv', hx]
        subst hvv
        simp only [Rec.on, app] at hK
        exact step_move hopm hN rl hK
      · rename_i t p hopl
        have hx := hop p (by rw [hopl]; simp [Op.operands])
        split at h
        · rename_i id off hag hp
          simp at h
          subst h
          rw [hx] at hp
          simp only [Rec.on, app] at hK
          have hl : loadOp X (sR.get X) sR.h t p = some v := by
            unfold valOp at hv'; rw [hopl] at hv'
            unfold loadOp at hv' ⊢
            rw [← hx]; exact hv'
          exact step_load hopl hag hp hl hN rl hK
        · simp at h; exact plain h.symm
      · simp at h; exact plain h.symm
    · split at h
      · rename_i t hopa
        split at h
        · rename_i z hz
          split at h
          · simp at h
            subst h
            have : hs = [] := hob (by simp)
            subst this
            simp only [List.append_nil] at hh
            simp only [Rec.on] at hK
            rw [← hh] at hK
            exact step_alloc hopa hz hN rl hK
          · cases h
        · cases h
      · rename_i x hopa
        simp at h
        subst h
        simp only [Rec.on, app] at hK
        have hx := hop x (by rw [hopa]; simp [Op.operands])
        rw [hx] at hK
        obtain ⟨q, hq⟩ := rl.get x
        exact step_plain (v := a.eval x) (by unfold execOp; simp [hopa]) (fun p => hq.copy) hN rl hK
      · cases h
  · cases h

/-- What a state is, where what is listed is done. -/
structure InvA (ops : Array Oper) (k : Nat) (h0 : List Ob) (S : Nat → St) (R : Nat → Rec) (L : Array Bool) (sR : St) : Prop where
  c1 : ∀ (j : Nat) (o : Oper) (t : Nat), j < k → L[j]? = some true → ops[j]? = some o → o.dst = some t → lookT t sR.s = (R j).v
  c2 : ∀ t : Nat, (∀ (j : Nat) (o : Oper), j < k → L[j]? = some true → ops[j]? = some o → o.dst ≠ some t) → lookT t sR.s = lookT t (S 0).s
  c3 : (sR.h = h0 ∧ ∀ j, j < k → L[j]? = some true → (R j).ob = []) ∨ ∃ j, j < k ∧ L[j]? = some true ∧ (R j).ob ≠ [] ∧ sR.h = h0 ++ (R j).ob
  c4 : ∀ (j : Nat) (o : Oper) (t : Nat) (l : Loc), j < k → L[j]? = some true → ops[j]? = some o → o.dst = some t → (R j).og = some l → (t, l) ∈ sR.og

variable {S : Nat → St} {R : Nat → Rec} {L : Array Bool} {sR : St}

/-- At most one makes a box. -/
theorem RunA.one (d : DrawOk ops k) (ra : RunA X call N ops k h0 S R) (h00 : (S 0).h = h0) {i j : Nat} (hi : i < k) (hj : j < k) (hbi : (R i).ob ≠ []) (hbj : (R j).ob ≠ []) : i = j := by
  rcases ra.h d h00 k (Nat.le_refl _) with ⟨_, h⟩ | ⟨m, _, _, _, h⟩
  · exact (hbi (h i hi)).elim
  · by_cases him : i = m
    · by_cases hjm : j = m
      · rw [him, hjm]
      · exact (hbj (h j hj hjm)).elim
    · exact (hbi (h i hi him)).elim

theorem InvA.set (d : DrawOk ops k) (ra : RunA X call N ops k h0 S R) (h00 : (S 0).h = h0) (inv : InvA ops k h0 S R L sR) (hcl : Closed ops L) {i : Nat} {o : Oper} (hi : i < k) (ho : ops[i]? = some o) (hL : L[i]? = some false) :
    InvA ops k h0 S R (L.setIfInBounds i true) ((R i).on o.dst sR) where
  c1 := fun j p t hj hl hp hd => by
    rw [on_look]
    rw [listed_set hL] at hl
    by_cases hji : j = i
    · subst hji
      rw [ho] at hp
      cases hp
      rw [if_pos hd]
    · rw [if_neg fun hh => hji (d.dist j i p o t hp hj ho hi hd hh)]
      exact inv.c1 j p t hj (hl.resolve_left hji) hp hd
  c2 := fun t h => by
    rw [on_look, if_neg (h i o hi ((listed_set hL).2 (.inl rfl)) ho)]
    exact inv.c2 t fun j p hj hl hp => h j p hj ((listed_set hL).2 (.inr hl)) hp
  c3 := by
    rw [on_h]
    have nl : L[i]? ≠ some true := by rw [hL]; simp
    by_cases hb : (R i).ob = []
    · rw [hb, List.append_nil]
      rcases inv.c3 with ⟨h1, h2⟩ | ⟨j, h1, h2, h3⟩
      · refine .inl ⟨h1, fun j hj hl => ?_⟩
        rw [listed_set hL] at hl
        rcases hl with rfl | hl
        · exact hb
        · exact h2 j hj hl
      · exact .inr ⟨j, h1, (listed_set hL).2 (.inr h2), h3⟩
    · right
      refine ⟨i, hi, (listed_set hL).2 (.inl rfl), hb, ?_⟩
      rcases inv.c3 with ⟨h1, h2⟩ | ⟨j, h1, h2, h3, _⟩
      · rw [h1]
      · have := ra.one d h00 hi h1 hb h3
        subst this
        exact (nl h2).elim
  c4 := fun j p t l hj hl hp hd hog => by
    rw [listed_set hL] at hl
    by_cases hji : j = i
    · subst hji
      rw [ho] at hp
      cases hp
      rw [hd]
      exact on_og_new hog
    · have hlj := hl.resolve_left hji
      refine on_og_keep (inv.c4 j p t l hj hlj hp hd hog) (fun hh => hji (d.dist j i p o t hp hj ho hi hd hh)) fun u hu hh => ?_
      subst hu
      obtain ⟨_, h2, _⟩ := ra.step j p hp hj
      have hlook := recA_og h2 hog
      obtain ⟨_, hanc⟩ := d.look j i p o u hp hj hlook ho hi hh
      have := hcl.anc hanc fun q hq => hcl j q hq hlj
      rw [hL] at this
      simp at this

/-- What an operation that is ready looks at is as it was in the text's order. -/
theorem InvA.see (d : DrawOk ops k) (ra : RunA X call N ops k h0 S R) (inv : InvA ops k h0 S R L sR) (hcl : Closed ops L) {i : Nat} {o : Oper} (hi : i < k) (ho : ops[i]? = some o) (hr : ∀ p, ops[i]? = some p → ∀ j ∈ directs p, L[j]? = some true) {t : Nat} (ht : t ∈ o.looksAt ops) :
    lookT t (S i).s = lookT t sR.s := by
  by_cases h : ∃ (j : Nat) (p : Oper), j < k ∧ ops[j]? = some p ∧ p.dst = some t
  · obtain ⟨j, p, hj, hp, hd⟩ := h
    obtain ⟨h1, h2⟩ := d.look i j o p t ho hi ht hp hj hd
    have hl := hcl.anc h2 hr
    rw [ra.new d hp hd i (by omega) h1, inv.c1 j p t hj hl hp hd]
  · have hno : ∀ (j : Nat) (p : Oper), j < k → ops[j]? = some p → p.dst ≠ some t := fun j p hj hp hd => h ⟨j, p, hj, hp, hd⟩
    rw [ra.old d t i (by omega) fun j p hj hp => hno j p (by omega) hp, inv.c2 t fun j p hj _ hp => hno j p hj hp]

/-- Where all the first operations are done. -/
theorem InvA.done (d : DrawOk ops k) (ra : RunA X call N ops k h0 S R) (h00 : (S 0).h = h0) (hog : (S 0).og = []) (inv : InvA ops k h0 S R L sR) (hall : ∀ j, j < k → L[j]? = some true) {a : Act} {w : World} {g : Gh} (rl : Rel X base N sR a w g) : Rel X base N (S k) a w g := by
  have hh : sR.h = (S k).h := by
    rcases ra.h d h00 k (Nat.le_refl _) with ⟨h1, h2⟩ | ⟨m, h1, h2, h3, _⟩
    · rcases inv.c3 with ⟨k1, _⟩ | ⟨j, k1, _, k3, _⟩
      · rw [k1, h1]
      · exact (k3 (h2 j k1)).elim
    · rcases inv.c3 with ⟨_, k2⟩ | ⟨j, k1, _, k3, k4⟩
      · exact (h2 (k2 m h1 (hall m h1))).elim
      · have := ra.one d h00 h1 k1 h2 k3
        subst this
        rw [k4, h3]
  refine ⟨rl.defers, rl.size, fun t => ?_, ?_, ?_, fun t l hm => ?_⟩
  · have : lookT t (S k).s = lookT t sR.s := by
      by_cases h : ∃ (j : Nat) (p : Oper), j < k ∧ ops[j]? = some p ∧ p.dst = some t
      · obtain ⟨j, p, hj, hp, hd⟩ := h
        rw [ra.new d hp hd k (Nat.le_refl _) hj, inv.c1 j p t hj (hall j hj) hp hd]
      · have hno : ∀ (j : Nat) (p : Oper), j < k → ops[j]? = some p → p.dst ≠ some t := fun j p hj hp hd => h ⟨j, p, hj, hp, hd⟩
        rw [ra.old d t k (Nat.le_refl _) hno, inv.c2 t fun j p hj _ hp => hno j p hj hp]
    rw [this]
    exact rl.slots t
  · rw [← hh]; exact rl.sit
  · rw [← hh]; exact rl.low
  · obtain ⟨j, o, h1, h2, h3, h4⟩ := ra.og d hog k (Nat.le_refl _) t l hm
    exact rl.og t l (inv.c4 j o t l h1 (hall j h1) h2 h3 h4)

theorem guardOf_see {st sR : St} {o : Oper} (h : ∀ t, t ∈ o.looksAt ops → lookT t st.s = lookT t sR.s) : guardOf X ops st o = guardOf X ops sR o := by
  unfold guardOf
  cases hg : o.guard with
  | none => rfl
  | some jw =>
    obtain ⟨j, want⟩ := jw
    simp only
    cases ht : (ops[j]?).bind (·.dst) with
    | none => rfl
    | some t =>
      have : t ∈ o.looksAt ops := by
        refine List.mem_append_right _ ?_
        rw [hg]
        simp only [ht]
        simp
      simp only [St.get]
      rw [h t this]

/-- Where a run is. -/
def Phase (X : Ctx) (call : CallF) (base N : Nat) (ops : Array Oper) (k : Nat) (h0 : List Ob) (S : Nat → St) (R : Nat → Rec) (stE : St) (L : Array Bool) (a : Act) (w : World) (g : Gh) : Prop :=
  ((∀ i, k ≤ i → L[i]? ≠ some true) ∧ ∃ sR, InvA ops k h0 S R L sR ∧ Rel X base N sR a w g) ∨
  ∃ m st, k ≤ m ∧ m ≤ ops.size ∧ (∀ j, L[j]? = some true ↔ j < m) ∧ runOps X call base N ops (ops.toList.drop m) st = some stE ∧ Rel X base N st a w g

section
variable {stE : St} {a : Act} {w : World} {g : Gh}

theorem Phase.second (d : DrawOk ops k) (ra : RunA X call N ops k h0 S R) (h00 : (S 0).h = h0) (hog : (S 0).og = []) (hB : runOps X call base N ops (ops.toList.drop k) (S k) = some stE) (h : Phase X call base N ops k h0 S R stE L a w g) (hall : ∀ j, j < k → L[j]? = some true) :
    ∃ m st, k ≤ m ∧ m ≤ ops.size ∧ (∀ j, L[j]? = some true ↔ j < m) ∧ runOps X call base N ops (ops.toList.drop m) st = some stE ∧ Rel X base N st a w g := by
  rcases h with ⟨h1, sR, h2, h3⟩ | h
  · refine ⟨k, S k, Nat.le_refl _, d.hk, fun j => ⟨fun hj => ?_, hall j⟩, hB, h2.done d ra h00 hog hall h3⟩
    apply Classical.byContradiction
    intro hn
    exact h1 j (by omega) hj
  · exact h

theorem draw_any {md : Region.Mode} (hmd : md = .any ∨ backAll ops = true) (d : DrawOk ops k) (hc : CallPOk X call) (hci : CallIOk X call) (ra : RunA X call N ops k h0 S R) (h00 : (S 0).h = h0) (hog : (S 0).og = []) (hB : runOps X call base N ops (ops.toList.drop k) (S k) = some stE) {Q : Exit → Act → World → Prop} {g0 : Gh} {w0 : World} (hK : Goes X base N stE g0 w0 (fun a w => Q .normal a w)) :
    ∀ (fuel : Nat) (L : Array Bool) (a : Act) (w : World) (g : Gh), unl L = fuel → L.size = ops.size → Closed ops L → Later g0 w0 g w → Phase X call base N ops k h0 S R stE L a w g → wpAny X.P md ops Q fuel L a w := by
  have fin : ∀ (L : Array Bool) (a : Act) (w : World) (g : Gh), L.size = ops.size → Later g0 w0 g w → Phase X call base N ops k h0 S R stE L a w g → (∀ i, i < ops.size → L[i]? = some true) → Q .normal a w := by
    intro L a w g hs hl hp hall
    obtain ⟨m, st, h1, h2, h3, h4, h5⟩ := hp.second d ra h00 hog hB fun j hj => hall j (by have := d.hk; omega)
    have hm : m = ops.size := by
      apply Classical.byContradiction
      intro hn
      have := (h3 m).1 (hall m (by omega))
      omega
    subst hm
    rw [show ops.toList.drop ops.size = [] by simp] at h4
    simp [runOps] at h4
    subst h4
    exact hK a w g hl h5
  intro fuel
  induction fuel with
  | zero =>
    intro L a w g hu hs hcl hl hp
    have hall : ∀ i, i < ops.size → L[i]? = some true := fun i hi => unl_zero hu (by omega)
    refine ⟨?_, fin L a w g hs hl hp hall⟩
    apply List.eq_nil_iff_forall_not_mem.2
    intro i hi
    have h1 := (ready_md hs hi).1
    have hlt := (Array.getElem?_eq_some_iff.1 h1).1
    rw [hall i (by omega)] at h1
    simp at h1
  | succ fuel ih =>
    intro L a w g hu hs hcl hl hp
    refine ⟨fun hr => fin L a w g hs hl hp (by
      rcases hmd with rfl | hb
      · exact ready_ne d hs hr
      · exact ready_back hb hs hr), fun i hi => ?_⟩
    obtain ⟨hi1, hi2⟩ := ready_md hs hi
    have hlt : i < ops.size := by have := (Array.getElem?_eq_some_iff.1 hi1).1; omega
    have ho : ops[i]? = some ops[i] := Array.getElem?_eq_getElem hlt
    generalize ops[i] = o at ho
    have hcl' := hcl.set hi1 hi2
    have hs' : (L.setIfInBounds i true).size = ops.size := by simpa using hs
    have hu' : unl (L.setIfInBounds i true) = fuel := by have := unl_set hi1; omega
    have nl : L[i]? ≠ some true := by rw [hi1]; simp
    unfold wpOp
    simp only [ho]
    by_cases hik : i < k
    · rcases hp with ⟨h1, sR, inv, rl⟩ | ⟨m, st, h1, h2, h3, _⟩
      · obtain ⟨hN, hrec, hnext⟩ := ra.step i o ho hik
        have hsee : ∀ t, t ∈ o.looksAt ops → lookT t (S i).s = lookT t sR.s := fun t ht => inv.see d ra hcl hik ho hi2 ht
        have hhs : ∃ hs, sR.h = h0 ++ hs ∧ ((R i).ob ≠ [] → hs = []) := by
          rcases inv.c3 with ⟨k1, _⟩ | ⟨j, k1, k2, k3, k4⟩
          · exact ⟨[], by simpa using k1, fun _ => rfl⟩
          · refine ⟨_, k4, fun hb => ?_⟩
            have := ra.one d h00 hik k1 hb k3
            subst this
            exact (nl k2).elim
        obtain ⟨hs2, hh, hob⟩ := hhs
        refine stepA_sound hrec (fun x hx => ?_) (guardOf_see hsee) hh hob hN rl hc fun a' w' g' l' r' => ?_
        · cases x with
          | tmp t => exact hsee t (List.mem_append_left _ (List.mem_filterMap.2 ⟨.tmp t, by simpa using hx, rfl⟩))
          | _ => rfl
        · refine ih _ a' w' g' hu' hs' hcl' (hl.trans l') (.inl ⟨fun j hj hjl => ?_, _, inv.set d ra h00 hcl hik ho hi1, r'⟩)
          rw [listed_set hi1] at hjl
          rcases hjl with rfl | hjl
          · omega
          · exact h1 j hj hjl
      · exact (nl ((h3 i).2 (by omega))).elim
    · have hbelow : ∀ j, j < i → L[j]? = some true := fun j hj => hcl.anc (d.full i (by omega) hlt j hj) hi2
      obtain ⟨m, st, h1, h2, h3, h4, rl⟩ := hp.second d ra h00 hog hB fun j hj => hbelow j (by omega)
      have hmi : m = i := by
        have e1 : ¬ i < m := fun hh => nl ((h3 i).2 hh)
        have e2 : ¬ m < i := fun hh => by have := (h3 m).1 (hbelow m hh); omega
        omega
      subst hmi
      have hdrop : ops.toList.drop m = o :: ops.toList.drop (m + 1) := by
        rw [List.drop_eq_getElem_cons (by simpa using hlt)]
        congr 1
        have := Array.getElem?_eq_some_iff.1 ho
        simpa using this.2
      rw [hdrop] at h4
      simp only [runOps] at h4
      have ph : ∀ (st1 : St) (a' : Act) (w' : World) (g' : Gh), runOps X call base N ops (ops.toList.drop (m + 1)) st1 = some stE → Rel X base N st1 a' w' g' → Phase X call base N ops k h0 S R stE (L.setIfInBounds m true) a' w' g' := by
        intro st1 a' w' g' hrun r'
        refine .inr ⟨m + 1, st1, by omega, by omega, fun j => ?_, hrun, r'⟩
        rw [listed_set hi1, h3 j]
        omega
      split at h4
      · rename_i hN
        split at h4
        · rename_i hg
          rw [if_pos (guard_sound hg rl)]
          left
          split at h4
          · rename_i st1 hst
            exact stepAll_sound hst hN rl hc hci fun a' w' g' l' r' => ih _ a' w' g' hu' hs' hcl' (hl.trans l') (ph st1 a' w' g' h4 r')
          · cases h4
        · rename_i hg
          rw [if_neg (by rw [guard_sound hg rl]; simp)]
          exact ih _ _ w g hu' hs' hcl' hl (ph _ _ w g h4 (rl.put hN fun d _ => .d _ _ _ (.tup [] [] rfl (by intro j v d hj; simp at hj))))
        · cases h4
      · cases h4

theorem wp_region_any' {P : Program} {ops : Array Oper} {Q : Exit → Act → World → Prop} {id : Nat} {a : Act} {w : World} (hm : (P.follows .mixedOrders || !Region.departs ops || backAll ops) = true)
    (h : ∀ md, (md = .any ∨ backAll ops = true) → wpAny P md ops Q ops.size (Array.replicate ops.size false) a { w with drawn := w.drawn + 1 }) : (Code.region id ops true).wp P Q a w :=
  wp_region_draw fun t => by
    unfold Region.schedule
    split
    · exact wpAny_sound ops.size t _ a _ (h .any (.inl rfl))
    · rename_i hn
      have hb : backAll ops = true := by
        rw [Bool.or_eq_true] at hm
        rcases hm with h1 | h1
        · exact absurd h1 hn
        · exact h1
      exact wpAny_sound ops.size (t / 2) _ a _ (h _ (.inr hb))

theorem draw_sound {id : Nat} {st st' : St} (hd : drawOk ops = some k) (h : runDraw X call base N ops k st = some st') (hog : st.og = []) (hc : CallPOk X call) (hci : CallIOk X call) (rl : Rel X base N st a w g) {Q : Exit → Act → World → Prop}
    (hK : Goes X base N st' g w (fun a w => Q .normal a w)) : (Code.region id ops true).wp X.P Q a w := by
  have d := drawOk_spec hd
  unfold runDraw at h
  split at h
  · rename_i hm
    split at h
    · rename_i st1 hA
      obtain ⟨S, R, ra, h0, h1⟩ := runA_run d.hk hA
      rw [← h1] at h
      have kp : Keep g w g { w with drawn := w.drawn + 1 } := ⟨⟨rfl, rfl, rfl, Nat.le_refl _, fun _ _ => rfl, fun _ _ => rfl, fun _ _ => rfl, fun _ _ h => h, rfl, rl.sit.fresh⟩, rfl⟩
      refine wp_region_any' hm (fun md hmd => draw_any hmd (g0 := g) (w0 := w) d hc hci ra (by rw [h0]) (by rw [h0]; exact hog) h hK ops.size _ a _ g (unl_start _) (by simp) ?_ (kp.later rl.sit.fresh) (.inl ⟨?_, S 0, ⟨?_, ?_, ?_, ?_⟩, ?_⟩))
      · intro i o ho hl j hj
        rw [Array.getElem?_replicate] at hl
        split at hl <;> simp at hl
      · intro i _ hl
        rw [Array.getElem?_replicate] at hl
        split at hl <;> simp at hl
      · intro j o t _ hl
        rw [Array.getElem?_replicate] at hl
        split at hl <;> simp at hl
      · intro t _; rfl
      · refine .inl ⟨by rw [h0], fun j _ hl => ?_⟩
        rw [Array.getElem?_replicate] at hl
        split at hl <;> simp at hl
      · intro j o t l _ hl
        rw [Array.getElem?_replicate] at hl
        split at hl <;> simp at hl
      · rw [h0]; exact rl.keep kp
    · cases h
  · cases h
end
end

end Go.Proofs.Ytaobccodpdmieaa.Pv
/- Pv: code. -/
set_option linter.unusedSimpArgs false
set_option linter.unusedVariables false
namespace Go.Proofs.Ytaobccodpdmieaa.Pv
open Go

section
variable {X : Ctx} {base N : Nat} {st : St} {a : Act} {w : World} {g : Gh} {call : CallF}

theorem Rel.ogNil (r : Rel X base N st a w g) : Rel X base N { st with og := [] } a w g :=
  ⟨r.defers, r.size, r.slots, r.sit, r.low, fun _ _ h => by cases h⟩

theorem lookT_keepS (keep : List Nat) (s : List (Nat × V)) (t : Nat) : lookT t (keepS keep s) = lookT t s ∨ lookT t (keepS keep s) = und := by
  induction keep with
  | nil => exact .inr rfl
  | cons u l ih =>
    simp only [keepS, List.map_cons, lookT]
    by_cases h : (u == t) = true
    · rw [if_pos h]; simp only [beq_iff_eq] at h; subst h; exact .inl rfl
    · rw [if_neg h]; exact ih

/-- What is not read any more is forgotten. -/
theorem Rel.forget (r : Rel X base N st a w g) (keep : List Nat) : Rel X base N { s := keepS keep st.s, h := st.h, og := [] } a w g := by
  refine ⟨r.defers, r.size, fun t => ?_, r.sit, r.low, fun _ _ h => by cases h⟩
  rcases lookT_keepS keep st.s t with h | h
  · simp only [h]; exact r.slots t
  · simp only [h]; exact .d _ _ _ (.und _)

theorem RepV.toTrunc {n : Nat} {p : Own} {v : Value} {x : V} (r : RepV X w g p v x) (h : x.low n = true) : RepV X w (g.trunc n) p v x := by
  cases r with
  | d _ _ _ r => exact .d _ _ _ r
  | tail _ E cells m b' c cur z vals hz hz0 hb hn hm hcur hcl hee hoo hp hv hr => exact .tail _ E cells m b' c cur z vals hz hz0 hb hn hm hcur hcl hee hoo hp hv hr
  | tail0 _ E => exact .tail0 _ E
  | full _ b' o cells n r => exact .full _ b' o cells n r
  | obj _ id off b' r => exact .obj _ id off b' (trunc_put (by simpa [V.low] using h) r)
  | osl _ id off n c b' r hn => exact .osl _ id off n c b' (trunc_put (by simpa [V.low] using h) r) hn
  | clo => simp [V.low] at h
  | agg => simp [V.low] at h
  | tup => simp [V.low] at h
  | mp _ id b' r => exact .mp _ id b' (trunc_put (by simpa [V.low] using h) r)
  | it _ id b' r => exact .it _ id b' (trunc_put (by simpa [V.low] using h) r)

theorem RepOb.toTrunc {n id b : Nat} {o : Ob} (r : RepOb X w g id b o) (h : o.low n = true) : RepOb X w (g.trunc n) id b o := by
  cases o with
  | cells vs =>
    obtain ⟨vals, T, h1, h2, h3, h4⟩ := r
    refine ⟨vals, T, h1, h2, h3, fun j v x k1 k2 => (h4 j v x k1 k2).toTrunc ?_⟩
    have := List.all_eq_true.1 (by simpa [Ob.low] using h : vs.all (V.low n) = true) x (List.mem_of_getElem? k2)
    exact this
  | frozen ds => obtain ⟨vals, T, h1, h2, h3, h4⟩ := r; exact ⟨vals, T, h1, h2, h3, h4⟩
  | map es ck => obtain ⟨en, h1, h2, h3, h4⟩ := r; exact ⟨en, h1, h2, h3, h4⟩
  | iter s pos => exact r

theorem later_trunc (n : Nat) : Later g w (g.trunc n) w := ⟨rfl, rfl, rfl, Nat.le_refl _, fun _ _ _ => rfl, fun _ => Nat.le_refl _, fun _ h => ⟨rfl, h, rfl⟩, rfl⟩

theorem GlobOk.trunc (h : GlobOk X w g) (n : Nat) : GlobOk X w (g.trunc n) := h

/-- Boxes that nothing points to any more are forgotten. -/
theorem Rel.trunc (r : Rel X base N st a w g) {n : Nat} (hb : base ≤ n) (hs : ∀ t, (lookT t st.s).low n = true) (hh : (st.h.take n).all (Ob.low n) = true) : Rel X base N { s := st.s, h := st.h.take n, og := [] } a w (g.trunc n) := by
  have old : ∀ (id : Nat) (o : Ob), (st.h.take n)[id]? = some o → id < n ∧ st.h[id]? = some o := by
    intro id o h
    rw [List.getElem?_take] at h
    split at h
    · exact ⟨‹_›, h⟩
    · cases h
  refine ⟨r.defers, r.size, fun t => (r.slots t).toTrunc (hs t), ⟨r.sit.fresh, ⟨?_, fun id b hb => ?_, fun id b o hb ho => ?_⟩, r.sit.glob⟩, ⟨?_, fun m hm hel id b o hid hbb ho => ?_, fun id b hid hbb => trunc_put (Nat.lt_of_lt_of_le hid hb) (r.low.2.2 id b hid hbb)⟩, fun _ _ h => by cases h⟩
  · simp only [Gh.trunc, List.length_take, r.sit.heap.len]
  · exact r.sit.heap.own id b (trunc_get hb).2
  · obtain ⟨h1, h2⟩ := old id o ho
    exact (r.sit.heap.ob id b o (trunc_get hb).2 h2).toTrunc (List.all_eq_true.1 hh o (List.mem_of_getElem? ho))
  · have := r.low.1
    simp only [List.length_take]
    omega
  · have h3 := r.low.2.1 m hm hel id b o hid (trunc_get hbb).2 (old id o ho).2
    have : (g.trunc n).trunc m = g.trunc m := by
      simp only [Gh.trunc, List.take_take, Nat.min_eq_left (Nat.le_trans hm hb)]
    rw [this]
    exact h3

theorem lookT_all {s : List (Nat × V)} {q : V → Bool} (h : s.all (fun x => q x.2) = true) (hu : q und = true) (t : Nat) : q (lookT t s) = true := by
  induction s with
  | nil => exact hu
  | cons x l ih =>
    obtain ⟨u, v⟩ := x
    simp only [List.all_cons, Bool.and_eq_true] at h
    simp only [lookT]
    split
    · exact h.1
    · exact ih h.2

theorem Rel.clean (r : Rel X base N st a w g) (keep : List Nat) {n : Nat} (hb : base ≤ n) : ∃ g', Later g w g' w ∧ Rel X base N (Pv.clean keep n st) a w g' := by
  unfold Pv.clean
  simp only
  split
  · rename_i h
    simp only [Bool.and_eq_true] at h
    exact ⟨g.trunc n, later_trunc n, (r.forget keep).trunc hb (fun t => lookT_all h.1 rfl t) h.2⟩
  · exact ⟨g, Later.refl g w, r.forget keep⟩

def exitOf : Ex → Exit
  | .nrm => .normal
  | .exit id => .exit id
  | .ret => .ret

theorem exec_sound (hc : CallPOk X call) (hci : CallIOk X call) {fuel n all rets : Nat} : ∀ (c : Code) (nx : Nat) (exs : List (Nat × Nat)) (st : St) (ex : Ex) (st' : St) (a : Act) (w : World) (g : Gh) (Q : Exit → Act → World → Prop),
    exec X call base N fuel (annot n all rets c nx exs).1 st = some (ex, st') → Rel X base N st a w g → Goes X base N st' g w (fun a w => Q (exitOf ex) a w) → c.wp X.P Q a w := by
  intro c
  induction c with
  | skip =>
    intro nx exs st ex st' a w g Q h r hK
    simp only [annot, exec, Option.some.injEq, Prod.mk.injEq] at h
    obtain ⟨rfl, rfl⟩ := h
    exact wp_skip (hK a w g (Later.refl g w) r)
  | region id ops draw =>
    intro nx exs st ex st' a w g Q h r hK
    cases draw with
    | false =>
      simp only [annot, exec] at h
      split at h
      · rename_i st1 hrun
        simp only [Option.some.injEq, Prod.mk.injEq] at h
        obtain ⟨rfl, rfl⟩ := h
        exact wp_region_list (runOps_sound hc hci _ _ _ _ _ _ hrun r.ogNil fun a' w' g' l r' => hK a' w' g' l (r'.forget _))
      · cases h
    | true =>
      simp only [annot] at h
      split at h
      · rename_i k hd
        simp only [exec] at h
        split at h
        · rename_i st1 hrun
          simp only [Option.some.injEq, Prod.mk.injEq] at h
          obtain ⟨rfl, rfl⟩ := h
          exact draw_sound hd hrun rfl hc hci r.ogNil fun a' w' g' l r' => hK a' w' g' l (r'.forget _)
        · cases h
      · simp [exec] at h
  | seq x y ihx ihy =>
    intro nx exs st ex st' a w g Q h r hK
    simp only [annot, exec] at h
    refine wp_seq ?_
    split at h
    · rename_i st1 hx
      exact ihx _ _ _ _ _ _ _ _ _ hx r fun a' w' g' l r' => ihy _ _ _ _ _ _ _ _ _ h r' (hK.trans l)
    · rename_i hne
      refine ihx _ _ _ _ _ _ _ _ _ h r fun a' w' g' l r' => ?_
      have := hK a' w' g' l r'
      cases ex with
      | nrm => exact (hne _ h).elim
      | exit i => exact this
      | ret => exact this
  | cond c x y ihx ihy =>
    intro nx exs st ex st' a w g Q h r hK
    simp only [annot, exec] at h
    obtain ⟨q, hq⟩ := r.get c
    split at h
    · rename_i hcc
      rw [hcc] at hq
      refine wp_cond_true ?_ (ihx _ _ _ _ _ _ _ _ _ h r hK)
      generalize a.eval c = v at hq
      cases hq with | d _ _ _ hq => cases hq; rfl
    · rename_i hcc
      rw [hcc] at hq
      refine wp_cond_false ?_ (ihy _ _ _ _ _ _ _ _ _ h r hK)
      generalize a.eval c = v at hq
      cases hq with | d _ _ _ hq => cases hq; rfl
    · cases h
  | block id b ih =>
    intro nx exs st ex st' a w g Q h r hK
    simp only [annot, exec] at h
    refine wp_block ?_
    split at h
    · rename_i i st1 hb
      simp only [Option.some.injEq, Prod.mk.injEq] at h
      obtain ⟨rfl, rfl⟩ := h
      refine ih _ _ _ _ _ _ _ _ _ hb r fun a' w' g' l r' => ?_
      have := hK a' w' g' l r'
      simp only [exitOf, Exit.inBlock]
      split
      · rename_i hid; rw [if_pos hid] at this; exact this
      · rename_i hid; rw [if_neg hid] at this; exact this
    · rename_i hne
      refine ih _ _ _ _ _ _ _ _ _ h r fun a' w' g' l r' => ?_
      have := hK a' w' g' l r'
      cases ex with
      | nrm => exact this
      | exit i => exact (hne _ _ h).elim
      | ret => exact this
  | loop b ih =>
    intro nx exs st ex st' a w g Q h r hK
    simp only [annot, exec] at h
    generalize hkeep : bitsOf n _ = keep at h
    generalize (annot n all rets b ((annot n all rets b 0 exs).2) exs).2 = m at h
    refine wp_loop_ghost (fun k a1 w1 => ∃ st1 g1, loopN (fun st => exec X call base N fuel (annot n all rets b m exs).1 st) keep st.h.length k st1 = some (ex, st') ∧ Rel X base N st1 a1 w1 g1 ∧ Later g w g1 w1) fuel ⟨st, g, h, r, Later.refl g w⟩ ?_
    rintro k a1 w1 ⟨st1, g1, hl, r1, l1⟩
    cases k with
    | zero => simp [loopN] at hl
    | succ k =>
      obtain ⟨g2, l2, r2⟩ := r1.clean keep (n := st.h.length) r.low.1
      simp only [loopN] at hl
      split at hl
      · rename_i st2 hb
        exact ih _ _ _ _ _ _ _ _ _ hb r2 fun a' w' g' l r' => ⟨k, Nat.lt_succ_self k, st2, g', hl, r', (l1.trans l2).trans l⟩
      · rename_i hne
        refine ih _ _ _ _ _ _ _ _ _ hl r2 fun a' w' g' l r' => ?_
        have := hK a' w' g' ((l1.trans l2).trans l) r'
        cases ex with
        | nrm => exact (hne _ hl).elim
        | exit i => exact this
        | ret => exact this
  | exit id =>
    intro nx exs st ex st' a w g Q h r hK
    simp only [annot, exec, Option.some.injEq, Prod.mk.injEq] at h
    obtain ⟨rfl, rfl⟩ := h
    exact wp_exit (hK a w g (Later.refl g w) r)
  | ret =>
    intro nx exs st ex st' a w g Q h r hK
    simp only [annot, exec, Option.some.injEq, Prod.mk.injEq] at h
    obtain ⟨rfl, rfl⟩ := h
    exact wp_ret (hK a w g (Later.refl g w) r)
  | label l =>
    intro nx exs st ex st' a w g Q h r hK
    simp only [annot, exec, Option.some.injEq, Prod.mk.injEq] at h
    obtain ⟨rfl, rfl⟩ := h
    exact wp_label (hK a w g (Later.refl g w) r)
  | scope b ih =>
    intro nx exs st ex st' a w g Q h r hK
    simp only [annot] at h
    refine wp_scope_straight (ih _ _ _ _ _ _ _ _ _ h r fun a' w' g' l r' => ?_)
    have := hK a' w' g' l r'
    cases ex <;> exact this
  | _ =>
    intro nx exs st ex st' a w g Q h r hK
    simp [annot, exec] at h
end

end Go.Proofs.Ytaobccodpdmieaa.Pv
/- Pv: what a function hands back. -/
set_option linter.unusedSimpArgs false
set_option linter.unusedVariables false
namespace Go.Proofs.Ytaobccodpdmieaa.Pv
open Go

section
variable {X : Ctx} {base N : Nat} {st : St} {a : Act} {w : World} {g : Gh}

def resRun (tmps : Array Value) : ResultVar → Sem Value
  | .tmp t => pure (tmps.getD t undef)
  | .cell b t => do loadVar t (← asAddr (tmps.getD b undef))

theorem resultOf_sound {rv : ResultVar} {y : V} (h : resultOf X st rv = some y) (r : Rel X base N st a w g) :
    ∃ v q, (resRun a.tmps rv).run X.P w = .ok v w ∧ RepV X w g q v y ∧ (q = .free ∨ ∃ t, q = .slot t) := by
  cases rv with
  | tmp t =>
    simp only [resultOf, Option.some.injEq] at h
    subst h
    exact ⟨_, .slot t, rfl, (r.slots t).flat, .inr ⟨t, rfl⟩⟩
  | cell b t =>
    have hl : loadOp X (st.get X) st.h t (.tmp b) = some y := by
      simp only [resultOf] at h
      simp only [loadOp, St.get]
      split at h
      · rename_i id off hb
        rw [hb]
        simp only
        split at h
        · rename_i vs hh; rw [hh]; exact h
        · rename_i ds hh; rw [hh]; exact h
        · cases h
      · rename_i c off hb
        rw [hb]
        exact h
      · cases h
    obtain ⟨u, h1, h2⟩ := load_sound hl (r.slots b) r.sit.heap .free
    refine ⟨u, .free, ?_, h2, .inl rfl⟩
    unfold Instr.loadAt at h1
    cases hv : a.tmps.getD b undef with
    | pointer ad =>
      cases ad with
      | some ad =>
        rw [hv] at h1
        simp only [resRun, hv, asAddr, pure_bind]
        simpa [Instr.sureAddr] using h1
      | none => rw [hv] at h1; simp [Instr.sureAddr] at h1
    | _ => rw [hv] at h1; simp [Instr.sureAddr] at h1

def oneOf : List Value → Value
  | [v] => v
  | vals => .tuple ⟨vals⟩

theorem results_run {fn : Func} {vals : List Value} (h : (fn.results.toList.mapM (resRun a.tmps)).run X.P w = .ok vals w) :
    (Go.results fn a.tmps).run X.P w = .ok (oneOf vals) w := by
  have hres : Go.results fn a.tmps = (do let vs ← fn.results.mapM (resRun a.tmps); pure (if h : vs.size = 1 then vs[0] else .tuple vs)) := by
    unfold Go.results
    congr 1
  rw [hres, Array.mapM_eq_mapM_toList]
  simp only [map_eq_pure_bind, bind_assoc, pure_bind]
  rw [Sem.run_bind, h]
  simp only [Result.andThen_ok]
  match vals with
  | [] => simp [oneOf]
  | [v] => simp [oneOf]
  | v :: u :: l => simp [oneOf]

theorem resultsOf_sound {fn : Func} (r : Rel X base N st a w g) : ∀ (rs : List ResultVar) (ys : List V), resultsOf X st rs = some ys →
    ∃ vals, (rs.mapM (resRun a.tmps)).run X.P w = .ok vals w ∧ PtV X w g vals (ys.map V.copy) ∧ vals.length = rs.length := by
  intro rs
  induction rs with
  | nil =>
    intro ys h
    simp only [resultsOf, Option.some.injEq] at h
    subst h
    exact ⟨[], rfl, ⟨rfl, by intro j v x h; simp at h⟩, rfl⟩
  | cons rv rs ih =>
    intro ys h
    simp only [resultsOf] at h
    split at h
    · rename_i v vs h1 h2
      simp at h
      subst h
      obtain ⟨u, q, k1, k2, _⟩ := resultOf_sound h1 r
      obtain ⟨us, k3, k4, k5⟩ := ih _ h2
      refine ⟨u :: us, ?_, ⟨by simp [k4.1], fun j v' x hj hx => ?_⟩, by simp [k5]⟩
      · rw [List.mapM_cons, Sem.run_bind, k1]
        simp only [Result.andThen_ok]
        rw [Sem.run_bind, k3]
        simp
      · cases j with
        | zero => simp at hj hx; subst hj; subst hx; exact k2.copy
        | succ j => simp at hj hx; exact k4.2 j v' x hj (by simpa using hx)
    · cases h

theorem frzAll_none (hf : ∀ t, X.frz t = false) : ∀ (ts : List TypeId) (h : List Ob) (vs : List V) (r : List V × List Ob), frzAll X ts h vs = some r → r = (vs.map V.copy, h) := by
  intro ts
  induction ts with
  | nil => intro h vs r hr; cases vs <;> simp [frzAll] at hr; simp [← hr]
  | cons t ts ih =>
    intro h vs r hr
    cases vs with
    | nil => simp [frzAll] at hr; simp [← hr]
    | cons v vs =>
      simp only [frzAll, frzRes, hf, Bool.false_eq_true, if_false] at hr
      split at hr
      · rename_i vs' h' he
        have := ih _ _ _ he
        simp at hr this
        rw [← hr, this.1, this.2]
        simp
      · cases hr

theorem results_sound {fn : Func} {y : V} {h' : List Ob} (hf : ∀ t, X.frz t = false) (h : Pv.results X fn st = some (y, h')) (r : Rel X base N st a w g) :
    h' = st.h ∧ ∃ v q, (Go.results fn a.tmps).run X.P w = .ok v w ∧ RepV X w g q v y ∧ (q = .free ∨ ∃ t, q = .slot t) := by
  unfold Pv.results at h
  split at h
  · rename_i rv t hr ht
    split at h
    · rename_i v hv
      simp [frzRes, hf] at h
      obtain ⟨rfl, rfl⟩ := h
      obtain ⟨u, q, k1, k2, k3⟩ := resultOf_sound hv r
      refine ⟨rfl, u, q, ?_, k2, k3⟩
      exact results_run (vals := [u]) (by rw [hr, List.mapM_cons, Sem.run_bind, k1]; simp)
    · cases h
  · cases h
  · rename_i hne1 hne2
    split at h
    · rename_i vs hv
      cases hfz : frzAll X fn.resultTypes.toList st.h vs with
      | none => rw [hfz] at h; simp at h
      | some rr =>
        rw [hfz] at h
        have := frzAll_none hf _ _ _ _ hfz
        subst this
        simp only [Option.map_some, Option.some.injEq, Prod.mk.injEq] at h
        obtain ⟨h1, h2⟩ := h
        obtain ⟨vals, k1, k2, k3⟩ := resultsOf_sound (fn := fn) r _ _ hv
        refine ⟨h2.symm, _, .free, results_run k1, ?_, .inl rfl⟩
        have hl : vals.length ≠ 1 := by
          rw [k3]
          intro hl
          obtain ⟨rv, hrv⟩ := List.length_eq_one_iff.1 hl
          exact hne1 rv hrv
        have hm : oneOf vals = .tuple ⟨vals⟩ := by
          match vals with
          | [] => rfl
          | [v] => simp at hl
          | v :: u :: l => rfl
        rw [hm, ← h1]
        split
        · rename_i ds hds
          refine .d _ _ _ ?_
          have := k2.toDs hds
          exact .tup _ _ this.1 this.2
        · exact .tup _ _ _ k2.1 k2.2
    · cases h
end

end Go.Proofs.Ytaobccodpdmieaa.Pv
/- Pv: functions. -/
set_option linter.unusedSimpArgs false
set_option linter.unusedVariables false
namespace Go.Proofs.Ytaobccodpdmieaa.Pv
open Go

section
variable {X : Ctx} {w w' : World} {g g2 : Gh}

theorem lookT_argEnv (vs : List V) : ∀ n t, lookT t (argEnv n vs) = if n ≤ t then (vs[t - n]?).getD und else und := by
  induction vs with
  | nil => intro n t; simp [argEnv, lookT]
  | cons v vs ih =>
    intro n t
    simp only [argEnv, lookT, ih]
    by_cases h : n = t
    · subst h; simp
    · have hb : (n == t) = false := by simp [h]
      simp only [hb, Bool.false_eq_true, if_false]
      by_cases hle : n ≤ t
      · rw [if_pos (by omega), if_pos hle]
        have : t - n = (t - (n + 1)) + 1 := by omega
        rw [this]
        simp
      · rw [if_neg (by omega), if_neg hle]

/-- The same, where blocks have other owners. -/
theorem RepV.reown (he : g2.e = g.e) (hμ : ∀ (id b : Nat), g.μ[id]? = some b → g2.μ[id]? = some b) {q : Own} {v : Value} {x : V} (r : RepV X w g q v x) : ∀ q2, (IsPos q → IsPos q2 ∧ ∀ b, g.own b = q → g2.own b = q2) → RepV X w g2 q2 v x := by
  induction r with
  | d p v x r => intro q2 _; exact .d _ _ _ (by rw [he]; exact r)
  | tail p E cells m b c cur z vals hz hz0 hb hn hm hcur hcl hee ho hp hv hr =>
    intro q2 h
    obtain ⟨h1, h2⟩ := h hp
    exact .tail _ E cells m b c cur z vals hz hz0 hb hn hm hcur hcl (by rw [he]; exact hee) (h2 b ho) h1 hv fun j v d k1 k2 => by rw [he]; exact hr j v d k1 k2
  | tail0 _ E => intro q2 _; exact .tail0 _ E
  | full p b o cells n r => intro q2 _; exact .full _ b o cells n (by rw [he]; exact r)
  | obj p id off b r => intro q2 _; exact .obj _ id off b (hμ _ _ r)
  | osl p id off n c b r hn => intro q2 _; exact .osl _ id off n c b (hμ _ _ r) hn
  | clo p fn va vb a b hla hlb _ _ iha ihb =>
    intro q2 _
    have nf : IsPos Own.free → IsPos Own.free ∧ ∀ b, g.own b = .free → g2.own b = .free := fun hh => (hh.ne_free rfl).elim
    exact .clo _ fn va vb a b hla hlb (fun j v x h1 h2 => iha j v x h1 h2 _ nf) (fun j v x h1 h2 => ihb j v x h1 h2 _ nf)
  | agg p vals vs hl _ ih =>
    intro q2 _
    exact .agg _ vals vs hl (fun j v x h1 h2 => ih j v x h1 h2 _ fun hh => (hh.ne_free rfl).elim)
  | tup p vals vs hl _ ih =>
    intro q2 _
    exact .tup _ vals vs hl (fun j v x h1 h2 => ih j v x h1 h2 _ fun hh => (hh.ne_free rfl).elim)
  | mp p id b r => intro q2 _; exact .mp _ id b (hμ _ _ r)
  | it p id b r => intro q2 _; exact .it _ id b (hμ _ _ r)

theorem RepV.reownFree (he : g2.e = g.e) (hμ : ∀ (id b : Nat), g.μ[id]? = some b → g2.μ[id]? = some b) {v : Value} {x : V} (r : RepV X w g .free v x) {q : Own} : RepV X w g2 q v x :=
  (r.reown he hμ .free fun hh => (hh.ne_free rfl).elim).anyPos

theorem RepOb.reown (he : g2.e = g.e) (hμ : ∀ (id b : Nat), g.μ[id]? = some b → g2.μ[id]? = some b) (ho : ∀ (b id j : Nat), g.own b = .cell id j → g2.own b = .cell id j) {id b : Nat} {o : Ob} (r : RepOb X w g id b o) : RepOb X w g2 id b o := by
  cases o with
  | cells vs =>
    obtain ⟨vals, T, h1, h2, h3, h4⟩ := r
    exact ⟨vals, T, h1, h2, by rw [he]; exact h3, fun j v x k1 k2 => (h4 j v x k1 k2).reown he hμ _ fun hp => ⟨hp, fun b hb => ho b id j hb⟩⟩
  | frozen ds => obtain ⟨vals, T, h1, h2, h3, h4⟩ := r; exact ⟨vals, T, h1, h2, by rw [he]; exact h3, fun j v x k1 k2 => by rw [he]; exact h4 j v x k1 k2⟩
  | map es ck => obtain ⟨en, h1, h2, h3, h4⟩ := r; exact ⟨en, h1, h2, by rw [he]; exact h3, fun j v x k1 k2 => by rw [he]; exact h4 j v x k1 k2⟩
  | iter s pos => exact ⟨r.1, by rw [he]; exact r.2⟩

theorem GlobOk.same (h : GlobOk X w g) (he : g2.e = g.e) (ho : ∀ b, b < w.heap.size → g.own b = .fgn → g2.own b = .fgn) : GlobOk X w g2 := by
  obtain ⟨ms, h⟩ := h
  refine ⟨ms, fun i cs hi => ?_⟩
  obtain ⟨h0, vals, T, fz, h1, h2, h3⟩ := h i cs hi
  exact ⟨ho i (Array.getElem?_eq_some_iff.1 h1).1 h0, vals, T, fz, h1, ⟨h2.1, fun j v d hv hd => by rw [he]; exact h2.2 j v d hv hd⟩, by rw [he]; exact h3⟩

theorem GlobOk.grow {g' : Gh} (h : GlobOk X w g) (k : Grow g w g' w') (hf : Fresh g w) : GlobOk X w' g' := h.later (k.later hf)

/-- A body's start. -/
theorem start_rel {base N : Nat} {vargs : List Value} {args : List V} {h : List Ob} (hp : PtV X w g vargs args) (sit : Sit X w g h) (low : Low X w g base h) :
    Rel X base N { s := argEnv 0 (args.map V.copy), h := h, og := [] } { tmps := (⟨vargs⟩ : Array Value) ++ Array.replicate (N - vargs.length) undef, defers := [] } w g := by
  refine ⟨rfl, by simp; omega, fun t => ?_, sit, low, fun _ _ h => by cases h⟩
  rw [lookT_argEnv, if_pos (Nat.zero_le _)]
  simp only [Nat.sub_zero, List.getElem?_map]
  cases hx : args[t]? with
  | none => exact .d _ _ _ (.und _)
  | some x =>
    have hlt : t < vargs.length := by rw [hp.1]; exact (List.getElem?_eq_some_iff.1 hx).1
    have hv : vargs[t]? = some vargs[t] := List.getElem?_eq_getElem hlt
    have : ((⟨vargs⟩ : Array Value) ++ Array.replicate (N - vargs.length) undef).getD t undef = vargs[t] := by
      rw [Array.getD_eq_getD_getElem?, Array.getElem?_append_left (by simpa using hlt)]
      simp [hv]
    rw [this]
    exact (hp.2 t _ x hv hx).copy

theorem body_sound {call : CallF} (hc : CallPOk X call) (hci : CallIOk X call) (hf : ∀ t, X.frz t = false) {f : FuncId} {fn : Func} {c : Code} {fuel : Nat} {vargs : List Value} {args : List V} {h h' : List Ob} {y : V} (hfn : X.P.funcs[f]? = some fn) (hb : fn.body = some c)
    (hrun : bodyOn X call fuel fn c (args.map V.copy) h = some (y, h')) (hp : PtV X w g vargs args) (sit : Sit X w g h) (low : Low X w g h.length h) {R : Ending → World → Prop}
    (hR : ∀ v w' g' q, Later g w g' w' → Sit X w' g' h' → Low X w' g' h.length h' → RepV X w' g' q v y → (q = .free ∨ ∃ t, q = .slot t) → R (.returned v) w') : Calls X.P f ⟨vargs⟩ w R := by
  have r0 := start_rel (N := fn.ntmps) hp sit low
  refine calls_of_wp hfn hb ?_
  unfold bodyOn at hrun
  have fin : ∀ (st' : St) (a' : Act) (w' : World) (g' : Gh), Pv.results X fn st' = some (y, h') → Later g w g' w' → Rel X h.length fn.ntmps st' a' w' g' → a'.defers = [] ∧ ∃ v, (Go.results fn a'.tmps).run X.P w' = .ok v w' ∧ R (.returned v) w' := by
    intro st' a' w' g' hres l r'
    obtain ⟨h1, v, q, h2, h3, h4⟩ := results_sound hf hres r'
    subst h1
    exact ⟨r'.defers, v, h2, hR v w' g' q l r'.sit r'.low h3 h4⟩
  split at hrun
  · rename_i st' hex
    exact exec_sound hc hci c _ _ _ _ _ _ _ _ _ hex r0 fun a' w' g' l r' => fin st' a' w' g' hrun l r'
  · rename_i st' hex
    exact exec_sound hc hci c _ _ _ _ _ _ _ _ _ hex r0 fun a' w' g' l r' => fin st' a' w' g' hrun l r'
  · cases hrun

/-- A function that is called with plain data sees no box. -/
def Gh.alone (g : Gh) (n : Nat) : Gh := { μ := [], e := g.e, own := fun b => if b < n then .fgn else .free, pin := ⟨[], fun _ => False⟩ }

theorem PtV.pure {vargs : List Value} {args : List V} (h : PtV X w g vargs args) (hp : args.all V.pure = true) (he : g2.e = g.e) : PtV X w g2 vargs args := by
  refine ⟨h.1, fun j v x h1 h2 => ?_⟩
  have hx : x.pure = true := List.all_eq_true.1 hp x (List.mem_of_getElem? h2)
  have := h.2 j v x h1 h2
  cases this with
  | d _ _ _ r => exact .d _ _ _ (by rw [he]; exact r)
  | tail _ _ _ _ _ _ _ _ _ _ _ _ _ _ _ _ _ _ hp => exact (IsPos.ne_free hp rfl).elim
  | tail0 _ E => exact .tail0 _ E
  | full _ b o cells n r => exact .full _ b o cells n (by rw [he]; exact r)
  | obj => simp [V.pure] at hx
  | osl => simp [V.pure] at hx
  | clo => simp [V.pure] at hx
  | agg => simp [V.pure] at hx
  | tup => simp [V.pure] at hx
  | mp => simp [V.pure] at hx
  | it => simp [V.pure] at hx

theorem alone_sit (hf : Fresh g w) (hg : GlobOk X w g) : Sit X w (g.alone w.heap.size) [] := by
  refine ⟨fun b hb => ⟨?_, (hf b hb).2⟩, ⟨rfl, fun id b h => by simp [Gh.alone] at h, fun id b o h => by simp [Gh.alone] at h⟩, hg.same rfl fun b hb _ => by simp only [Gh.alone]; rw [if_pos hb]⟩
  simp only [Gh.alone]
  rw [if_neg (by omega)]

theorem alone_low : Low X w (g.alone w.heap.size) 0 [] :=
  ⟨Nat.le_refl _, fun n hn _ id b o hid => by omega, fun id b hid => by omega⟩

/-- What is behind such a call. -/
theorem alone_own {g' : Gh} (l : Later (g.alone w.heap.size) w g' w') {b : Nat} (hb : b < w.heap.size) : w'.heap[b]? = w.heap[b]? ∧ g'.own b = .fgn ∧ g'.e b = g.e b :=
  l.fgn b (by simp only [Gh.alone]; rw [if_pos hb])

/-- The owners behind such a call: the result is at 'p'; the boxes have come to those that there were. -/
def Gh.back (g g' : Gh) (n k : Nat) (q p : Own) : Gh :=
  { μ := g.μ ++ g'.μ, e := g'.e, pin := g.pin,
    own := fun b => if b < n then g.own b else match g'.own b with
      | .obj id => .obj (k + id)
      | .cell id j => .cell (k + id) j
      | .slot t => if q = .slot t then p else .free
      | _ => .free }

theorem back_grow {g' : Gh} {k : Nat} {q p : Own} (l : Later (g.alone w.heap.size) w g' w') (hf : Fresh g' w') : Grow g w (g.back g' w.heap.size k q p) w' where
  os := l.os
  tape := l.tape
  output := l.output
  size := l.size
  block := fun b hb => (alone_own l hb).1
  own := fun b hb => by simp only [Gh.back]; rw [if_pos hb]
  e := fun b hb => (alone_own l hb).2.2
  μ := fun id b hb => by
    have := (List.getElem?_eq_some_iff.1 hb).1
    simp only [Gh.back]
    rw [List.getElem?_append_left this]
    exact hb
  pin := rfl
  fresh := fun b hb => by
    have h1 := hf b hb
    refine ⟨?_, h1.2⟩
    simp only [Gh.back]
    rw [if_neg (by have := l.size; omega), h1.1]

theorem shifts_get (n : Nat) (vs : List V) : ∀ j : Nat, (shifts n vs)[j]? = (vs[j]?).map (V.shift n) := by
  induction vs with
  | nil => intro j; simp [shifts]
  | cons v vs ih => intro j; cases j <;> simp [shifts, ih]
theorem shifts_length (n : Nat) (vs : List V) : (shifts n vs).length = vs.length := by
  induction vs with
  | nil => rfl
  | cons v vs ih => simp [shifts, ih]

/-- The same, where boxes have other numbers. -/
theorem RepV.renumber {n : Nat} (he : g2.e = g.e) (hμ : ∀ (id b : Nat), g.μ[id]? = some b → g2.μ[n + id]? = some b) {q : Own} {v : Value} {x : V} (r : RepV X w g q v x) : ∀ q2, (IsPos q → IsPos q2 ∧ ∀ b, g.own b = q → g2.own b = q2) → RepV X w g2 q2 v (x.shift n) := by
  have nf : IsPos Own.free → IsPos Own.free ∧ ∀ b, g.own b = .free → g2.own b = .free := fun hh => (hh.ne_free rfl).elim
  induction r with
  | d p v x r => intro q2 _; exact .d _ _ _ (by rw [he]; exact r)
  | tail p E cells m b c cur z vals hz hz0 hb hn hm hcur hcl hee ho hp hv hr =>
    intro q2 h
    obtain ⟨h1, h2⟩ := h hp
    exact .tail _ E cells m b c cur z vals hz hz0 hb hn hm hcur hcl (by rw [he]; exact hee) (h2 b ho) h1 hv fun j v d k1 k2 => by rw [he]; exact hr j v d k1 k2
  | tail0 _ E => intro q2 _; exact .tail0 _ E
  | full p b o cells n r => intro q2 _; exact .full _ b o cells n (by rw [he]; exact r)
  | obj p id off b r => intro q2 _; exact .obj _ _ off b (hμ _ _ r)
  | osl p id off n c b r hn => intro q2 _; exact .osl _ _ off n c b (hμ _ _ r) hn
  | clo p fn va vb a b hla hlb _ _ iha ihb =>
    intro q2 _
    refine .clo _ fn va vb _ _ (by rw [shifts_length]; exact hla) (by rw [shifts_length]; exact hlb) (fun j v x h1 h2 => ?_) (fun j v x h1 h2 => ?_)
    · rw [shifts_get] at h2
      cases hx : a[j]? with
      | none => rw [hx] at h2; cases h2
      | some x0 => rw [hx] at h2; cases h2; exact iha j v x0 h1 hx _ nf
    · rw [shifts_get] at h2
      cases hx : b[j]? with
      | none => rw [hx] at h2; cases h2
      | some x0 => rw [hx] at h2; cases h2; exact ihb j v x0 h1 hx _ nf
  | agg p vals vs hl _ ih =>
    intro q2 _
    refine .agg _ vals _ (by rw [shifts_length]; exact hl) (fun j v x h1 h2 => ?_)
    rw [shifts_get] at h2
    cases hx : vs[j]? with
    | none => rw [hx] at h2; cases h2
    | some x0 => rw [hx] at h2; cases h2; exact ih j v x0 h1 hx _ nf
  | tup p vals vs hl _ ih =>
    intro q2 _
    refine .tup _ vals _ (by rw [shifts_length]; exact hl) (fun j v x h1 h2 => ?_)
    rw [shifts_get] at h2
    cases hx : vs[j]? with
    | none => rw [hx] at h2; cases h2
    | some x0 => rw [hx] at h2; cases h2; exact ih j v x0 h1 hx _ nf
  | mp p id b r => intro q2 _; exact .mp _ _ b (hμ _ _ r)
  | it p id b r => intro q2 _; exact .it _ _ b (hμ _ _ r)

theorem shift_pure {n : Nat} {x : V} (h : x.pure = true) : x.shift n = x := by
  cases x <;> simp [V.pure] at h <;> rfl
end

end Go.Proofs.Ytaobccodpdmieaa.Pv
/- Pv: what a run on data says of the program's function. -/
set_option linter.unusedSimpArgs false
set_option linter.unusedVariables false
namespace Go.Proofs.Ytaobccodpdmieaa.Pv
open Go

section
variable {X : Ctx}

theorem runP_spec {call : CallF} {fuel : Nat} {f : FuncId} {args : List V} {y : V} {h' : List Ob} (hx : X.ext f = none) (h : runP X call fuel f args = some (y, h')) :
    ∃ fn c, X.P.funcs[f]? = some fn ∧ fn.body = some c ∧ (fn.name == "runtime.NumGoroutine") = false ∧ bodyOn X call fuel fn c (args.map V.copy) [] = some (y, h') := by
  unfold runP at h
  rw [hx] at h
  simp only at h
  split at h
  · cases h
  · rename_i fn hfn
    split at h
    · cases h
    · rename_i c hb
      split at h
      · cases h
      · rename_i hn
        exact ⟨fn, c, hfn, hb, by simpa using hn, h⟩

theorem pure_move {w : World} {g g2 : Gh} {q q2 : Own} {v : Value} {x : V} (r : RepV X w g q v x) (hx : x.pure = true) (he : g2.e = g.e) (h : IsPos q → IsPos q2 ∧ ∀ b, g.own b = q → g2.own b = q2) : RepV X w g2 q2 v x := by
  cases r with
  | d _ _ _ r => exact .d _ _ _ (by rw [he]; exact r)
  | tail _ E cells m b c cur z vals hz hz0 hb hn hm hcur hcl hee ho hp hv hr =>
    obtain ⟨h1, h2⟩ := h hp
    exact .tail _ E cells m b c cur z vals hz hz0 hb hn hm hcur hcl (by rw [he]; exact hee) (h2 b ho) h1 hv fun j v d k1 k2 => by rw [he]; exact hr j v d k1 k2
  | tail0 _ E => exact .tail0 _ E
  | full _ b o cells n r => exact .full _ b o cells n (by rw [he]; exact r)
  | obj => simp [V.pure] at hx
  | osl => simp [V.pure] at hx
  | clo => simp [V.pure] at hx
  | agg => simp [V.pure] at hx
  | tup => simp [V.pure] at hx
  | mp => simp [V.pure] at hx
  | it => simp [V.pure] at hx

theorem RepOb.renumber {w : World} {g g2 : Gh} {n : Nat} (he : g2.e = g.e) (hμ : ∀ (id b : Nat), g.μ[id]? = some b → g2.μ[n + id]? = some b) (ho : ∀ (b id j : Nat), g.own b = .cell id j → g2.own b = .cell (n + id) j) {id b : Nat} {o : Ob} (r : RepOb X w g id b o) : RepOb X w g2 (n + id) b (o.shift n) := by
  cases o with
  | cells vs =>
    obtain ⟨vals, T, h1, h2, h3, h4⟩ := r
    refine ⟨vals, T, h1, by rw [shifts_length]; exact h2, by rw [he]; exact h3, fun j v x k1 k2 => ?_⟩
    rw [shifts_get] at k2
    cases hx : vs[j]? with
    | none => rw [hx] at k2; cases k2
    | some x0 => rw [hx] at k2; cases k2; exact (h4 j v x0 k1 hx).renumber he hμ _ fun _ => ⟨⟨0, n + id, j, .inr rfl⟩, fun b hb => ho b id j hb⟩
  | frozen ds => obtain ⟨vals, T, h1, h2, h3, h4⟩ := r; exact ⟨vals, T, h1, h2, by rw [he]; exact h3, fun j v x k1 k2 => by rw [he]; exact h4 j v x k1 k2⟩
  | map es ck => obtain ⟨en, h1, h2, h3, h4⟩ := r; exact ⟨en, h1, h2, by rw [he]; exact h3, fun j v x k1 k2 => by rw [he]; exact h4 j v x k1 k2⟩
  | iter s pos => exact ⟨r.1, by rw [he]; exact r.2⟩

/-- The place of a result is a slot. -/
theorem slot_of {q : Own} (h : q = .free ∨ ∃ t, q = .slot t) (hp : IsPos q) : ∃ t, q = .slot t := by
  rcases h with rfl | h
  · exact (IsPos.ne_free hp rfl).elim
  · exact h

theorem callP_step {call : CallF} (hc : CallPOk X call) (hci : CallIOk X call) (hfz : ∀ t, X.frz t = false) {fuel : Nat} {f : FuncId} (hx : X.ext f = none) {args : List V} {y : V} {h' : List Ob} (hrun : runP X call fuel f args = some (y, h')) (hpure : args.all V.pure = true)
    {w : World} {g : Gh} {vargs : List Value} (hf : Fresh g w) (hg : GlobOk X w g) (hp : PtV X w g vargs args) {p : Own} (hpos : IsPos p) (k : Nat) :
    ∃ fn, X.P.funcs[f]? = some fn ∧ (fn.name == "runtime.NumGoroutine") = false ∧ ((∃ c, fn.body = some c) ∧ Calls X.P f ⟨vargs⟩ w fun E w' => ∃ v g' q, E = .returned v ∧ Later (g.alone w.heap.size) w g' w' ∧ Sit X w' g' h' ∧ RepV X w' g' q v y ∧ (IsPos q → IsPos p ∧ ∀ b, g'.own b = q → (g.back g' w.heap.size k q p).own b = p)) := by
  obtain ⟨fn, c, h1, h2, h3, h4⟩ := runP_spec hx hrun
  refine ⟨fn, h1, h3, ⟨c, h2⟩, body_sound (g := g.alone w.heap.size) hc hci hfz h1 h2 h4 (hp.pure hpure rfl) (alone_sit hf hg) alone_low fun v w' g' q l sit _ hr hq => ⟨v, g', q, rfl, l, sit, hr, fun hqp => ⟨hpos, fun b hb => ?_⟩⟩⟩
  obtain ⟨t, rfl⟩ := slot_of hq hqp
  have hnew : ¬ b < w.heap.size := fun hlt => by
    have := (alone_own l hlt).2.1
    rw [hb] at this
    cases this
  simp only [Gh.back]
  rw [if_neg hnew, hb]
  simp

/-- What such functions answer is plain. -/
def ExtPure (X : Ctx) : Prop := ∀ f F, X.ext f = some F → ∀ ds y, F ds = some y → y.pure = true
/-- What is asked of functions that are not run. -/
def ExtOk (X : Ctx) : Prop :=
  ∀ f F, X.ext f = some F → ∀ ds y, F ds = some y → ∀ (w : World) (g : Gh) (vargs : List Value), Fresh g w → GlobOk X w g → PtD w g.e vargs ds → ∀ p, IsPos p →
    ∃ fn, X.P.funcs[f]? = some fn ∧ (fn.name == "runtime.NumGoroutine") = false ∧ ((∃ c, fn.body = some c) ∧ Calls X.P f ⟨vargs⟩ w fun E w' => ∃ v g', E = .returned v ∧ Keep g w g' w' ∧ RepV X w' g' p v y)

/-- What is asked of functions on boxes that are not run. -/
def ExtIOk (X : Ctx) : Prop :=
  ∀ f F, X.exti f = some F → ∀ args h y h', F args h = some (y, h') → h'.length = h.length → ∀ (w : World) (g : Gh) (vargs : List Value), Sit X w g h → PtV X w g vargs args → ∀ p, IsPos p →
    ∃ fn, X.P.funcs[f]? = some fn ∧ (fn.name == "runtime.NumGoroutine") = false ∧ ((∃ c, fn.body = some c) ∧ Calls X.P f ⟨vargs⟩ w fun E w' => ∃ v g', E = .returned v ∧ Later g w g' w' ∧ Sit X w' g' h' ∧ RepV X w' g' p v y ∧
      (∀ (id b : Nat), g.μ[id]? = some b → g'.μ[id]? = some b) ∧ (∀ (b t : Nat), g.own b = .slot t → w'.heap[b]? = w.heap[b]? ∧ g'.own b = .slot t ∧ g'.e b = g.e b) ∧ ∀ base, Low X w g base h → Low X w' g' base h')

theorem runP_ext {call : CallF} {fuel : Nat} {f : FuncId} {args : List V} {y : V} {h' : List Ob} {F : List D → Option V} (hx : X.ext f = some F) (h : runP X call fuel f args = some (y, h')) : ∃ ds, toDs args = some ds ∧ F ds = some y ∧ h' = [] := by
  unfold runP at h
  rw [hx] at h
  simp only at h
  split at h
  · rename_i ds hds
    cases hF : F ds with
    | none => simp [hF] at h
    | some v => simp [hF] at h; exact ⟨ds, hds, by rw [hF, h.1], h.2⟩
  · cases h

theorem callN_ok (hfz : ∀ t, X.frz t = false) (hx : ExtOk X) (hxp : ExtPure X) (hxi : ExtIOk X) (fuel : Nat) : ∀ k, CallPOk X (callN X fuel k) ∧ CallIOk X (callN X fuel k) := by
  intro k
  induction k with
  | zero => exact ⟨fun f args x h => by simp [callN] at h, fun f args h y h' hh => by simp [callN] at hh⟩
  | succ k ih =>
    obtain ⟨hc, hci⟩ := ih
    constructor
    · intro f args x hcall hpure w g vargs hf hg hp p hpos
      simp only [callN] at hcall
      split at hcall
      · rename_i v h1 hrun
        split at hcall
        · rename_i hv
          simp at hcall
          subst hcall
          cases hxf : X.ext f with
          | some F =>
            obtain ⟨ds, e1, e2, rfl⟩ := runP_ext hxf hrun
            exact hx f F hxf ds v e2 w g vargs hf hg (hp.toDs e1) p hpos
          | none =>
          obtain ⟨fn, k1, k2, k3, k4⟩ := callP_step hc hci hfz hxf hrun hpure hf hg hp hpos 0
          refine ⟨fn, k1, k2, k3, k4.mono ?_⟩
          rintro E w' ⟨u, g', q, rfl, l, sit, hr, hq⟩
          have gr := back_grow (k := 0) (q := q) (p := p) l sit.fresh
          refine ⟨u, { g.back g' w.heap.size 0 q p with μ := g.μ }, rfl, ⟨⟨gr.os, gr.tape, gr.output, gr.size, gr.block, gr.own, gr.e, fun _ _ h => h, rfl, gr.fresh⟩, rfl⟩, ?_⟩
          exact pure_move hr hv rfl fun hqp => ⟨(hq hqp).1, (hq hqp).2⟩
        · cases hcall
      · cases hcall
    · intro f args h y h' hcall w g vargs sit hp p hpos
      simp only [callN] at hcall
      split at hcall
      · rename_i hpure
        split at hcall
        · rename_i v h1 hrun
          simp at hcall
          obtain ⟨rfl, rfl⟩ := hcall
          cases hxf : X.ext f with
          | some F =>
            obtain ⟨ds, e1, e2, rfl⟩ := runP_ext hxf hrun
            obtain ⟨fn, k1, k2, k3, k4⟩ := hx f F hxf ds v e2 w g vargs sit.fresh sit.glob (hp.toDs e1) p hpos
            refine ⟨fn, k1, k2, k3, k4.mono ?_⟩
            rintro E w' ⟨u, g', rfl, hk, hr⟩
            have hvs : RepV X w' g' p u (v.shift h.length) := by
              cases hr with
              | d _ _ _ r => exact .d _ _ _ r
              | tail _ E cells m b c cur z vals hz hz0 hb hn hm hcur hcl hee ho hp hv hr => exact .tail _ E cells m b c cur z vals hz hz0 hb hn hm hcur hcl hee ho hp hv hr
              | tail0 _ E => exact .tail0 _ E
              | full _ b o cells n r => exact .full _ b o cells n r
              | _ => exact absurd (hxp f F hxf ds _ e2) (by simp [V.pure])
            refine ⟨u, g', rfl, hk.later sit.fresh, ⟨hk.fresh, by simpa using hk.repH sit.fresh sit.heap, sit.glob.grow hk.toGrow sit.fresh⟩, hvs, hk.μ, fun b t hb => ?_, fun base hlow => ?_⟩
            · have hlt : b < w.heap.size := by
                apply Classical.byContradiction; intro hn
                rw [(sit.fresh b (by omega)).1] at hb
                cases hb
              exact ⟨hk.block b hlt, (hk.own b hlt).trans hb, hk.e b hlt⟩
            · refine hlow.grow sit.fresh hk.toGrow sit.heap.len (fun id o hid ho => ?_) (by simp)
              simpa using ho
          | none =>
          obtain ⟨fn, k1, k2, k3, k4⟩ := callP_step hc hci hfz hxf hrun hpure sit.fresh sit.glob hp hpos h.length
          refine ⟨fn, k1, k2, k3, k4.mono ?_⟩
          rintro E w' ⟨u, g', q, rfl, l, sit', hr, hq⟩
          have gr := back_grow (k := h.length) (q := q) (p := p) l sit'.fresh
          have hμ : ∀ (id b : Nat), g'.μ[id]? = some b → (g.back g' w.heap.size h.length q p).μ[h.length + id]? = some b := by
            intro id b hb
            simp only [Gh.back]
            rw [List.getElem?_append_right (by rw [sit.heap.len]; omega), sit.heap.len]
            rw [show h.length + id - h.length = id by omega]
            exact hb
          have hnew : ∀ b, g'.own b ≠ .fgn → ¬ b < w.heap.size := fun b hb hlt => hb (alone_own l hlt).2.1
          have hcell : ∀ (b id j : Nat), g'.own b = .cell id j → (g.back g' w.heap.size h.length q p).own b = .cell (h.length + id) j := by
            intro b id j hb
            simp only [Gh.back]
            rw [if_neg (hnew b (by rw [hb]; simp)), hb]
          have hsplit : ∀ (id : Nat) (b : Nat), (g.back g' w.heap.size h.length q p).μ[id]? = some b → (id < h.length ∧ g.μ[id]? = some b) ∨ ∃ i, id = h.length + i ∧ g'.μ[i]? = some b := by
            intro id b hb
            simp only [Gh.back] at hb
            by_cases hid : id < h.length
            · rw [List.getElem?_append_left (by rw [sit.heap.len]; exact hid)] at hb
              exact .inl ⟨hid, hb⟩
            · rw [List.getElem?_append_right (by rw [sit.heap.len]; omega), sit.heap.len] at hb
              exact .inr ⟨id - h.length, by omega, hb⟩
          refine ⟨u, g.back g' w.heap.size h.length q p, rfl, gr.later sit.fresh, ⟨gr.fresh, ⟨?_, fun id b hb => ?_, fun id b o hb ho => ?_⟩, sit.glob.grow gr sit.fresh⟩, hr.renumber (g := g') (g2 := g.back g' w.heap.size h.length q p) rfl hμ _ (fun hqp => ⟨(hq hqp).1, (hq hqp).2⟩), gr.μ, fun b t hb => ?_, fun base hlow => ?_⟩
          · simp [Gh.back, sit.heap.len, sit'.heap.len]
          · rcases hsplit id b hb with ⟨hid, hb⟩ | ⟨i, rfl, hb'⟩
            · rw [gr.own b (sit.heap.lt hb)]
              exact sit.heap.own id b hb
            · have ho := sit'.heap.own i b hb'
              simp only [Gh.back]
              rw [if_neg (hnew b (by rw [ho]; simp)), ho]
          · rcases hsplit id b hb with ⟨hid, hb⟩ | ⟨i, rfl, hb'⟩
            · rw [List.getElem?_append_left hid] at ho
              exact gr.repOb sit.fresh (sit.heap.ob id b o hb ho)
            · rw [List.getElem?_append_right (by omega), show h.length + i - h.length = i by omega, List.getElem?_map] at ho
              cases ho1 : h1[i]? with
              | none => rw [ho1] at ho; cases ho
              | some o1 =>
                rw [ho1] at ho
                cases ho
                exact (sit'.heap.ob i b o1 hb' ho1).renumber (g := g') (g2 := g.back g' w.heap.size h.length q p) rfl hμ hcell
          · have hlt : b < w.heap.size := by
              apply Classical.byContradiction; intro hn
              rw [(sit.fresh b (by omega)).1] at hb
              cases hb
            exact ⟨gr.block b hlt, (gr.own b hlt).trans hb, gr.e b hlt⟩
          · refine hlow.grow sit.fresh gr sit.heap.len (fun id o hid ho => ?_) (by simp)
            rw [List.getElem?_append_left (Nat.lt_of_lt_of_le hid hlow.1)] at ho
            exact ho
        · cases hcall
      · -- on the boxes that there are
        unfold runI at hcall
        cases hxo : xiOf X f args h with
        | some o =>
          rw [hxo] at hcall
          simp only at hcall
          subst hcall
          unfold xiOf at hxo
          split at hxo
          · cases hxo
          · split at hxo
            · cases hxo
            · rename_i F hF
              simp only [Option.some.injEq] at hxo
              split at hxo
              · rename_i v0 h0 hv0
                split at hxo
                · rename_i hvl
                  simp only [Option.some.injEq, Prod.mk.injEq] at hxo
                  obtain ⟨rfl, rfl⟩ := hxo
                  simp only [Bool.and_eq_true, beq_iff_eq] at hvl
                  exact hxi f F hF args h _ _ hv0 hvl.2 w g vargs sit hp p hpos
                · cases hxo
              · cases hxo
        | none =>
        rw [hxo] at hcall
        simp only at hcall
        split at hcall
        · cases hcall
        · rename_i fn hfn
          split at hcall
          · cases hcall
          · rename_i c hb
            split at hcall
            · cases hcall
            · rename_i hn
              simp only [Bool.or_eq_true, not_or, Bool.not_eq_true] at hn
              split at hcall
              · rename_i y1 h1 hbody
                let g0 : Gh := { g with own := fun b => match g.own b with | .slot _ => .fgn | o => o, pin := ⟨g.μ, fun n => Elder X w g n h⟩ }
                have o1 : ∀ b t, g.own b = .slot t → g0.own b = .fgn := fun b t hb => by simp only [g0, hb]
                have o2 : ∀ b, (∀ t, g.own b ≠ .slot t) → g0.own b = g.own b := fun b hb => by
                  show (match g.own b with | .slot _ => Own.fgn | o => o) = g.own b
                  split
                  · rename_i t ho; exact (hb t ho).elim
                  · rfl
                have o3 : ∀ (b id j : Nat), g.own b = .cell id j → g0.own b = .cell id j := fun b id j hb => (o2 b (by rw [hb]; simp)).trans hb
                have e0 : g0.e = g.e := rfl
                have μ0 : g0.μ = g.μ := rfl
                have hobs : ∀ (id b : Nat) (o : Ob), g.μ[id]? = some b → h[id]? = some o → RepOb X w g0 id b o := fun id b o hb ho => (sit.heap.ob id b o hb ho).reown (g2 := g0) e0 (fun _ _ h => h) o3
                have sit0 : Sit X w g0 h := by
                  refine ⟨fun b hb => ⟨?_, (sit.fresh b hb).2⟩, ⟨sit.heap.len, fun id b hb => ?_, fun id b o hb ho => hobs id b o hb ho⟩, sit.glob.same e0 fun b _ hb => (o2 b (by rw [hb]; simp)).trans hb⟩
                  · rw [o2 b (by rw [(sit.fresh b hb).1]; simp)]; exact (sit.fresh b hb).1
                  · have := sit.heap.own id b hb
                    rw [o2 b (by rw [this]; simp)]; exact this
                have low0 : Low X w g0 h.length h := by
                  refine ⟨Nat.le_refl _, fun n hn hel id b o hid hb ho => ?_, fun id b hid hb => hb⟩
                  rcases hel with rfl | hel
                  · refine (hobs id b o hb ho).reown (g := g0) (g2 := g0.trunc h.length) rfl (fun i b' hi => ?_) (fun _ _ _ h => h)
                    refine trunc_put ?_ hi
                    have := (List.getElem?_eq_some_iff.1 hi).1
                    rw [μ0, sit.heap.len] at this
                    exact this
                  · exact (hel id b o hid hb ho).reown (g := g.trunc n) (g2 := g0.trunc n) rfl (fun _ _ h => h) o3
                have hp0 : PtV X w g0 vargs args := ⟨hp.1, fun j v x k1 k2 => (hp.2 j v x k1 k2).reownFree (g2 := g0) e0 fun _ _ h => h⟩
                refine ⟨fn, hfn, hn.1, ⟨c, hb⟩, body_sound hc hci hfz hfn hb hbody hp0 sit0 low0 fun v w' g' q l sit' low' hr hq => ?_⟩
                -- the owners behind it
                let g2 : Gh := { μ := g'.μ, e := g'.e, pin := g.pin, own := fun b => match g.own b with | .slot t => .slot t | _ => match g'.own b with | .slot t => if q = .slot t then p else .free | o => o }
                have hfgn : ∀ b t, g.own b = .slot t → w'.heap[b]? = w.heap[b]? ∧ g'.own b = .fgn ∧ g'.e b = g.e b := fun b t hb => l.fgn b (o1 b t hb)
                have s1 : ∀ b t, g.own b = .slot t → g2.own b = .slot t := fun b t hb => by simp only [g2, hb]
                have ns : ∀ b, g'.own b ≠ .fgn → ∀ t, g.own b ≠ .slot t := fun b hb t ht => hb (hfgn b t ht).2.1
                have s2 : ∀ b, (∀ t, g.own b ≠ .slot t) → (∀ t, g'.own b ≠ .slot t) → g2.own b = g'.own b := fun b h1 h2 => by
                  show (match g.own b with | .slot t => Own.slot t | _ => match g'.own b with | .slot t => if q = .slot t then p else .free | o => o) = g'.own b
                  split
                  · rename_i t ho; exact (h1 t ho).elim
                  · split
                    · rename_i t ho; exact (h2 t ho).elim
                    · rfl
                have hcell : ∀ (b id j : Nat), g'.own b = .cell id j → g2.own b = .cell id j := fun b id j hb => (s2 b (ns b (by rw [hb]; simp)) (by rw [hb]; simp)).trans hb
                have hq2 : IsPos q → IsPos p ∧ ∀ b, g'.own b = q → g2.own b = p := by
                  intro hqp
                  refine ⟨hpos, fun b hb => ?_⟩
                  obtain ⟨t, rfl⟩ := slot_of hq hqp
                  simp only [g2]
                  cases ho : g.own b with
                  | slot t' => exact (ns b (by rw [hb]; simp) t' ho).elim
                  | _ => simp [hb]
                have hfgn2 : ∀ b, g.own b = .fgn → w'.heap[b]? = w.heap[b]? ∧ g2.own b = .fgn ∧ g'.e b = g.e b := by
                  intro b hb
                  have h0 : g0.own b = .fgn := (o2 b (by rw [hb]; simp)).trans hb
                  obtain ⟨k1, k2, k3⟩ := l.fgn b h0
                  exact ⟨k1, (s2 b (by rw [hb]; simp) (by rw [k2]; simp)).trans k2, k3⟩
                have l2 : Later g w g2 w' := ⟨l.os, l.tape, l.output, l.size, l.cells, l.e, hfgn2, rfl⟩
                have hμ2 : ∀ (id b : Nat), g.μ[id]? = some b → g'.μ[id]? = some b := by
                  intro id b hb
                  refine low'.2.2 id b ?_ (by rw [l.pin]; exact hb)
                  have := (List.getElem?_eq_some_iff.1 hb).1
                  rw [sit.heap.len] at this
                  exact this
                have hobs2 : ∀ (id b : Nat) (o : Ob), g'.μ[id]? = some b → h1[id]? = some o → RepOb X w' g2 id b o := fun id b o hb ho => (sit'.heap.ob id b o hb ho).reown (g := g') (g2 := g2) rfl (fun _ _ h => h) hcell
                have fr2 : Fresh g2 w' := fun b hb => by
                  have k1 := sit'.fresh b hb
                  refine ⟨?_, k1.2⟩
                  have k2 := (sit.fresh b (by have := l.size; omega)).1
                  rw [s2 b (by rw [k2]; simp) (by rw [k1.1]; simp)]
                  exact k1.1
                have sit2 : Sit X w' g2 h1 := by
                  refine ⟨fr2, ⟨sit'.heap.len, fun id b hb => ?_, hobs2⟩, sit.glob.later l2⟩
                  have := sit'.heap.own id b hb
                  rw [s2 b (ns b (by rw [this]; simp)) (by rw [this]; simp)]
                  exact this
                have hr2 : RepV X w' g2 p v y1 := hr.reown (g := g') (g2 := g2) rfl (fun _ _ h => h) p hq2
                have hslots : ∀ (b t : Nat), g.own b = .slot t → w'.heap[b]? = w.heap[b]? ∧ g2.own b = .slot t ∧ g2.e b = g.e b := fun b t hb => ⟨(hfgn b t hb).1, s1 b t hb, (hfgn b t hb).2.2⟩
                have hlow2 : ∀ base, Low X w g base h → Low X w' g2 base h1 := by
                  intro base hl
                  refine ⟨Nat.le_trans hl.1 low'.1, fun n hn hel id b o hid hb ho => ?_, fun id b hid hb => hμ2 id b (hl.2.2 id b hid hb)⟩
                  have hold : Elder X w g n h := hl.2.1 n hn hel
                  have := low'.2.1 n (Nat.le_trans hn hl.1) (.inr (by rw [l.pin]; exact hold)) id b o hid hb ho
                  exact this.reown (g := g'.trunc n) (g2 := g2.trunc n) rfl (fun _ _ h => h) hcell
                split at hcall
                · rename_i hv
                  simp at hcall
                  obtain ⟨rfl, rfl⟩ := hcall
                  -- its own boxes are forgotten
                  have len' : (h1.take h.length).length = h.length := by rw [List.length_take]; have := low'.1; omega
                  refine ⟨v, g2.trunc h.length, rfl, ⟨l2.os, l2.tape, l2.output, l2.size, l2.cells, l2.e, l2.fgn, rfl⟩, ⟨fr2, ⟨?_, fun id b hb => sit2.heap.own id b (trunc_get hb).2, fun id b o hb ho => ?_⟩, sit2.glob⟩, pure_move hr2 hv rfl (fun hqp => ⟨hqp, fun _ h => h⟩), fun id b hb => ?_, hslots, fun base hl => ?_⟩
                  · simp only [Gh.trunc, List.length_take, sit2.heap.len]
                  · obtain ⟨k1, k2⟩ := trunc_get hb
                    rw [List.getElem?_take, if_pos k1] at ho
                    exact (low'.2.1 h.length (Nat.le_refl _) (.inl rfl) id b o k1 k2 ho).reown (g := g'.trunc h.length) (g2 := g2.trunc h.length) rfl (fun _ _ h => h) hcell
                  · refine trunc_put ?_ (hμ2 id b hb)
                    have := (List.getElem?_eq_some_iff.1 hb).1
                    rw [sit.heap.len] at this
                    exact this
                  · have hl2 := hlow2 base hl
                    refine ⟨by rw [len']; exact hl.1, fun n hn hel id b o hid hb ho => ?_, fun id b hid hb => trunc_put (Nat.lt_of_lt_of_le hid hl.1) (hl2.2.2 id b hid hb)⟩
                    have k1 : id < h.length := Nat.lt_of_lt_of_le (Nat.lt_of_lt_of_le hid hn) hl.1
                    rw [List.getElem?_take, if_pos k1] at ho
                    have := hl2.2.1 n hn hel id b o hid (trunc_get hb).2 ho
                    have he : (g2.trunc h.length).trunc n = g2.trunc n := by
                      simp only [Gh.trunc, List.take_take, Nat.min_eq_left (Nat.le_trans hn hl.1)]
                    rw [he]
                    exact this
                · simp at hcall
                  obtain ⟨rfl, rfl⟩ := hcall
                  exact ⟨v, g2, rfl, l2, sit2, hr2, hμ2, hslots, hlow2⟩
              · cases hcall
end

end Go.Proofs.Ytaobccodpdmieaa.Pv
/- Pv: runs on what is not known, one path at a time. What is told ahead (oracles, each with the number of its event) is handed back as a list of facts of the callee. -/
set_option linter.unusedSimpArgs false
set_option linter.unusedVariables false
namespace Go.Proofs.Ytaobccodpdmieaa.Pv
open Go

def callNone : CallF := ⟨fun _ _ => none, fun _ _ _ => none⟩

/-- It looks at no call. -/
theorem valOp_nocall {X : Ctx} {call : CallF} {ρ : Operand → V} {h : List Ob} {o : Oper} {v : V} (hv : valOp X callNone ρ h o = some v) : valOp X call ρ h o = some v := by
  unfold valOp at hv ⊢
  cases hop : o.op <;> simp only [hop] at hv ⊢ <;> try exact hv
  rename_i c
  cases hc : c.callee with
  | value f =>
    simp only [hc] at hv
    split at hv
    · split at hv
      · simp [callNone] at hv
      · cases hv
    · cases hv
  | invoke r m => simp [hc] at hv
  | builtin b => cases b <;> simp only [hc] at hv ⊢ <;> exact hv

theorem stepOp_nocall {X : Ctx} {call : CallF} {base : Nat} {o : Oper} {st st' : St} (ho : (∀ c f, o.op = .call c → c.callee ≠ .value f)) (h : stepOp X callNone base o st = some st') : stepOp X call base o st = some st' := by
  unfold stepOp at h ⊢
  have hv : valOp X call (st.get X) st.h o = valOp X callNone (st.get X) st.h o := by
    unfold valOp
    cases hop : o.op <;> try rfl
    rename_i c
    cases hc : c.callee with
    | value f => exact (ho c _ hop hc).elim
    | invoke r m => simp only [hc]
    | builtin b => cases b <;> simp only [hc]
  rw [hv]
  split
  · rename_i v hvv
    rw [hvv] at h
    exact h
  · rename_i hvv
    rw [hvv] at h
    simp only at h ⊢
    cases hop : o.op <;> simp only [hop] at h ⊢ <;> try exact h
    rename_i c
    cases hc : c.callee with
    | value f => exact (ho c _ hop hc).elim
    | invoke r m => simp [hc] at h
    | builtin b => cases b <;> simp only [hc] at h ⊢ <;> first | exact h | cases h

end Go.Proofs.Ytaobccodpdmieaa.Pv
namespace Go.Proofs.Ytaobccodpdmieaa.Pv.G
open Go Pv

abbrev Fact := CallF → Prop

/-- What is told: which way; what an operation comes to; what an impure call answers; where a loop ends. -/
inductive What where
  | b (x : Bool)
  | v (x : V)
  | c (x : V) (h : List Ob)
  | l (e : Ex) (st : St)

/-- 'ask': stop at each event. -/
structure T where
  n : Nat
  ask : Bool
  os : List (Nat × What)
  cs : List Fact

/-- What is asked for at a stop. -/
inductive Info where
  | b (v : V)
  | v (x : Option V)
  | load (t : TypeId) (p : V) (h : List Ob)
  | iaddr (t : TypeId) (x i : V)
  | index (t : TypeId) (x i : V)
  | slice (t : TypeId) (x : V) (lo hi mx : Option V)
  | field (t : TypeId) (x : V) (f : Nat)
  | bin (op : BinOp) (t : TypeId) (x y : V)
  | append (t u : TypeId) (s x : V)
  | conv (s t : TypeId) (x : V)
  | look (t : TypeId) (es : Option (List (D × D))) (k : V) (ok : Bool)
  | call (f : FuncId) (args : List V)
  | calli (f : FuncId) (args : List V) (h : List Ob)
  | l (base N : Nat) (keep : List Nat) (b : AC) (st : St)

inductive Out (α : Type) where
  | ok (a : α) (t : T)
  | stop (i : Info) (n : Nat) (k : Option What → Out α)
  | bad (why n : Nat)

def Out.bind {α β : Type} (o : Out α) (f : α → T → Out β) : Out β :=
  match o with
  | .ok a t => f a t
  | .stop i n k => .stop i n fun w => (k w).bind f
  | .bad w n => .bad w n

theorem Out.bind_ok {α β : Type} {o : Out α} {f : α → T → Out β} {b : β} {t' : T} (h : o.bind f = .ok b t') : ∃ a t, o = .ok a t ∧ f a t = .ok b t' := by
  cases o with
  | ok a t => exact ⟨a, t, rfl, h⟩
  | _ => simp [Out.bind] at h

def T.next (t : T) : T := { n := t.n + 1, ask := t.ask, os := t.os, cs := t.cs }
def T.add (t : T) (c : Fact) : T := { n := t.n, ask := t.ask, os := t.os, cs := c :: t.cs }
/-- Is anything told of this event? -/
def T.told (t : T) : Option (What × T) :=
  match t.os with
  | (m, w) :: os => if m == t.n then some (w, { n := t.n + 1, ask := t.ask, os := os, cs := t.cs }) else none
  | [] => none

def All (Q : Fact → Prop) : List Fact → Prop
  | [] => True
  | c :: cs => Q c ∧ All Q cs

/-- An event. -/
def ev {α : Type} (t : T) (i : Info) (dflt : T → Out α) (use : What → T → Out α) : Out α :=
  match t.told with
  | some (w, t') => use w t'
  | none => if t.ask then .stop i t.n fun
      | none => dflt t.next
      | some w => use w t.next
    else dflt t.next

theorem ev_ok {α : Type} {t t'' : T} {i : Info} {dflt : T → Out α} {use : What → T → Out α} {a : α} (h : ev t i dflt use = .ok a t'') : (∃ w t', t'.cs = t.cs ∧ use w t' = .ok a t'') ∨ (∃ t', t'.cs = t.cs ∧ dflt t' = .ok a t'') := by
  unfold ev at h
  split at h
  · rename_i w t' ht
    refine .inl ⟨w, t', ?_, h⟩
    unfold T.told at ht
    split at ht
    · split at ht
      · simp only [Option.some.injEq, Prod.mk.injEq] at ht; rw [← ht.2]
      · cases ht
    · cases ht
  · split at h
    · cases h
    · exact .inr ⟨t.next, rfl, h⟩

section
variable {call : CallF} {Q : Fact → Prop} (hQ : ∀ c, Q c → c call)

/-- Which way? -/
def boolG (v : V) (t : T) : Out Bool :=
  ev t (.b v)
    (fun t => match v with
      | .d (.bool b) => match b with
        | true => .ok true t
        | false => .ok false t
      | _ => .bad 3 t.n)
    (fun w t => match w with
      | .b x => match v with
        | .d (.bool b) => .ok x (t.add fun _ => b = x)
        | _ => .bad 1 t.n
      | _ => .bad 2 t.n)

include hQ in
theorem boolG_sound {v : V} {t t' : T} {x : Bool} (h : boolG v t = .ok x t') (hc : All Q t'.cs) : v = .d (.bool x) ∧ All Q t.cs := by
  unfold boolG at h
  rcases ev_ok h with ⟨w, t1, ht, h⟩ | ⟨t1, ht, h⟩
  · split at h
    · split at h
      · simp only [Out.ok.injEq] at h
        obtain ⟨rfl, rfl⟩ := h
        simp only [T.add] at hc
        exact ⟨by rw [hQ _ hc.1], by rw [← ht]; exact hc.2⟩
      · cases h
    · cases h
  · split at h
    · split at h <;>
      · simp only [Out.ok.injEq] at h
        obtain ⟨rfl, rfl⟩ := h
        exact ⟨rfl, by rw [← ht]; exact hc⟩
    · cases h

/-- A callee's body on arguments and boxes. -/
abbrev CallG := FuncId → List V → List Ob → T → Out (V × List Ob)

/-- How a call is the run of a body. -/
structure CallOf (call : CallF) (B : FuncId → List V → List Ob → Option (V × List Ob)) : Prop where
  p : ∀ g args v h', args.all V.pure = true → B g args [] = some (v, h') → v.pure = true → call.p g args = some v
  q : ∀ g args v h', args.all V.pure = true → B g args [] = some (v, h') → v.pure = false → call.p g args = none ∧ ∀ h, call.i g args h = some (v.shift h.length, h ++ h'.map (Ob.shift h.length))
  i : ∀ g args v h h', args.all V.pure = false → B g args h = some (v, h') → call.i g args h = some (if v.pure then (v, h'.take h.length) else (v, h'))

def calleeG (ρ : Operand → V) (o : Oper) : Option (FuncId × List V) :=
  match o.op with
  | .call c => match c.callee with
    | .value f => match calleeOf (ρ f) with
      | some (g, a, b) => some (g, a ++ copies ρ c.args ++ b)
      | none => none
    | _ => none
  | _ => none

def isCall (o : Oper) : Bool :=
  match o.op with
  | .call c => match c.callee with
    | .value _ => true
    | _ => false
  | _ => false

theorem calleeG_val {X : Ctx} {ρ : Operand → V} {h : List Ob} {o : Oper} {g : FuncId} {args : List V} (hc : calleeG ρ o = some (g, args)) : valOp X call ρ h o = if args.all V.pure then call.p g args else none := by
  unfold calleeG at hc
  split at hc
  · rename_i c hop
    split at hc
    · rename_i f hf
      split at hc
      · rename_i g' a b hce
        simp only [Option.some.injEq, Prod.mk.injEq] at hc
        obtain ⟨rfl, rfl⟩ := hc
        unfold valOp
        rw [hop]
        simp only [hf, hce]
      · cases hc
    · cases hc
  · cases hc

theorem calleeG_step {X : Ctx} {base : Nat} {o : Oper} {st : St} {g : FuncId} {args : List V} (hc : calleeG (st.get X) o = some (g, args)) (hn : valOp X call (st.get X) st.h o = none) :
    stepOp X call base o st = (call.i g args st.h).map fun r => { s := st.s, h := r.2, og := [] : St }.put o.dst r.1 := by
  unfold calleeG at hc
  split at hc
  · rename_i c hop
    split at hc
    · rename_i f hf
      split at hc
      · rename_i g' a b hce
        simp only [Option.some.injEq, Prod.mk.injEq] at hc
        obtain ⟨rfl, rfl⟩ := hc
        unfold stepOp
        rw [hn]
        simp only [hop, hf, hce]
      · cases hc
    · cases hc
  · cases hc

/- The same by the operands' values. -/
def one1 (a : V) : Operand → V := fun _ => a
def two2 (a b : V) : Operand → V
  | .tmp 0 => a
  | _ => b
def four4 (a b c d : V) : Operand → V
  | .tmp 0 => a
  | .tmp 1 => b
  | .tmp 2 => c
  | _ => d
def loadV (X : Ctx) (h : List Ob) (t : TypeId) (p : V) : Option V := loadOp X (one1 p) h t (.tmp 0)
def iaddrV (X : Ctx) (t : TypeId) (x i : V) : Option V := indexAddrOp X (two2 x i) t (.tmp 0) (.tmp 1)
def indexV (X : Ctx) (t : TypeId) (x i : V) : Option V :=
  match X.P.underlying t, x, i with
  | some (.array n e), .d (.agg cs), .d (.int _ k) =>
    match sizeT X.P e with
    | some z => if 0 ≤ k ∧ k < n then (partD X.P e cs (k.toNat * z)).map .d else none
    | none => none
  | some .string, .d (.str s), .d (.int _ k) =>
    if 0 ≤ k then (s[k.toNat]?).map fun b => .d (.int .u8 b.toNat) else none
  | _, _, _ => none
def sliceV (X : Ctx) (t : TypeId) (x : V) (lo hi mx : Option V) : Option V :=
  sliceOp X (four4 x (lo.getD und) (hi.getD und) (mx.getD und)) t (.tmp 0) (lo.map fun _ => .tmp 1) (hi.map fun _ => .tmp 2) (mx.map fun _ => .tmp 3)
def fieldV (X : Ctx) (t : TypeId) (x : V) (f : Nat) : Option V :=
  match fieldT X.P t f, x with
  | some (off, ft), .d (.agg cs) => (partD X.P ft cs off).map .d
  | some (off, ft), .agg vs => partV X.P ft vs off
  | _, _ => none

theorem sliceV_eq {X : Ctx} {ρ : Operand → V} {t : TypeId} {x : Operand} {lo hi mx : Option Operand} : sliceV X t (ρ x) (lo.map ρ) (hi.map ρ) (mx.map ρ) = sliceOp X ρ t x lo hi mx := by
  unfold sliceV sliceOp
  have b0 : four4 (ρ x) ((lo.map ρ).getD und) ((hi.map ρ).getD und) ((mx.map ρ).getD und) (.tmp 0) = ρ x := rfl
  have b1 : ∀ n, boundOf (four4 (ρ x) ((lo.map ρ).getD und) ((hi.map ρ).getD und) ((mx.map ρ).getD und)) n ((lo.map ρ).map fun _ => Operand.tmp 1) = boundOf ρ n lo := fun n => by cases lo <;> rfl
  have b2 : ∀ n, boundOf (four4 (ρ x) ((lo.map ρ).getD und) ((hi.map ρ).getD und) ((mx.map ρ).getD und)) n ((hi.map ρ).map fun _ => Operand.tmp 2) = boundOf ρ n hi := fun n => by cases hi <;> rfl
  have b3 : ∀ n, boundOf (four4 (ρ x) ((lo.map ρ).getD und) ((hi.map ρ).getD und) ((mx.map ρ).getD und)) n ((mx.map ρ).map fun _ => Operand.tmp 3) = boundOf ρ n mx := fun n => by cases mx <;> rfl
  have c2 : ((hi.map ρ).map fun _ => Operand.tmp 2).isSome = hi.isSome := by cases hi <;> rfl
  have c3 : ((mx.map ρ).map fun _ => Operand.tmp 3).isSome = mx.isSome := by cases mx <;> rfl
  have c4 : ((mx.map ρ).map fun _ => Operand.tmp 3).isNone = mx.isNone := by cases mx <;> rfl
  simp only [b0, b1, b2, b3, c2, c3, c4]
  cases mx with
  | none => rfl
  | some m => simp only [Option.map_some]; rfl

/-- Two operands' values. -/
def binV (X : Ctx) (op : BinOp) (t : TypeId) (x y : V) : Option V := valOp X callNone (two2 x y) [] ⟨none, .binOp op t (.tmp 0) (.tmp 1) t, t, "", #[], none⟩

theorem binV_eq {X : Ctx} {ρ : Operand → V} {h : List Ob} {o : Oper} {op : BinOp} {t u : TypeId} {x y : Operand} (ho : o.op = .binOp op t x y u) (hop : (match op with | .eql | .neq => false | _ => true) = true) : binV X op t (ρ x) (ρ y) = valOp X callNone ρ h o := by
  have e1 : two2 (ρ x) (ρ y) (.tmp 0) = ρ x := rfl
  have e2 : two2 (ρ x) (ρ y) (.tmp 1) = ρ y := rfl
  have e0 : ∀ (f g : Operand → Value), g (.tmp 0) = f x → g (.tmp 1) = f y → execOp g ⟨none, .binOp op t (.tmp 0) (.tmp 1) t, t, "", #[], none⟩ = execOp f o := by
    intro f g h1 h2
    unfold execOp
    rw [ho]
    simp only [h1, h2]
    cases op <;> first | rfl | cases hop
  unfold binV valOp
  rw [ho]
  simp only [e1, e2]
  have e3 : pureOp X (two2 (ρ x) (ρ y)) ⟨none, .binOp op t (.tmp 0) (.tmp 1) t, t, "", #[], none⟩ = pureOp X ρ o := by
    unfold pureOp
    rw [e0 (fun z => (((ρ z).toD).bind D.toVal).getD undef) _ (by rw [e1]) (by rw [e2]), ho]
    simp only [Op.operands]
    congr 1
  rw [e3]

/-- The same. -/
def askV (X : Ctx) (ρ : Operand → V) (h : List Ob) (o : Oper) : Option V :=
  match o.op with
  | .load t p => loadV X h t (ρ p)
  | .indexAddr t x i => iaddrV X t (ρ x) (ρ i)
  | .index t x i => indexV X t (ρ x) (ρ i)
  | .slice t x lo hi mx => sliceV X t (ρ x) (lo.map ρ) (hi.map ρ) (mx.map ρ)
  | .field t x f => fieldV X t (ρ x) f
  | .binOp op t x y _ => match op with
    | .eql | .neq => valOp X callNone ρ h o
    | _ => binV X op t (ρ x) (ρ y)
  | _ => valOp X callNone ρ h o

theorem askV_eq {X : Ctx} {ρ : Operand → V} {h : List Ob} {o : Oper} : askV X ρ h o = valOp X callNone ρ h o := by
  by_cases hb : ∃ op t x y u, o.op = .binOp op t x y u
  · obtain ⟨op, t, x, y, u, ho⟩ := hb
    unfold askV
    rw [ho]
    simp only
    split
    · rfl
    · rfl
    · rename_i h1 h2
      refine binV_eq ho ?_
      cases op <;> first | rfl | exact (h1 rfl).elim | exact (h2 rfl).elim
  · unfold askV valOp
    cases ho : o.op <;> try rfl
    · exact (hb ⟨_, _, _, _, _, ho⟩).elim
    · exact sliceV_eq

/-- Operations that are worth a halt. -/
def worth (o : Oper) : Bool :=
  match o.op with
  | .load .. | .indexAddr .. | .index .. | .slice .. | .field .. | .convert .. | .binOp .. => true
  | .call c => match c.callee with
    | .builtin .len => true
    | _ => false
  | _ => false

def infoOf (X : Ctx) (ρ : Operand → V) (h : List Ob) (o : Oper) : Info :=
  match o.op with
  | .load t p => .load t (ρ p) h
  | .indexAddr t x i => .iaddr t (ρ x) (ρ i)
  | .index t x i => .index t (ρ x) (ρ i)
  | .slice t x lo hi mx => .slice t (ρ x) (lo.map ρ) (hi.map ρ) (mx.map ρ)
  | .field t x f => .field t (ρ x) f
  | .binOp op t x y _ => .bin op t (ρ x) (ρ y)
  | _ => .v (valOp X callNone ρ h o)

/-- What an operation comes to that turns nothing. -/
def valG (X : Ctx) (cg : CallG) (ρ : Operand → V) (h : List Ob) (o : Oper) (t : T) : Out V :=
  match o.op with
  | .pick c a b => (boolG (ρ c) t).bind fun x t => .ok (ρ (if x then a else b)).copy t
  | _ =>
    match calleeG ρ o with
    | some (g, args) =>
      if args.all V.pure then
        ev t (.call g args)
          (fun t => (cg g args [] t).bind fun r t => if r.1.pure then .ok r.1 t else .bad 5 t.n)
          (fun w t => match w with
            | .v x => .ok x (t.add fun call => call.p g args = some x)
            | _ => .bad 4 t.n)
      else .bad 6 t.n
    | none =>
      if worth o then
        ev t (infoOf X ρ h o)
          (fun t => match valOp X callNone ρ h o with
            | some v => .ok v t
            | none => .bad 8 t.n)
          (fun w t => match w with
            | .v x => .ok x (t.add fun _ => askV X ρ h o = some x)
            | _ => .bad 7 t.n)
      else match valOp X callNone ρ h o with
        | some v => .ok v t
        | none => .bad 9 t.n

variable {B : FuncId → List V → List Ob → Option (V × List Ob)} (hB : CallOf call B) {cg : CallG} (hcg : ∀ g args h t r t', cg g args h t = .ok r t' → All Q t'.cs → B g args h = some r ∧ All Q t.cs)

include hQ hB hcg in
theorem valG_sound {X : Ctx} {ρ : Operand → V} {h : List Ob} {o : Oper} {t t' : T} {v : V} (hv : valG X cg ρ h o t = .ok v t') (hc : All Q t'.cs) : valOp X call ρ h o = some v ∧ All Q t.cs := by
  unfold valG at hv
  split at hv
  · rename_i c a b hop
    obtain ⟨x, t1, h1, h2⟩ := Out.bind_ok hv
    simp only [Out.ok.injEq] at h2
    obtain ⟨rfl, rfl⟩ := h2
    obtain ⟨k1, k2⟩ := boolG_sound hQ h1 hc
    refine ⟨?_, k2⟩
    unfold valOp
    rw [hop]
    simp only [k1]
  · split at hv
    · rename_i g args hcal
      split at hv
      · rename_i hp
        have key : ∀ u, call.p g args = some u → valOp X call ρ h o = some u := fun u hu => by rw [calleeG_val hcal, if_pos hp, hu]
        rcases ev_ok hv with ⟨w, t1, ht, hv⟩ | ⟨t1, ht, hv⟩
        · split at hv
          · simp only [Out.ok.injEq] at hv
            obtain ⟨rfl, rfl⟩ := hv
            simp only [T.add] at hc
            exact ⟨key _ (hQ _ hc.1), by rw [← ht]; exact hc.2⟩
          · cases hv
        · obtain ⟨r, t2, h1, h2⟩ := Out.bind_ok hv
          split at h2
          · rename_i hpu
            simp only [Out.ok.injEq] at h2
            obtain ⟨rfl, rfl⟩ := h2
            obtain ⟨k1, k2⟩ := hcg _ _ _ _ _ _ h1 hc
            exact ⟨key _ (hB.p _ _ _ r.2 hp k1 hpu), by rw [← ht]; exact k2⟩
          · cases h2
      · cases hv
    · split at hv
      · rcases ev_ok hv with ⟨w, t1, ht, hv⟩ | ⟨t1, ht, hv⟩
        · split at hv
          · simp only [Out.ok.injEq] at hv
            obtain ⟨rfl, rfl⟩ := hv
            simp only [T.add] at hc
            exact ⟨valOp_nocall (askV_eq.symm.trans (hQ _ hc.1)), by rw [← ht]; exact hc.2⟩
          · cases hv
        · split at hv
          · rename_i u hu
            simp only [Out.ok.injEq] at hv
            obtain ⟨rfl, rfl⟩ := hv
            exact ⟨valOp_nocall hu, by rw [← ht]; exact hc⟩
          · cases hv
      · split at hv
        · rename_i u hu
          simp only [Out.ok.injEq] at hv
          obtain ⟨rfl, rfl⟩ := hv
          exact ⟨valOp_nocall hu, hc⟩
        · cases hv

def isEff (o : Oper) : Bool :=
  match o.op with
  | .assign _ | .alloc _ | .box .. | .store .. => true
  | .call c => match c.callee with
    | .builtin .append => true
    | _ => false
  | _ => false

def appArgs (o : Oper) : Option (TypeId × TypeId × Operand × Operand) :=
  match o.op with
  | .call c => match c.callee with
    | .builtin .append => match c.args.toList, c.argTypes.toList with
      | [s, x], [t, u] => some (t, u, s, x)
      | _, _ => none
    | _ => none
  | _ => none

/-- What is appended to, and the state where it stands as a copy. -/
def appTarget (X : Ctx) (st : St) (s : Operand) : Option (V × St) :=
  match st.get X s with
  | .d .nilsl => some (.d .nilsl, st)
  | .full c n => some (.full c n, st)
  | .tail E c n => match s with
    | .tmp ts => some (.tail E c n, locCopy st (.slot ts))
    | _ => none
  | _ => match ogOf st s with
    | some l => match locGet st l with
      | some (.tail E c n) => some (.tail E c n, locCopy st l)
      | _ => none
    | none => none

def appendV (X : Ctx) (t u : TypeId) (s x : V) : Option V :=
  match elemT X.P t, (elemT X.P t).bind (X.P.info? ·), srcOf X.P u x with
  | some E, some i, some (cs, m) =>
    if i.size != 0 && cs.length == m * i.size && cs.all D.one && (zeroT X.P E).any (fun z => z.cells.length == i.size) then
      let go := fun (c : List D) (n : Nat) => if (n + m) * i.bytes ≤ bigLen ∧ n + m ≤ bigLen then some (V.tail E (c ++ cs) (n + m)) else none
      match s with
      | .d .nilsl => if m = 0 then some (.d .nilsl) else go [] 0
      | .full c n => if m = 0 then some (.full c n) else if c.length = n * i.size ∧ c.all D.one then go c n else none
      | .tail E' c n => if E' = E ∧ c.length = n * i.size then go c n else none
      | _ => none
    else none
  | _, _, _ => none

theorem appendV_op {X : Ctx} {st st' : St} {t u : TypeId} {s x : Operand} {sv v : V} (h1 : appTarget X st s = some (sv, st')) (h2 : appendV X t u sv (st.get X x) = some v) : appendOp X st t u s x = some (st', v) := by
  unfold appendV at h2
  unfold appendOp
  split at h2
  · rename_i E i cs m e1 e2 e3
    rw [e2, e3, e1]
    simp only
    split at h2
    · rename_i hg
      rw [if_pos hg]
      simp only at h2 ⊢
      unfold appTarget at h1
      split at h1
      · rename_i hs
        simp only [Option.some.injEq, Prod.mk.injEq] at h1
        obtain ⟨rfl, rfl⟩ := h1
        simp only [hs]
        simp only at h2
        split at h2
        · rename_i hm
          rw [if_pos hm]
          rw [Option.some.injEq] at h2
          rw [h2]
        · rename_i hm
          rw [if_neg hm, h2]
          rfl
      · rename_i c n hs
        simp only [Option.some.injEq, Prod.mk.injEq] at h1
        obtain ⟨rfl, rfl⟩ := h1
        simp only [hs]
        simp only at h2
        split at h2
        · rename_i hm
          rw [if_pos hm]
          rw [Option.some.injEq] at h2
          rw [h2]
        · rename_i hm
          rw [if_neg hm]
          split at h2
          · rename_i hk
            rw [if_pos hk, h2]
            rfl
          · cases h2
      · rename_i E' c n hs
        split at h1
        · rename_i ts
          simp only [Option.some.injEq, Prod.mk.injEq] at h1
          obtain ⟨rfl, rfl⟩ := h1
          simp only [hs]
          simp only at h2
          split at h2
          · rename_i hk
            rw [if_pos hk, h2]
            rfl
          · cases h2
        · cases h1
      · rename_i n1 n2 n3
        split at h1
        · rename_i l hl
          split at h1
          · rename_i E' c n hg2
            simp only [Option.some.injEq, Prod.mk.injEq] at h1
            obtain ⟨rfl, rfl⟩ := h1
            simp only at h2
            split
            · rename_i hs; exact (n1 hs).elim
            · rename_i c n hs; exact (n2 _ _ hs).elim
            · rename_i hs; exact (n3 _ _ _ hs).elim
            · simp only [hl, hg2]
              split at h2
              · rename_i hk
                rw [if_pos hk, h2]
                rfl
              · cases h2
          · cases h1
        · cases h1
    · cases h2
  · cases h2

theorem appArgs_step {X : Ctx} {call : CallF} {base : Nat} {o : Oper} {st st' : St} {t u : TypeId} {s x : Operand} {v : V} (ha : appArgs o = some (t, u, s, x)) (h : appendOp X st t u s x = some (st', v)) : stepOp X call base o st = some (st'.put o.dst v) := by
  unfold appArgs at ha
  split at ha
  · rename_i c hop
    split at ha
    · rename_i hcal
      split at ha
      · rename_i s' x' t' u' h1 h2
        simp only [Option.some.injEq, Prod.mk.injEq] at ha
        obtain ⟨rfl, rfl, rfl, rfl⟩ := ha
        have hv : valOp X call (st.get X) st.h o = none := by
          unfold valOp
          rw [hop]
          simp only [hcal]
        unfold stepOp
        rw [hv]
        simp only [hop, hcal, h1, h2, h]
        rfl
      · cases ha
    · cases ha
  · cases ha

/-- One operation. -/
def stepG (X : Ctx) (cg : CallG) (base : Nat) (o : Oper) (st : St) (t : T) : Out St :=
  match appArgs o with
  | some (ty, u, s, x) => match appTarget X st s with
    | some (sv, st') => ev t (.append ty u sv (st.get X x))
        (fun t => match appendV X ty u sv (st.get X x) with
          | some v => .ok (st'.put o.dst v) t
          | none => .bad 32 t.n)
        (fun w t => match w with
          | .v y => .ok (st'.put o.dst y) (t.add fun _ => appendV X ty u sv (st.get X x) = some y)
          | _ => .bad 31 t.n)
    | none => .bad 33 t.n
  | none =>
  if isEff o then
    match stepOp X callNone base o st with
    | some st' => .ok st' t
    | none => .bad 10 t.n
  else
    match calleeG (st.get X) o with
    | some (g, args) =>
      if args.all V.pure then
        ev t (.call g args)
          (fun t => (cg g args [] t).bind fun r t =>
            if r.1.pure then .ok (st.put o.dst r.1) t
            else .ok ({ s := st.s, h := st.h ++ r.2.map (Ob.shift st.h.length), og := [] : St }.put o.dst (r.1.shift st.h.length)) t)
          (fun w t => match w with
            | .v x => .ok (st.put o.dst x) (t.add fun call => call.p g args = some x)
            | .c x h' => .ok ({ s := st.s, h := h', og := [] : St }.put o.dst x) (t.add fun call => (args.all V.pure = true → call.p g args = none) ∧ call.i g args st.h = some (x, h'))
            | _ => .bad 13 t.n)
      else
        ev t (.calli g args st.h)
          (fun t => (cg g args st.h t).bind fun r t =>
            if r.1.pure then .ok ({ s := st.s, h := r.2.take st.h.length, og := [] : St }.put o.dst r.1) t
            else .ok ({ s := st.s, h := r.2, og := [] : St }.put o.dst r.1) t)
          (fun w t => match w with
            | .c x h' => .ok ({ s := st.s, h := h', og := [] : St }.put o.dst x) (t.add fun call => (args.all V.pure = true → call.p g args = none) ∧ call.i g args st.h = some (x, h'))
            | _ => .bad 14 t.n)
    | none => (valG X cg (st.get X) st.h o t).bind fun v t =>
      match o.op with
      | .move (.tmp u) => .ok (setOg (st.put o.dst v) o.dst (.slot u)) t
      | .load ty p => match isAggT X.P ty, st.get X p with
        | false, .obj id off => .ok (setOg (st.put o.dst v) o.dst (.cell id off)) t
        | _, _ => .ok (st.put o.dst v) t
      | _ => .ok (st.put o.dst v) t

theorem isEff_nocall {o : Oper} (h : isEff o = true) : ∀ c f, o.op = .call c → c.callee ≠ .value f := by
  intro c f hop hf
  unfold isEff at h
  rw [hop] at h
  simp [hf] at h

theorem calleeG_nomove {ρ : Operand → V} {o : Oper} {g : FuncId} {args : List V} (hc : calleeG ρ o = some (g, args)) : (∀ u, o.op ≠ .move u) ∧ (∀ t p, o.op ≠ .load t p) := by
  unfold calleeG at hc
  split at hc
  · rename_i c hop; constructor <;> · intros; rw [hop]; simp
  · cases hc

include hQ hB hcg in
theorem stepG_sound {X : Ctx} {base : Nat} {o : Oper} {st st' : St} {t t' : T} (h : stepG X cg base o st t = .ok st' t') (hc : All Q t'.cs) : stepOp X call base o st = some st' ∧ All Q t.cs := by
  unfold stepG at h
  split at h
  · rename_i ty u s x ha
    split at h
    · rename_i sv s1 hs1
      rcases ev_ok h with ⟨w, t1, ht, h⟩ | ⟨t1, ht, h⟩
      · split at h
        · simp only [Out.ok.injEq] at h
          obtain ⟨rfl, rfl⟩ := h
          simp only [T.add] at hc
          exact ⟨appArgs_step ha (appendV_op hs1 (hQ _ hc.1)), by rw [← ht]; exact hc.2⟩
        · cases h
      · split at h
        · rename_i v hv
          simp only [Out.ok.injEq] at h
          obtain ⟨rfl, rfl⟩ := h
          exact ⟨appArgs_step ha (appendV_op hs1 hv), by rw [← ht]; exact hc⟩
        · cases h
    · cases h
  rename_i hna
  split at h
  · rename_i he
    have ho := isEff_nocall he
    split at h
    · rename_i u hu
      simp only [Out.ok.injEq] at h
      obtain ⟨rfl, rfl⟩ := h
      exact ⟨stepOp_nocall ho hu, hc⟩
    · cases h
  · rename_i he
    split at h
    · rename_i g args hcal
      have hput : ∀ x, valOp X call (st.get X) st.h o = some x → stepOp X call base o st = some (st.put o.dst x) := by
        intro x hx
        obtain ⟨n1, n2⟩ := calleeG_nomove hcal
        unfold stepOp
        rw [hx]
        simp only
        split
        · rename_i u hop; exact (n1 _ hop).elim
        · rename_i u p hop; exact (n2 _ _ hop).elim
        · rfl
      have hcalli : ∀ x h', (args.all V.pure = true → call.p g args = none) → call.i g args st.h = some (x, h') → stepOp X call base o st = some ({ s := st.s, h := h', og := [] : St }.put o.dst x) := by
        intro x h' h1 h2
        have hn : valOp X call (st.get X) st.h o = none := by
          rw [calleeG_val hcal]
          split
          · rename_i hp; exact h1 hp
          · rfl
        rw [calleeG_step hcal hn, h2]
        rfl
      split at h
      · rename_i hp
        rcases ev_ok h with ⟨w, t1, ht, h⟩ | ⟨t1, ht, h⟩
        · split at h
          · simp only [Out.ok.injEq] at h
            obtain ⟨rfl, rfl⟩ := h
            simp only [T.add] at hc
            refine ⟨hput _ ?_, by rw [← ht]; exact hc.2⟩
            rw [calleeG_val hcal, if_pos hp]
            exact hQ _ hc.1
          · simp only [Out.ok.injEq] at h
            obtain ⟨rfl, rfl⟩ := h
            simp only [T.add] at hc
            obtain ⟨k1, k2⟩ := hQ _ hc.1
            exact ⟨hcalli _ _ k1 k2, by rw [← ht]; exact hc.2⟩
          · cases h
        · obtain ⟨r, t2, h1, h2⟩ := Out.bind_ok h
          split at h2
          · rename_i hpu
            simp only [Out.ok.injEq] at h2
            obtain ⟨rfl, rfl⟩ := h2
            obtain ⟨k1, k2⟩ := hcg _ _ _ _ _ _ h1 hc
            refine ⟨hput _ ?_, by rw [← ht]; exact k2⟩
            rw [calleeG_val hcal, if_pos hp]
            exact hB.p _ _ _ r.2 hp k1 hpu
          · rename_i hpu
            simp only [Out.ok.injEq] at h2
            obtain ⟨rfl, rfl⟩ := h2
            obtain ⟨k1, k2⟩ := hcg _ _ _ _ _ _ h1 hc
            obtain ⟨k3, k4⟩ := hB.q _ _ _ r.2 hp k1 (by simpa using hpu)
            exact ⟨hcalli _ _ (fun _ => k3) (k4 _), by rw [← ht]; exact k2⟩
      · rename_i hp
        have hp' : args.all V.pure = false := by simpa using hp
        rcases ev_ok h with ⟨w, t1, ht, h⟩ | ⟨t1, ht, h⟩
        · split at h
          · simp only [Out.ok.injEq] at h
            obtain ⟨rfl, rfl⟩ := h
            simp only [T.add] at hc
            obtain ⟨k1, k2⟩ := hQ _ hc.1
            exact ⟨hcalli _ _ k1 k2, by rw [← ht]; exact hc.2⟩
          · cases h
        · obtain ⟨r, t2, h1, h2⟩ := Out.bind_ok h
          split at h2
          · rename_i hpu
            simp only [Out.ok.injEq] at h2
            obtain ⟨rfl, rfl⟩ := h2
            obtain ⟨k1, k2⟩ := hcg _ _ _ _ _ _ h1 hc
            have k3 := hB.i _ _ _ _ r.2 hp' k1
            rw [if_pos hpu] at k3
            exact ⟨hcalli _ _ (fun h => absurd h hp) k3, by rw [← ht]; exact k2⟩
          · rename_i hpu
            simp only [Out.ok.injEq] at h2
            obtain ⟨rfl, rfl⟩ := h2
            obtain ⟨k1, k2⟩ := hcg _ _ _ _ _ _ h1 hc
            have k3 := hB.i _ _ _ _ r.2 hp' k1
            rw [if_neg hpu] at k3
            exact ⟨hcalli _ _ (fun h => absurd h hp) k3, by rw [← ht]; exact k2⟩
    · obtain ⟨v, t1, hv, h⟩ := Out.bind_ok h
      unfold stepOp
      split at h
      · rename_i u hop
        simp only [Out.ok.injEq] at h
        obtain ⟨rfl, rfl⟩ := h
        obtain ⟨h1, h2⟩ := valG_sound hQ hB hcg hv hc
        rw [h1]
        simp only [hop]
        exact ⟨trivial, h2⟩
      · rename_i u p hop
        split at h
        · rename_i id off hag hp
          simp only [Out.ok.injEq] at h
          obtain ⟨rfl, rfl⟩ := h
          obtain ⟨h1, h2⟩ := valG_sound hQ hB hcg hv hc
          rw [h1]
          simp only [hop, hag, hp]
          exact ⟨trivial, h2⟩
        · rename_i hne
          simp only [Out.ok.injEq] at h
          obtain ⟨rfl, rfl⟩ := h
          obtain ⟨h1, h2⟩ := valG_sound hQ hB hcg hv hc
          rw [h1]
          simp only [hop]
          exact ⟨by first | trivial | (split <;> first | rfl | (rename_i hag hp; exact (hne _ _ hag hp).elim)), h2⟩
      · rename_i hn1 hn2
        simp only [Out.ok.injEq] at h
        obtain ⟨rfl, rfl⟩ := h
        obtain ⟨h1, h2⟩ := valG_sound hQ hB hcg hv hc
        rw [h1]
        refine ⟨?_, h2⟩
        cases hop : o.op <;> simp only
        · rename_i x
          cases x <;> simp only
          exact (hn1 _ hop).elim
        · exact (hn2 _ _ hop).elim

/-- Is it wanted? -/
def guardG (X : Ctx) (ops : Array Oper) (st : St) (o : Oper) (t : T) : Out Bool :=
  match o.guard with
  | none => .ok true t
  | some (j, want) => match (ops[j]?).bind (·.dst) with
    | none => .bad 15 t.n
    | some u => match st.get X (.tmp u) with
      | .d (.tup []) => .ok false t
      | v => (boolG v t).bind fun b t => .ok (b == want) t

include hQ in
theorem guardG_sound {X : Ctx} {ops : Array Oper} {st : St} {o : Oper} {t t' : T} {b : Bool} (h : guardG X ops st o t = .ok b t') (hc : All Q t'.cs) : guardOf X ops st o = some b ∧ All Q t.cs := by
  unfold guardG at h
  unfold guardOf
  cases hg : o.guard with
  | none =>
    rw [hg] at h
    simp only [Out.ok.injEq] at h
    obtain ⟨rfl, rfl⟩ := h
    exact ⟨rfl, hc⟩
  | some jw =>
    obtain ⟨j, want⟩ := jw
    rw [hg] at h
    simp only at h ⊢
    cases ht : (ops[j]?).bind (·.dst) with
    | none => rw [ht] at h; cases h
    | some u =>
      rw [ht] at h
      simp only at h ⊢
      split at h
      · rename_i hv
        simp only [Out.ok.injEq] at h
        obtain ⟨rfl, rfl⟩ := h
        rw [hv]
        exact ⟨rfl, hc⟩
      · obtain ⟨x, t1, h1, h2⟩ := Out.bind_ok h
        simp only [Out.ok.injEq] at h2
        obtain ⟨rfl, rfl⟩ := h2
        obtain ⟨k1, k2⟩ := boolG_sound hQ h1 hc
        rw [k1]
        exact ⟨rfl, k2⟩

/-- Operations in order. -/
def stepNewG (X : Ctx) (base : Nat) (o : Oper) (st : St) (t : T) : Out St :=
  match o.op with
  | .next it true => match st.get X it with
    | .it id => match st.h[id]? with
      | some (.iter s pos) => (boolG (.d (.bool (decide (pos < s.length)))) t).bind fun b t =>
        match b with
        | true => .ok ({ s := st.s, h := st.h.set id (.iter s (pos + (Utf8.decode ⟨s.toArray⟩ pos).2)), og := ogBut id st.og : St }.put o.dst (.d (.tup [.bool true, .int .i64 pos, .int .i32 (Utf8.decode ⟨s.toArray⟩ pos).1]))) t
        | false => .ok (st.put o.dst (.d (.tup [.bool false]))) t
      | _ => .bad 31 t.n
    | _ => .bad 32 t.n
  | .convert ty u x => ev t (.conv ty u (st.get X x))
      (fun t => match convV X ty u (st.get X x) with
        | some v => .ok (st.put o.dst v) t
        | none => .bad 35 t.n)
      (fun w t => match w with
        | .v y => .ok (st.put o.dst y) (t.add fun _ => convV X ty u (st.get X x) = some y)
        | _ => .bad 36 t.n)
  | .lookup ty x k ok => ev t (.look ty (mapOf st.h (st.get X x)) (st.get X k) ok)
      (fun t => match lookV X ty (mapOf st.h (st.get X x)) (st.get X k) ok with
        | some v => .ok (st.put o.dst v) t
        | none => .bad 37 t.n)
      (fun w t => match w with
        | .v y => .ok (st.put o.dst y) (t.add fun _ => lookV X ty (mapOf st.h (st.get X x)) (st.get X k) ok = some y)
        | _ => .bad 38 t.n)
  | _ => match stepNew X base st o with
    | some s => .ok s t
    | none => .bad 30 t.n

include hQ in
theorem stepNewG_sound {X : Ctx} {base : Nat} {o : Oper} {st st' : St} {t t' : T} (h : stepNewG X base o st t = .ok st' t') (hc : All Q t'.cs) : stepNew X base st o = some st' ∧ All Q t.cs := by
  unfold stepNewG at h
  split at h
  · rename_i it hop
    split at h
    · rename_i id hx
      split at h
      · rename_i s pos hh
        obtain ⟨b, t1, h1, h2⟩ := Out.bind_ok h
        have fin : ∀ x : Bool, x = b → All Q t1.cs → decide (pos < s.length) = x ∧ All Q t.cs := by
          intro x hx hc1
          subst hx
          obtain ⟨k1, k2⟩ := boolG_sound hQ h1 hc1
          exact ⟨by simpa using k1, k2⟩
        unfold stepNew
        simp only [hop, hx, hh]
        cases b with
        | true =>
          simp only [Out.ok.injEq] at h2
          obtain ⟨rfl, rfl⟩ := h2
          obtain ⟨k1, k2⟩ := fin true rfl hc
          rw [if_pos (of_decide_eq_true k1)]
          exact ⟨rfl, k2⟩
        | false =>
          simp only [Out.ok.injEq] at h2
          obtain ⟨rfl, rfl⟩ := h2
          obtain ⟨k1, k2⟩ := fin false rfl hc
          rw [if_neg (of_decide_eq_false k1)]
          exact ⟨rfl, k2⟩
      · cases h
    · cases h
  · rename_i ty u x hop
    have fin : ∀ y, convV X ty u (st.get X x) = some y → stepNew X base st o = some (st.put o.dst y) := fun y hy => by unfold stepNew; simp only [hop, hy, Option.map_some]
    rcases ev_ok h with ⟨w, t1, ht, h⟩ | ⟨t1, ht, h⟩
    · split at h
      · rename_i y
        simp only [Out.ok.injEq] at h
        obtain ⟨rfl, rfl⟩ := h
        simp only [T.add] at hc
        exact ⟨fin y (hQ _ hc.1), by rw [← ht]; exact hc.2⟩
      · cases h
    · split at h
      · rename_i y hy
        simp only [Out.ok.injEq] at h
        obtain ⟨rfl, rfl⟩ := h
        exact ⟨fin y hy, by rw [← ht]; exact hc⟩
      · cases h
  · rename_i ty x k ok hop
    have fin : ∀ y, lookV X ty (mapOf st.h (st.get X x)) (st.get X k) ok = some y → stepNew X base st o = some (st.put o.dst y) := fun y hy => by unfold stepNew; simp only [hop, mapGet, hy, Option.map_some]
    rcases ev_ok h with ⟨w, t1, ht, h⟩ | ⟨t1, ht, h⟩
    · split at h
      · rename_i y
        simp only [Out.ok.injEq] at h
        obtain ⟨rfl, rfl⟩ := h
        simp only [T.add] at hc
        exact ⟨fin y (hQ _ hc.1), by rw [← ht]; exact hc.2⟩
      · cases h
    · split at h
      · rename_i y hy
        simp only [Out.ok.injEq] at h
        obtain ⟨rfl, rfl⟩ := h
        exact ⟨fin y hy, by rw [← ht]; exact hc⟩
      · cases h
  · split at h
    · rename_i s hs
      simp only [Out.ok.injEq] at h
      obtain ⟨rfl, rfl⟩ := h
      exact ⟨hs, hc⟩
    · cases h

def stepAllG (X : Ctx) (cg : CallG) (base : Nat) (o : Oper) (st : St) (t : T) : Out St :=
  match isNew X.P o with
  | true => stepNewG X base o st t
  | false => stepG X cg base o st t

include hQ hB hcg in
theorem stepAllG_sound {X : Ctx} {base : Nat} {o : Oper} {st st' : St} {t t' : T} (h : stepAllG X cg base o st t = .ok st' t') (hc : All Q t'.cs) : stepAll X call base o st = some st' ∧ All Q t.cs := by
  unfold stepAllG at h
  unfold stepAll
  split at h
  · rename_i hn
    rw [if_pos hn]
    exact stepNewG_sound hQ h hc
  · rename_i hn
    rw [if_neg (by simp [hn])]
    exact stepG_sound hQ hB hcg h hc

def runG (X : Ctx) (cg : CallG) (base N : Nat) (ops : Array Oper) : List Oper → St → T → Out St
  | [], st, t => .ok st t
  | o :: r, st, t =>
    if dstOk N o then
      (guardG X ops st o t).bind fun b t =>
        match b with
        | true => (stepAllG X cg base o st t).bind fun st t => runG X cg base N ops r st t
        | false => runG X cg base N ops r (st.put o.dst undefV) t
    else .bad 16 t.n

include hQ hB hcg in
theorem runG_sound {X : Ctx} {base N : Nat} {ops : Array Oper} : ∀ (l : List Oper) (st st' : St) (t t' : T), runG X cg base N ops l st t = .ok st' t' → All Q t'.cs → runOps X call base N ops l st = some st' ∧ All Q t.cs := by
  intro l
  induction l with
  | nil =>
    intro st st' t t' h hc
    simp only [runG, Out.ok.injEq] at h
    obtain ⟨rfl, rfl⟩ := h
    exact ⟨rfl, hc⟩
  | cons o r ih =>
    intro st st' t t' h hc
    simp only [runG] at h
    simp only [runOps]
    split at h
    · rename_i hN
      rw [if_pos hN]
      obtain ⟨b, t1, h1, h2⟩ := Out.bind_ok h
      cases b with
      | true =>
        simp only at h2
        obtain ⟨s1, t2, h3, h4⟩ := Out.bind_ok h2
        obtain ⟨k1, k2⟩ := ih _ _ _ _ h4 hc
        obtain ⟨k3, k4⟩ := stepAllG_sound hQ hB hcg h3 k2
        obtain ⟨k5, k6⟩ := guardG_sound hQ h1 k4
        rw [k5]
        simp only [k3, k1]
        exact ⟨trivial, k6⟩
      | false =>
        simp only at h2
        obtain ⟨k1, k2⟩ := ih _ _ _ _ h2 hc
        obtain ⟨k5, k6⟩ := guardG_sound hQ h1 k2
        rw [k5]
        simp only [k1]
        exact ⟨trivial, k6⟩
    · cases h

/-- One of the first operations of a region that draws. -/
def recG (X : Ctx) (cg : CallG) (ops : Array Oper) (h0 : List Ob) (o : Oper) (st : St) (t : T) : Out Rec :=
  (guardG X ops st o t).bind fun b t =>
    match b with
    | false => .ok ⟨undefV, none, []⟩ t
    | true =>
      match o.op with
      | .alloc ty => match zeroT X.P ty with
        | some z => if z.cells.all D.one && st.h.length == h0.length then .ok ⟨.obj h0.length 0, none, [Ob.cells (openZero X.P ty z.cells)]⟩ t else .bad 17 t.n
        | none => .bad 18 t.n
      | .assign x => .ok ⟨(st.get X x).copy, none, []⟩ t
      | .move (.tmp u) => (valG X cg (st.get X) h0 o t).bind fun v t => .ok ⟨v, some (.slot u), []⟩ t
      | .load ty p => (valG X cg (st.get X) h0 o t).bind fun v t =>
        match isAggT X.P ty, st.get X p with
        | false, .obj id off => .ok ⟨v, some (.cell id off), []⟩ t
        | _, _ => .ok ⟨v, none, []⟩ t
      | _ => (valG X cg (st.get X) h0 o t).bind fun v t => .ok ⟨v, none, []⟩ t

include hQ hB hcg in
theorem recG_sound {X : Ctx} {ops : Array Oper} {h0 : List Ob} {o : Oper} {st : St} {r : Rec} {t t' : T} (h : recG X cg ops h0 o st t = .ok r t') (hc : All Q t'.cs) : recA X call ops h0 o st = some r ∧ All Q t.cs := by
  unfold recG at h
  unfold recA
  obtain ⟨b, t1, hg, h⟩ := Out.bind_ok h
  cases b with
  | false =>
    simp only [Out.ok.injEq] at h
    obtain ⟨rfl, rfl⟩ := h
    obtain ⟨h1, h2⟩ := guardG_sound hQ hg hc
    rw [h1]
    exact ⟨rfl, h2⟩
  | true =>
    simp only at h
    have val : ∀ (F : V → Rec), (valG X cg (st.get X) h0 o t1).bind (fun v t => .ok (F v) t) = .ok r t' → ∃ v, valOp X call (st.get X) h0 o = some v ∧ r = F v ∧ All Q t1.cs := by
      intro F hh
      obtain ⟨v, t2, hv, hh⟩ := Out.bind_ok hh
      simp only [Out.ok.injEq] at hh
      obtain ⟨rfl, rfl⟩ := hh
      obtain ⟨k1, k2⟩ := valG_sound hQ hB hcg hv hc
      exact ⟨v, k1, rfl, k2⟩
    split at h
    · rename_i ty hop
      split at h
      · rename_i z hz
        split at h
        · rename_i hcnd
          simp only [Out.ok.injEq] at h
          obtain ⟨rfl, rfl⟩ := h
          obtain ⟨h1, h2⟩ := guardG_sound hQ hg hc
          rw [h1]
          have hv : valOp X call (st.get X) h0 o = none := by unfold valOp; rw [hop]
          simp only [hv, hop, hz]
          rw [if_pos hcnd]
          exact ⟨rfl, h2⟩
        · cases h
      · cases h
    · rename_i x hop
      simp only [Out.ok.injEq] at h
      obtain ⟨rfl, rfl⟩ := h
      obtain ⟨h1, h2⟩ := guardG_sound hQ hg hc
      rw [h1]
      have hv : valOp X call (st.get X) h0 o = none := by unfold valOp; rw [hop]
      simp only [hv, hop]
      exact ⟨trivial, h2⟩
    · rename_i u hop
      obtain ⟨v, k1, k2, k3⟩ := val _ h
      obtain ⟨h1, h2⟩ := guardG_sound hQ hg k3
      rw [h1]
      simp only [k1, hop, k2]
      exact ⟨trivial, h2⟩
    · rename_i ty p hop
      obtain ⟨v, t2, hv, h⟩ := Out.bind_ok h
      have key : (match isAggT X.P ty, st.get X p with | false, .obj id off => some (⟨v, some (.cell id off), []⟩ : Rec) | _, _ => some ⟨v, none, []⟩) = some r ∧ t' = t2 := by
        split at h
        · rename_i id off hag hp
          simp only [Out.ok.injEq] at h
          obtain ⟨rfl, rfl⟩ := h
          exact ⟨by simp only [hag, hp], rfl⟩
        · rename_i hne
          simp only [Out.ok.injEq] at h
          obtain ⟨rfl, rfl⟩ := h
          refine ⟨?_, rfl⟩
          first
            | rfl
            | (split
               · rename_i hag hp; exact (hne _ _ hag hp).elim
               · rfl)
      obtain ⟨k1, rfl⟩ := key
      obtain ⟨k2, k3⟩ := valG_sound hQ hB hcg hv hc
      obtain ⟨h1, h2⟩ := guardG_sound hQ hg k3
      rw [h1]
      simp only [k2, hop]
      exact ⟨k1, h2⟩
    · rename_i hn0 hn1 hn2 hn3
      obtain ⟨v, k1, k2, k3⟩ := val _ h
      obtain ⟨h1, h2⟩ := guardG_sound hQ hg k3
      rw [h1]
      simp only [k1]
      refine ⟨?_, h2⟩
      subst k2
      cases hop : o.op <;> simp only

def runAG (X : Ctx) (cg : CallG) (N : Nat) (ops : Array Oper) (h0 : List Ob) : List Oper → St → T → Out St
  | [], st, t => .ok st t
  | o :: r, st, t =>
    if dstOk N o then (recG X cg ops h0 o st t).bind fun rc t => runAG X cg N ops h0 r (rc.on o.dst st) t
    else .bad 19 t.n

include hQ hB hcg in
theorem runAG_sound {X : Ctx} {N : Nat} {ops : Array Oper} {h0 : List Ob} : ∀ (l : List Oper) (st st' : St) (t t' : T), runAG X cg N ops h0 l st t = .ok st' t' → All Q t'.cs → runA X call N ops h0 l st = some st' ∧ All Q t.cs := by
  intro l
  induction l with
  | nil =>
    intro st st' t t' h hc
    simp only [runAG, Out.ok.injEq] at h
    obtain ⟨rfl, rfl⟩ := h
    exact ⟨rfl, hc⟩
  | cons o r ih =>
    intro st st' t t' h hc
    simp only [runAG] at h
    simp only [runA]
    split at h
    · rename_i hN
      rw [if_pos hN]
      obtain ⟨rc, t1, h1, h2⟩ := Out.bind_ok h
      obtain ⟨k1, k2⟩ := ih _ _ _ _ h2 hc
      obtain ⟨k3, k4⟩ := recG_sound hQ hB hcg h1 k2
      rw [k3]
      exact ⟨k1, k4⟩
    · cases h

/-- A loop, round by round. -/
def loopG (body : St → T → Out (Ex × St)) (keep : List Nat) (n : Nat) : Nat → St → T → Out (Ex × St)
  | 0, _, t => .bad 20 t.n
  | k + 1, st, t => (body (clean keep n st) t).bind fun r t => match r with
    | (.nrm, st) => loopG body keep n k st t
    | r => .ok r t

theorem loopG_sound {bodyG : St → T → Out (Ex × St)} {body : St → Option (Ex × St)} (hb : ∀ (st : St) (r : Ex × St) (t t' : T), bodyG st t = .ok r t' → All Q t'.cs → body st = some r ∧ All Q t.cs) {keep : List Nat} {n : Nat} :
    ∀ (k : Nat) (st : St) (r : Ex × St) (t t' : T), loopG bodyG keep n k st t = .ok r t' → All Q t'.cs → loopN body keep n k st = some r ∧ All Q t.cs := by
  intro k
  induction k with
  | zero => intro st r t t' h; simp [loopG] at h
  | succ k ih =>
    intro st r t t' h hc
    simp only [loopG] at h
    simp only [loopN]
    obtain ⟨r1, t1, h1, h2⟩ := Out.bind_ok h
    split at h2
    · rename_i st1
      obtain ⟨k1, k2⟩ := ih _ _ _ _ h2 hc
      obtain ⟨k3, k4⟩ := hb _ _ _ _ h1 k2
      rw [k3]
      exact ⟨k1, k4⟩
    · rename_i hne
      simp only [Out.ok.injEq] at h2
      obtain ⟨rfl, rfl⟩ := h2
      obtain ⟨k3, k4⟩ := hb _ _ _ _ h1 hc
      rw [k3]
      refine ⟨?_, k4⟩
      obtain ⟨e, st1⟩ := r1
      cases e with
      | nrm => exact (hne _ rfl).elim
      | exit i => rfl
      | ret => rfl

/-- Code. -/
def execG (X : Ctx) (cg : CallG) (base N fuel : Nat) : AC → St → T → Out (Ex × St)
  | .skip, st, t => .ok (.nrm, st) t
  | .region ops keep, st, t =>
    (runG X cg base N ops ops.toList { st with og := [] } t).bind fun st t => .ok (.nrm, { st with s := keepS keep st.s, og := [] }) t
  | .draw ops k keep, st, t =>
    if X.P.follows .mixedOrders || !Region.departs ops || backAll ops then
      ((runAG X cg N ops st.h (ops.toList.take k) { st with og := [] } t).bind fun st t => runG X cg base N ops (ops.toList.drop k) st t).bind fun st t => .ok (.nrm, { st with s := keepS keep st.s, og := [] }) t
    else .bad 21 t.n
  | .seq a b, st, t => (execG X cg base N fuel a st t).bind fun r t => match r with
    | (.nrm, st) => execG X cg base N fuel b st t
    | r => .ok r t
  | .cond c a b, st, t => (boolG (st.get X c) t).bind fun x t =>
    match x with
    | true => execG X cg base N fuel a st t
    | false => execG X cg base N fuel b st t
  | .block id b, st, t => (execG X cg base N fuel b st t).bind fun r t => match r with
    | (.exit i, st) => .ok (if i = id then .nrm else .exit i, st) t
    | r => .ok r t
  | .loop keep b, st, t => ev t (.l base N keep b st)
      (fun t => loopG (fun st t => execG X cg base N fuel b st t) keep st.h.length fuel st t)
      (fun w t => match w with
        | .l e st' => .ok (e, st') (t.add fun call => loopN (fun st => exec X call base N fuel b st) keep st.h.length fuel st = some (e, st'))
        | _ => .bad 22 t.n)
  | .exit id, st, t => .ok (.exit id, st) t
  | .ret, st, t => .ok (.ret, st) t
  | .bad, _, t => .bad 23 t.n

include hQ hB hcg in
theorem execG_sound {X : Ctx} {base N fuel : Nat} : ∀ (c : AC) (st : St) (r : Ex × St) (t t' : T), execG X cg base N fuel c st t = .ok r t' → All Q t'.cs → exec X call base N fuel c st = some r ∧ All Q t.cs := by
  intro c
  induction c with
  | skip => intro st r t t' h hc; simp only [execG, Out.ok.injEq] at h; obtain ⟨rfl, rfl⟩ := h; exact ⟨rfl, hc⟩
  | region ops keep =>
    intro st r t t' h hc
    simp only [execG] at h
    obtain ⟨st1, t1, h1, h2⟩ := Out.bind_ok h
    simp only [Out.ok.injEq] at h2
    obtain ⟨rfl, rfl⟩ := h2
    obtain ⟨h3, h4⟩ := runG_sound hQ hB hcg _ _ _ _ _ h1 hc
    simp only [exec, h3]
    exact ⟨trivial, h4⟩
  | draw ops k keep =>
    intro st r t t' h hc
    simp only [execG] at h
    split at h
    · rename_i hm
      obtain ⟨st1, t1, h1, h2⟩ := Out.bind_ok h
      obtain ⟨st2, t2, h3, h4⟩ := Out.bind_ok h1
      simp only [Out.ok.injEq] at h2
      obtain ⟨rfl, rfl⟩ := h2
      obtain ⟨h5, h6⟩ := runG_sound hQ hB hcg _ _ _ _ _ h4 hc
      obtain ⟨h7, h8⟩ := runAG_sound hQ hB hcg _ _ _ _ _ h3 h6
      simp only [exec, runDraw]
      rw [if_pos hm, h7]
      simp only [h5]
      exact ⟨trivial, h8⟩
    · cases h
  | seq x y ihx ihy =>
    intro st r t t' h hc
    simp only [execG] at h
    simp only [exec]
    obtain ⟨r1, t1, h1, h2⟩ := Out.bind_ok h
    split at h2
    · obtain ⟨k1, k2⟩ := ihy _ _ _ _ h2 hc
      obtain ⟨h3, h4⟩ := ihx _ _ _ _ h1 k2
      rw [h3]
      exact ⟨k1, h4⟩
    · rename_i hne
      simp only [Out.ok.injEq] at h2
      obtain ⟨rfl, rfl⟩ := h2
      obtain ⟨h3, h4⟩ := ihx _ _ _ _ h1 hc
      rw [h3]
      refine ⟨?_, h4⟩
      obtain ⟨e, st1⟩ := r1
      cases e with
      | nrm => exact (hne _ rfl).elim
      | exit i => rfl
      | ret => rfl
  | cond c x y ihx ihy =>
    intro st r t t' h hc
    simp only [execG] at h
    simp only [exec]
    obtain ⟨b, t1, h1, h2⟩ := Out.bind_ok h
    cases b with
    | true =>
      obtain ⟨k1, k2⟩ := ihx _ _ _ _ h2 hc
      obtain ⟨h3, h4⟩ := boolG_sound hQ h1 k2
      rw [h3]
      exact ⟨k1, h4⟩
    | false =>
      obtain ⟨k1, k2⟩ := ihy _ _ _ _ h2 hc
      obtain ⟨h3, h4⟩ := boolG_sound hQ h1 k2
      rw [h3]
      exact ⟨k1, h4⟩
  | block id b ih =>
    intro st r t t' h hc
    simp only [execG] at h
    simp only [exec]
    obtain ⟨r1, t1, h1, h2⟩ := Out.bind_ok h
    split at h2
    · simp only [Out.ok.injEq] at h2
      obtain ⟨rfl, rfl⟩ := h2
      obtain ⟨h3, h4⟩ := ih _ _ _ _ h1 hc
      rw [h3]
      exact ⟨rfl, h4⟩
    · rename_i hne
      simp only [Out.ok.injEq] at h2
      obtain ⟨rfl, rfl⟩ := h2
      obtain ⟨h3, h4⟩ := ih _ _ _ _ h1 hc
      rw [h3]
      refine ⟨?_, h4⟩
      obtain ⟨e, st1⟩ := r1
      cases e with
      | nrm => rfl
      | exit i => exact (hne _ _ rfl).elim
      | ret => rfl
  | loop keep b ih =>
    intro st r t t' h hc
    simp only [execG] at h
    simp only [exec]
    rcases ev_ok h with ⟨w, t1, ht, h⟩ | ⟨t1, ht, h⟩
    · split at h
      · simp only [Out.ok.injEq] at h
        obtain ⟨rfl, rfl⟩ := h
        simp only [T.add] at hc
        exact ⟨hQ _ hc.1, by rw [← ht]; exact hc.2⟩
      · cases h
    · obtain ⟨h3, h4⟩ := loopG_sound (fun st r t t' h hc => ih st r t t' h hc) _ _ _ t1 _ h hc
      exact ⟨h3, by rw [← ht]; exact h4⟩
  | exit id => intro st r t t' h hc; simp only [execG, Out.ok.injEq] at h; obtain ⟨rfl, rfl⟩ := h; exact ⟨rfl, hc⟩
  | ret => intro st r t t' h hc; simp only [execG, Out.ok.injEq] at h; obtain ⟨rfl, rfl⟩ := h; exact ⟨rfl, hc⟩
  | bad => intro st r t t' h hc; simp [execG] at h

/-- A function's body. -/
def funG (X : Ctx) (cg : CallG) (fuel : Nat) (f : FuncId) (args : List V) (h : List Ob) (t : T) : Out (V × List Ob) :=
  match xiOf X f args h with
  | some (some r) => .ok r t
  | some none => .bad 35 t.n
  | none =>
  match X.ext f, X.P.funcs[f]? with
  | none, some fn => match fn.body with
    | some c => if fn.name == "runtime.NumGoroutine" then .bad 24 t.n else
      (execG X cg h.length fn.ntmps fuel (annotFn fn c) { s := argEnv 0 (args.map V.copy), h := h, og := [] } t).bind fun r t =>
        match r with
        | (.exit _, _) => .bad 25 t.n
        | (_, st) => match results X fn st with
          | some r => .ok r t
          | none => .bad 26 t.n
    | none => .bad 27 t.n
  | some F, _ => match toDs args with
    | some ds => match F ds with
      | some v => .ok (v, []) t
      | none => .bad 33 t.n
    | none => .bad 34 t.n
  | _, _ => .bad 28 t.n

/-- The body, on the callee of some depth. -/
def bodyC (X : Ctx) (call : CallF) (fuel : Nat) (f : FuncId) (args : List V) (h : List Ob) : Option (V × List Ob) :=
  match xiOf X f args h with
  | some r => r
  | none =>
  match X.ext f, X.P.funcs[f]? with
  | none, some fn => match fn.body with
    | some c => if fn.name == "runtime.NumGoroutine" then none else bodyOn X call fuel fn c (args.map V.copy) h
    | none => none
  | some F, _ => match toDs args with
    | some ds => (F ds).map fun v => (v, [])
    | none => none
  | _, _ => none
theorem toDs_pure : ∀ {vs : List V} {ds : List D}, toDs vs = some ds → vs.all V.pure = true
  | [], _, _ => rfl
  | v :: vs, ds, h => by
    simp only [toDs] at h
    split at h
    · rename_i d ds' hd hds
      simp only [List.all_cons, Bool.and_eq_true]
      exact ⟨by cases v <;> simp [V.toD] at hd <;> rfl, toDs_pure hds⟩
    · cases h

include hQ hB hcg in
theorem funG_sound {X : Ctx} {fuel : Nat} {f : FuncId} {args : List V} {h : List Ob} {r : V × List Ob} {t t' : T} (hh : funG X cg fuel f args h t = .ok r t') (hc : All Q t'.cs) : bodyC X call fuel f args h = some r ∧ All Q t.cs := by
  unfold funG at hh
  cases hxi : xiOf X f args h with
  | some o =>
    rw [hxi] at hh
    cases o with
    | none => cases hh
    | some r0 =>
      simp only [Out.ok.injEq] at hh
      obtain ⟨rfl, rfl⟩ := hh
      refine ⟨?_, hc⟩
      unfold bodyC
      rw [hxi]
  | none =>
  rw [hxi] at hh
  simp only at hh
  split at hh
  · rename_i fn hx hfn
    split at hh
    · rename_i c hb
      split at hh
      · cases hh
      · rename_i hn
        unfold bodyC
        simp only [hxi, hx, hfn, hb]
        rw [if_neg hn]
        obtain ⟨r1, t1, h1, h2⟩ := Out.bind_ok hh
        obtain ⟨e, st⟩ := r1
        have fin : (match results X fn st with | some r => Out.ok r t1 | none => .bad 26 t1.n) = .ok r t' → results X fn st = some r ∧ t1 = t' := by
          intro h3
          split at h3
          · rename_i u hu
            simp only [Out.ok.injEq] at h3
            obtain ⟨rfl, rfl⟩ := h3
            exact ⟨hu, rfl⟩
          · cases h3
        unfold bodyOn
        cases e with
        | exit i => simp at h2
        | nrm =>
          obtain ⟨h3, rfl⟩ := fin h2
          obtain ⟨k1, k2⟩ := execG_sound hQ hB hcg _ _ _ _ _ h1 hc
          rw [k1]
          exact ⟨h3, k2⟩
        | ret =>
          obtain ⟨h3, rfl⟩ := fin h2
          obtain ⟨k1, k2⟩ := execG_sound hQ hB hcg _ _ _ _ _ h1 hc
          rw [k1]
          exact ⟨h3, k2⟩
    · cases hh
  · rename_i F hx
    split at hh
    · rename_i ds hds
      split at hh
      · rename_i v hv
        simp only [Out.ok.injEq] at hh
        obtain ⟨rfl, rfl⟩ := hh
        refine ⟨?_, hc⟩
        unfold bodyC
        simp only [hxi]
        split
        · rename_i h1 h2; rw [hx] at h1; cases h1
        · rename_i F' h1; rw [hx] at h1; cases h1; simp only [hds, hv, Option.map_some]
        · simp_all
      · cases hh
    · cases hh
  · cases hh
end

def callG (X : Ctx) (fuel : Nat) : Nat → CallG
  | 0 => fun _ _ _ t => .bad 29 t.n
  | k + 1 => fun f args h t => funG X (callG X fuel k) fuel f args h t

theorem callOf_succ (X : Ctx) (fuel k : Nat) : CallOf (callN X fuel (k + 1)) (bodyC X (callN X fuel k) fuel) := by
  have rp : ∀ g args v h', args.all V.pure = true → bodyC X (callN X fuel k) fuel g args [] = some (v, h') → runP X (callN X fuel k) fuel g args = some (v, h') := by
    intro g args v h' hap hh
    unfold bodyC at hh
    rw [show xiOf X g args [] = none by unfold xiOf; rw [if_pos hap]] at hh
    simp only at hh
    unfold runP
    split at hh
    · rename_i fn hx hfn
      simp only [hx, hfn]
      split at hh
      · rename_i c hb
        simp only [hb]
        split at hh
        · cases hh
        · rename_i hn
          rw [if_neg hn]
          exact hh
      · cases hh
    · rename_i F hx
      simp only [hx]
      exact hh
    · cases hh
  refine ⟨fun g args v h' hp hh hv => ?_, fun g args v h' hp hh hv => ⟨?_, fun h => ?_⟩, fun g args v h h' hp hh => ?_⟩
  · simp only [callN, rp _ _ _ _ hp hh, hv, if_true]
  · simp [callN, rp _ _ _ _ hp hh, hv]
  · simp only [callN, rp _ _ _ _ hp hh, hp, if_true]
  · simp only [callN, hp]
    unfold runI
    unfold bodyC at hh
    cases hxi : xiOf X g args h with
    | some o =>
      rw [hxi] at hh
      simp only at hh
      subst hh
      unfold xiOf at hxi
      rw [if_neg (by rw [hp]; simp)] at hxi
      split at hxi
      · cases hxi
      · simp only [Option.some.injEq] at hxi
        split at hxi
        · split at hxi
          · rename_i hvl
            simp only [Option.some.injEq, Prod.mk.injEq] at hxi
            obtain ⟨rfl, rfl⟩ := hxi
            simp only [Bool.and_eq_true, beq_iff_eq] at hvl
            rw [if_pos hvl.1, List.take_of_length_le (by omega)]
            simp
          · cases hxi
        · cases hxi
    | none =>
    rw [hxi] at hh
    simp only at hh
    simp only [Bool.false_eq_true, if_false]
    split at hh
    · rename_i fn hx hfn
      simp only [hfn, hx]
      split at hh
      · rename_i c hb
        simp only [hb]
        split at hh
        · cases hh
        · rename_i hn
          simp only [hn, hh]
          simp
          split <;> rfl
      · cases hh
    · rename_i F hx
      split at hh
      · rename_i ds hds
        rw [toDs_pure hds] at hp
        cases hp
      · cases hh
    · cases hh

/-- So many rounds at most; so it is for each depth from some on. -/
def FUEL : Nat := 2 ^ 60
def Ev (X : Ctx) (c : Fact) : Prop := ∃ K, ∀ k, K ≤ k → c (callN X FUEL k)
def Evs (X : Ctx) (cs : List Fact) : Prop := All (Ev X) cs
/-- The function answers so. -/
def Ans (X : Ctx) (f : FuncId) (args : List V) (v : V) : Prop := Ev X fun call => call.p f args = some v
/-- The function's body answers so, and leaves these boxes. -/
def AnsB (X : Ctx) (f : FuncId) (args : List V) (h : List Ob) (v : V) (h' : List Ob) : Prop := Ev X fun call => bodyC X call FUEL f args h = some (v, h')

theorem Ev.pure {X : Ctx} {q : Prop} (h : q) : Ev X fun _ => q := ⟨0, fun _ _ => h⟩

theorem Evs.all {X : Ctx} : ∀ {cs : List Fact}, Evs X cs → ∃ K, All (fun c => ∀ k, K ≤ k → c (callN X FUEL k)) cs
  | [], _ => ⟨0, trivial⟩
  | c :: cs, h => by
    obtain ⟨⟨K1, h1⟩, h2⟩ := h
    obtain ⟨K2, h3⟩ := Evs.all h2
    have mono : ∀ {cs : List Fact}, All (fun c => ∀ k, K2 ≤ k → c (callN X FUEL k)) cs → All (fun c => ∀ k, K1 + K2 ≤ k → c (callN X FUEL k)) cs := by
      intro cs
      induction cs with
      | nil => intro _; trivial
      | cons d ds ih => intro h; exact ⟨fun k hk => h.1 k (by omega), ih h.2⟩
    exact ⟨K1 + K2, fun k hk => h1 k (by omega), mono h3⟩

theorem callG_sound {X : Ctx} {K : Nat} : ∀ d j, K ≤ j → ∀ g args h t r t', callG X FUEL d g args h t = .ok r t' → All (fun c => ∀ k, K ≤ k → c (callN X FUEL k)) t'.cs → bodyC X (callN X FUEL (j + d)) FUEL g args h = some r ∧ All (fun c => ∀ k, K ≤ k → c (callN X FUEL k)) t.cs := by
  intro d
  induction d with
  | zero => intro j _ g args h t r t' hh; simp [callG] at hh
  | succ d ih =>
    intro j hj g args h t r t' hh hc
    simp only [callG] at hh
    have e : j + (d + 1) = (j + d) + 1 := by omega
    rw [e]
    exact funG_sound (fun c hq => hq _ (by omega)) (callOf_succ X FUEL (j + d)) (fun g args h t r t' h1 h2 => ih j hj g args h t r t' h1 h2) hh hc

/-- A PATH of a body. -/
theorem pathB {X : Ctx} (d : Nat) {f : FuncId} {args : List V} {h h' : List Ob} {os : List (Nat × What)} {n : Nat} {ask : Bool} {v : V} {cs : List Fact} (hc : Evs X cs) (hr : callG X FUEL d f args h ⟨0, false, os, []⟩ = .ok (v, h') ⟨n, ask, [], cs⟩) : AnsB X f args h v h' := by
  obtain ⟨K, hK⟩ := hc.all
  refine ⟨K + d, fun k hk => ?_⟩
  have := callG_sound d (k - d) (K := K) (by omega) f args h _ _ _ hr hK
  rw [show k - d + d = k by omega] at this
  exact this.1

theorem AnsB.ans {X : Ctx} {f : FuncId} {args : List V} {v : V} {h' : List Ob} (h : AnsB X f args [] v h') (hp : args.all V.pure = true) (hv : v.pure = true) : Ans X f args v := by
  obtain ⟨K, h⟩ := h
  refine ⟨K + 1, fun k hk => ?_⟩
  obtain ⟨k, rfl⟩ : ∃ j, k = j + 1 := ⟨k - 1, by omega⟩
  exact (callOf_succ X FUEL k).p _ _ _ _ hp (h k (by omega)) hv

/-- A PATH of a function on what is plain. -/
theorem path {X : Ctx} (d : Nat) {f : FuncId} {args : List V} {h' : List Ob} (os : List (Nat × What)) {n : Nat} {ask : Bool} {v : V} {cs : List Fact} (hc : Evs X cs) (hr : callG X FUEL d f args [] ⟨0, false, os, []⟩ = .ok (v, h') ⟨n, ask, [], cs⟩) (hp : args.all V.pure = true) (hv : v.pure = true) : Ans X f args v :=
  (pathB d hc hr).ans hp hv

/- The same, as it is written down. -/
def outV (o : Out (V × List Ob)) : Option (V × List (Nat × What) × List Fact) :=
  match o with
  | .ok r t => some (r.1, t.os, t.cs)
  | _ => none
def outB (o : Out (V × List Ob)) : Option ((V × List Ob) × List (Nat × What) × List Fact) :=
  match o with
  | .ok r t => some (r, t.os, t.cs)
  | _ => none
def outR (o : Out (Ex × St)) : Option ((Ex × St) × List (Nat × What) × List Fact) :=
  match o with
  | .ok r t => some (r, t.os, t.cs)
  | _ => none
theorem pV {X : Ctx} {f : FuncId} {args : List V} {v : V} (d : Nat) (os : List (Nat × What)) {cs : List Fact} (hc : Evs X cs) (hr : outV (callG X FUEL d f args [] ⟨0, false, os, []⟩) = some (v, [], cs)) (hp : args.all V.pure = true) (hv : v.pure = true) : Ans X f args v := by
  unfold outV at hr
  split at hr
  · rename_i r t e
    obtain ⟨v', h'⟩ := r
    obtain ⟨n, a, os', cs'⟩ := t
    simp only [Option.some.injEq, Prod.mk.injEq] at hr
    obtain ⟨rfl, rfl, rfl⟩ := hr
    exact path d os hc e hp hv
  · cases hr
theorem pB {X : Ctx} {f : FuncId} {args : List V} {h h' : List Ob} {v : V} (d : Nat) (os : List (Nat × What)) {cs : List Fact} (hc : Evs X cs) (hr : outB (callG X FUEL d f args h ⟨0, false, os, []⟩) = some ((v, h'), [], cs)) : AnsB X f args h v h' := by
  unfold outB at hr
  split at hr
  · rename_i r t e
    obtain ⟨v', h'⟩ := r
    obtain ⟨n, a, os', cs'⟩ := t
    simp only [Option.some.injEq, Prod.mk.injEq] at hr
    obtain ⟨⟨rfl, rfl⟩, rfl, rfl⟩ := hr
    exact pathB d hc e
  · cases hr
theorem nilE {X : Ctx} : Evs X [] := trivial
theorem cP {X : Ctx} {q : Prop} {cs : List Fact} (h : q) (t : Evs X cs) : Evs X ((fun _ => q) :: cs) := ⟨Ev.pure h, t⟩
theorem cC {X : Ctx} {f : FuncId} {args : List V} {v : V} {cs : List Fact} (h : Ans X f args v) (t : Evs X cs) : Evs X ((fun call => call.p f args = some v) :: cs) := ⟨h, t⟩
theorem cE {X : Ctx} {c : Fact} {cs : List Fact} (h : Ev X c) (t : Evs X cs) : Evs X (c :: cs) := ⟨h, t⟩

theorem Ans.to {X : Ctx} {f : FuncId} {args : List V} {v v' : V} (h : Ans X f args v) (e : v = v') : Ans X f args v' := e ▸ h

/-- What an impure answer of a body is to a caller. -/
theorem AnsB.calli {X : Ctx} {f : FuncId} {args : List V} {h : List Ob} {v : V} {h' : List Ob} (hb : AnsB X f args h v h') (hp : args.all V.pure = false) : Ev X fun call => (args.all V.pure = true → call.p f args = none) ∧ call.i f args h = some (if v.pure then (v, h'.take h.length) else (v, h')) := by
  obtain ⟨K, hb⟩ := hb
  refine ⟨K + 1, fun k hk => ?_⟩
  obtain ⟨k, rfl⟩ : ∃ j, k = j + 1 := ⟨k - 1, by omega⟩
  exact ⟨fun h => (by rw [hp] at h; cases h), (callOf_succ X FUEL k).i _ _ _ _ _ hp (hb k (by omega))⟩

theorem AnsB.new {X : Ctx} {f : FuncId} {args : List V} {v : V} {h' : List Ob} (hb : AnsB X f args [] v h') (hp : args.all V.pure = true) (hv : v.pure = false) (h : List Ob) : Ev X fun call => (args.all V.pure = true → call.p f args = none) ∧ call.i f args h = some (v.shift h.length, h ++ h'.map (Ob.shift h.length)) := by
  obtain ⟨K, hb⟩ := hb
  refine ⟨K + 1, fun k hk => ?_⟩
  obtain ⟨k, rfl⟩ : ∃ j, k = j + 1 := ⟨k - 1, by omega⟩
  obtain ⟨h1, h2⟩ := (callOf_succ X FUEL k).q _ _ _ _ hp (hb k (by omega)) hv
  exact ⟨fun _ => h1, h2 h⟩

/- Loops. -/
/-- From this state on the loop ends so, within m rounds. -/
def Lp (X : Ctx) (base N : Nat) (keep : List Nat) (b : AC) (n m : Nat) (st : St) (r : Ex × St) : Prop := Ev X fun call => loopN (fun st => exec X call base N FUEL b st) keep n m st = some r
/-- One round of it. -/
def Rd (X : Ctx) (base N : Nat) (b : AC) (st : St) (r : Ex × St) : Prop := Ev X fun call => exec X call base N FUEL b st = some r

theorem pathR {X : Ctx} (d : Nat) {base N : Nat} {b : AC} {st : St} {r : Ex × St} (os : List (Nat × What)) {n : Nat} {ask : Bool} {cs : List Fact} (hc : Evs X cs) (hr : execG X (callG X FUEL d) base N FUEL b st ⟨0, false, os, []⟩ = .ok r ⟨n, ask, [], cs⟩) : Rd X base N b st r := by
  obtain ⟨K, hK⟩ := hc.all
  refine ⟨K + d + 1, fun k hk => ?_⟩
  obtain ⟨k, rfl⟩ : ∃ j, k = j + 1 := ⟨k - 1, by omega⟩
  have h1 : k = k - d + d := by omega
  refine (execG_sound (Q := fun c => ∀ k, K ≤ k → c (callN X FUEL k)) (fun c hq => hq _ (by omega)) (callOf_succ X FUEL k) (fun g args h t r t' e1 e2 => ?_) b st r _ _ hr hK).1
  rw [h1]
  exact callG_sound d (k - d) (K := K) (by omega) g args h t r t' e1 e2

theorem pR {X : Ctx} {base N : Nat} {b : AC} {st : St} {r : Ex × St} (d : Nat) (os : List (Nat × What)) {cs : List Fact} (hc : Evs X cs) (hr : outR (execG X (callG X FUEL d) base N FUEL b st ⟨0, false, os, []⟩) = some (r, [], cs)) : Rd X base N b st r := by
  unfold outR at hr
  split at hr
  · rename_i r t e
    obtain ⟨n, a, os', cs'⟩ := t
    simp only [Option.some.injEq, Prod.mk.injEq] at hr
    obtain ⟨rfl, rfl, rfl⟩ := hr
    exact pathR d os hc e
  · cases hr

/-- One round, and what is forgotten behind it. -/
def RdC (X : Ctx) (base N : Nat) (keep : List Nat) (b : AC) (n : Nat) (st st' : St) : Prop := Ev X fun call => ∃ st1, exec X call base N FUEL b st = some (.nrm, st1) ∧ clean keep n st1 = st'
/-- The loop from a state on of which all else is forgotten. -/
def LpC (X : Ctx) (base N : Nat) (keep : List Nat) (b : AC) (n m : Nat) (st : St) (r : Ex × St) : Prop := Ev X fun call => (match exec X call base N FUEL b st with | some (.nrm, st1) => loopN (fun st => exec X call base N FUEL b st) keep n m st1 | r => r) = some r

def outC (keep : List Nat) (n : Nat) (o : Out (Ex × St)) : Option (St × List (Nat × What) × List Fact) :=
  match o with
  | .ok (.nrm, st) t => some (clean keep n st, t.os, t.cs)
  | _ => none
theorem pC {X : Ctx} {base N : Nat} {keep : List Nat} {b : AC} {n : Nat} {st st' : St} (d : Nat) (os : List (Nat × What)) {cs : List Fact} (hc : Evs X cs) (hr : outC keep n (execG X (callG X FUEL d) base N FUEL b st ⟨0, false, os, []⟩) = some (st', [], cs)) : RdC X base N keep b n st st' := by
  unfold outC at hr
  split at hr
  · rename_i st1 t e
    obtain ⟨k, a, os', cs'⟩ := t
    simp only [Option.some.injEq, Prod.mk.injEq] at hr
    obtain ⟨h1, rfl, rfl⟩ := hr
    obtain ⟨K, h⟩ := pathR d os hc e
    exact ⟨K, fun k hk => ⟨st1, h k hk, h1⟩⟩
  · cases hr
theorem RdC.to {X : Ctx} {base N : Nat} {keep : List Nat} {b : AC} {n : Nat} {st st' st'' : St} (h : RdC X base N keep b n st st') (e : st' = st'') : RdC X base N keep b n st st'' := e ▸ h
theorem Rd.to {X : Ctx} {base N : Nat} {b : AC} {st : St} {r r' : Ex × St} (h : Rd X base N b st r) (e : r = r') : Rd X base N b st r' := e ▸ h

theorem LpC.next {X : Ctx} {base N : Nat} {keep : List Nat} {b : AC} {n m : Nat} {st st' : St} {r : Ex × St} (h1 : RdC X base N keep b n st st') (h2 : LpC X base N keep b n m st' r) : LpC X base N keep b n (m + 1) st r := by
  obtain ⟨K1, h1⟩ := h1
  obtain ⟨K2, h2⟩ := h2
  refine ⟨K1 + K2, fun k hk => ?_⟩
  obtain ⟨st1, e1, e2⟩ := h1 k (by omega)
  have := h2 k (by omega)
  simp only at this
  rw [← e2] at this
  simp only [e1]
  unfold loopN
  exact this
theorem LpC.last {X : Ctx} {base N : Nat} {keep : List Nat} {b : AC} {n m : Nat} {st st1 : St} {e : Ex} (h1 : Rd X base N b st (e, st1)) (he : e ≠ .nrm) : LpC X base N keep b n m st (e, st1) := by
  obtain ⟨K1, h1⟩ := h1
  refine ⟨K1, fun k hk => ?_⟩
  have := h1 k hk
  simp only at this
  simp only [this]
  cases e with
  | nrm => exact (he rfl).elim
  | _ => rfl
theorem LpC.start {X : Ctx} {base N : Nat} {keep : List Nat} {b : AC} {n m : Nat} {st st' : St} {r : Ex × St} (h : LpC X base N keep b n m st' r) (hc : clean keep n st = st') : Lp X base N keep b n (m + 1) st r := by
  obtain ⟨K, h⟩ := h
  refine ⟨K, fun k hk => ?_⟩
  have := h k hk
  simp only at this
  rw [← hc] at this
  unfold loopN
  exact this

/- A loop of a function, by its number among the function's loops. -/
def loopsOf : AC → List (List Nat × AC)
  | .seq a b => loopsOf a ++ loopsOf b
  | .cond _ a b => loopsOf a ++ loopsOf b
  | .block _ b => loopsOf b
  | .loop k b => (k, b) :: loopsOf b
  | _ => []
def acOf (X : Ctx) (f : FuncId) : AC :=
  match X.P.funcs[f]? with
  | some fn => match fn.body with
    | some c => annotFn fn c
    | none => .bad
  | none => .bad
def ntOf (X : Ctx) (f : FuncId) : Nat :=
  match X.P.funcs[f]? with
  | some fn => fn.ntmps
  | none => 0
def lpKeep (X : Ctx) (f i : Nat) : List Nat := ((loopsOf (acOf X f)).getD i ([], .bad)).1
def lpBody (X : Ctx) (f i : Nat) : AC := ((loopsOf (acOf X f)).getD i ([], .bad)).2

theorem Lp.next {X : Ctx} {base N : Nat} {keep : List Nat} {b : AC} {n m : Nat} {st st1 : St} {r : Ex × St} (h1 : Rd X base N b (clean keep n st) (.nrm, st1)) (h2 : Lp X base N keep b n m st1 r) : Lp X base N keep b n (m + 1) st r := by
  obtain ⟨K1, h1⟩ := h1
  obtain ⟨K2, h2⟩ := h2
  exact ⟨K1 + K2, fun k hk => by simp only [loopN, h1 k (by omega)]; exact h2 k (by omega)⟩

theorem Lp.last {X : Ctx} {base N : Nat} {keep : List Nat} {b : AC} {n m : Nat} {st st1 : St} {e : Ex} (h1 : Rd X base N b (clean keep n st) (e, st1)) (he : e ≠ .nrm) : Lp X base N keep b n (m + 1) st (e, st1) := by
  obtain ⟨K1, h1⟩ := h1
  refine ⟨K1, fun k hk => ?_⟩
  have := h1 k (by omega)
  simp only at this
  simp only [loopN, this]
  cases e with
  | nrm => exact (he rfl).elim
  | _ => rfl

end Go.Proofs.Ytaobccodpdmieaa.Pv.G
/- Pv: the seat's program: nothing is known of package-level variables, and all functions are run. -/
set_option linter.unusedVariables false
namespace Go.Proofs.Ytaobccodpdmieaa.Pv
open Go
noncomputable def X0 : Ctx := ⟨Try.prog, fun _ => none, fun _ => none, fun _ => false, [], fun _ => none⟩
theorem ext0_ok : ExtOk X0 := fun f F h => by cases h
theorem ext0_iok : ExtIOk X0 := fun f F h => by cases h
theorem ext0_pure : ExtPure X0 := fun f F h => by cases h
theorem glob0 (W : World) (g : Gh) : GlobOk X0 W g := ⟨fun _ => 0, fun i cs hi => by rcases hi with hi | ⟨hi, _⟩ <;> cases hi⟩
end Go.Proofs.Ytaobccodpdmieaa.Pv
/- Pv: from a run that answers true to what a statement asks of a call. -/
set_option linter.unusedSimpArgs false
set_option linter.unusedVariables false
namespace Go.Proofs.Ytaobccodpdmieaa.Pv
open Go Go.ChangeShapes Go.WideShapes Go.RowKit

theorem Keep.below {g g' : Gh} {w w' : World} (k : Keep g w g' w') : Below w.heap.size w w' := ⟨k.os, k.tape, k.output, k.size, k.block⟩

/-- How much of each block there is. -/
def fullE (W : World) : Nat → Nat := fun b => match W.heap[b]? with
  | some (.cells c _ _) => c.size
  | _ => 0

def topG (W : World) : Gh := { μ := [], e := fullE W, own := fun b => if b < W.heap.size then .fgn else .free, pin := ⟨[], fun _ => False⟩ }

theorem law_calls {fuel k : Nat} {f : FuncId} {vs : List V} {vargs : List Value} {b : Bool} (run : (callN X0 fuel k).p f vs = some (.d (.bool b))) (hp : vs.all V.pure = true) {W : World} (hg : GlobOk X0 W (topG W)) (hr : PtV X0 W (topG W) vargs vs) :
    Calls Try.prog f ⟨vargs⟩ W fun E W' => E = .returned (.bool b) ∧ Below W.heap.size W W' := by
  have hf : Fresh (topG W) W := fun b hb => ⟨by simp only [topG]; rw [if_neg (by omega)], by simp only [topG, fullE]; rw [Array.getElem?_eq_none hb]⟩
  obtain ⟨fn, _, _, _, hc⟩ := (callN_ok (X := X0) (fun _ => rfl) ext0_ok ext0_pure ext0_iok fuel k).1 f vs _ run hp W (topG W) vargs hf hg hr (.slot 0) ⟨0, 0, 0, .inl rfl⟩
  refine hc.mono ?_
  rintro E w' ⟨v, g', rfl, hk, hv⟩
  refine ⟨?_, hk.below⟩
  cases hv with | d _ _ _ hv => cases hv; rfl

/-- 'post_of_same' where new blocks may have come. -/
theorem post_of_below {H : Type} {enc : TypeId × Value → H} {P : Program} {f : Func} {s : ChangeSpec} {apart fresh handsOn again : Bool} {W W' : World} {args : Array Value} {v : Value} {ds gs : List (DataW H)} {before pa pv : List MemPlace}
    (hW : DataW.Whole enc P f.params.toList s.vars apart W args.toList ds gs before)
    (hres : ∀ (b : Nat) (sp : Nat → Bool) (hd : Bool), DataW.TrodAll enc P W' b sp hd f.resultTypes.toList (v.resultList f.resultTypes.size) (s.fn H (ds ++ gs)).results [])
    (hargs : ∀ sp : Nat → Bool, (∀ p ∈ before, sp p.block = true) → DataW.TrodAll enc P W' 0 sp true f.params.toList args.toList (s.fn H (ds ++ gs)).args pa)
    (hvars : ∀ sp : Nat → Bool, (∀ p ∈ before, sp p.block = true) → DataW.TrodVars enc P W' sp s.vars (s.fn H (ds ++ gs)).vars pv)
    (hps : before = pa ++ pv) (hb : Below W.heap.size W W')
    (hok : ∀ (j : Nat) (t : TypeId) (r : Value), f.resultTypes[j]? = some t → (v.resultList f.resultTypes.size)[j]? = some r → Value.okWide P W' .any 0 t r) :
    s.post enc P f apart fresh handsOn again W args v W' := by
  have hold : ∀ p ∈ before, (fun b => decide (b < W.heap.size)) p.block = true := fun p hp => by simpa using hW.lt p hp
  have hlt := hW.lt
  refine ⟨ds, gs, before, [], pa, pv, hW, hres _ _ _, hargs _ hold, hvars _ hold, World.keptBut_mono (fun p hp => ⟨hp, ?_⟩) (hb.frame (· ∈ before)), fun _ => ?_⟩
  · rw [hps, List.mem_append] at hp
    exact Or.inr hp
  · obtain ⟨_, _, _, _, _, hz, hn⟩ := hW
    refine ⟨hok, _, _, ([] ++ pa) ++ pv, ⟨[] ++ pa, pv, trodAll_append (hargs _ (fun _ _ => rfl)) (hres _ _ _), hvars _ (fun _ _ => rfl), rfl, ?_, ?_⟩, ?_⟩
    · intro b off hp
      have hp' : MemPlace.cell b off ∈ before := by rw [hps]; simpa using hp
      rw [hb.frozen (p := ⟨b, off, none⟩) (hlt _ hp')]
      exact hz b off hp'
    · intro ha
      have := hn ha
      rw [hps] at this
      simpa using this
    · intro p hp _
      rw [hps]
      simpa using hp

end Go.Proofs.Ytaobccodpdmieaa.Pv
/- Pv: arguments that are structs of whole numbers. -/
set_option linter.unusedSimpArgs false
set_option linter.unusedVariables false
namespace Go.Proofs.Ytaobccodpdmieaa.Pv
open Go Go.ChangeShapes Go.WideShapes Go.RowKit

/-- Whole numbers side by side. -/
def intsV (ns : List Int) : Value := .agg (ns.map (Value.int .i64)).toArray
def intsD (ns : List Int) : V := .d (.agg (ns.map (D.int .i64)))
def in64 (n : Int) : Prop := -9223372036854775808 ≤ n ∧ n ≤ 9223372036854775807

theorem intsV_rep {X : Ctx} {W : World} {g : Gh} {q : Own} (ns : List Int) : RepV X W g q (intsV ns) (intsD ns) := by
  refine .d _ _ _ (.agg _ _ (by simp) fun j v d h1 h2 => ?_)
  simp only [List.getElem?_map] at h1 h2
  cases hn : ns[j]? with
  | none => rw [hn] at h1; cases h1
  | some n => rw [hn] at h1 h2; cases h1; cases h2; exact .int _ _

section
variable {H : Type} {enc : TypeId × Value → H} {P : Program} {w : World} {base b0 : Nat} {spare : Nat → Bool} {held : Bool}

/-- A struct whose fields are ints. -/
theorem open_ints {r : Reach} {t : TypeId} {fs : Array Field} {v : Value} {d : DataW H} {ps : List MemPlace} (ht : P.underlying t = some (.struct fs)) (hn : P.cellsOf t = fs.size)
    (hf : ∀ (i : Nat) (f : Field), fs[i]? = some f → f.offset = i ∧ P.underlying f.type = some (.int .i64) ∧ P.cellsOf f.type = 1)
    (hval : Value.okWide P w r b0 t v) (hd : DataW.Trod enc P w base spare held t v d ps) : ∃ ns : List Int, ns.length = fs.size ∧ v = intsV ns ∧ (∀ n ∈ ns, in64 n) := by
  obtain ⟨cs, rfl, hs⟩ := okWide_struct ht hval
  obtain ⟨fuel, h⟩ := hd
  obtain ⟨xs, n, _, _, hl, hlen, hx⟩ := DataW.trod_struct ht h
  have each : ∀ i, i < fs.size → ∃ z : Int, cs[i]? = some (.int .i64 z) ∧ in64 z := by
    intro i hi
    have hfi : fs[i]? = some fs[i] := Array.getElem?_eq_getElem hi
    obtain ⟨h1, h2, h3⟩ := hf i _ hfi
    have h4 := hx i _ hfi
    rw [h1, h3] at h4
    have hxi : xs[i]? = some (xs[i]'(by omega)) := List.getElem?_eq_getElem _
    rw [hxi] at h4
    obtain ⟨z, h5, _, h6⟩ := DataW.trod_int h2 h4
    have hci : i < cs.size := by omega
    refine ⟨z, ?_, bounds_i64 h6⟩
    have h7 : ((Value.agg cs).cells.toList.drop i).take 1 = [cs[i]] := by
      simp only [Value.cells]
      rw [List.drop_eq_getElem_cons (by simpa using hci)]
      simp
    rw [h7] at h5
    rw [Array.getElem?_eq_getElem hci]
    simpa using h5
  have all : ∀ k, k ≤ fs.size → ∃ ns : List Int, ns.length = k ∧ cs.toList.take k = ns.map (Value.int .i64) ∧ ∀ n ∈ ns, in64 n := by
    intro k
    induction k with
    | zero => intro _; exact ⟨[], rfl, by simp, by simp⟩
    | succ k ih =>
      intro hk
      obtain ⟨ns, h1, h2, h3⟩ := ih (by omega)
      obtain ⟨z, h4, h5⟩ := each k (by omega)
      refine ⟨ns ++ [z], by simp [h1], ?_, fun n hn => ?_⟩
      · rw [List.take_add_one, h2]
        simp [h4]
      · rw [List.mem_append] at hn
        rcases hn with hn | hn
        · exact h3 n hn
        · simp at hn; subst hn; exact h5
  obtain ⟨ns, h1, h2, h3⟩ := all fs.size (Nat.le_refl _)
  refine ⟨ns, h1, ?_, h3⟩
  rw [List.take_of_length_le (by simp; omega)] at h2
  unfold intsV
  rw [← h2]
/-- Is it a struct of n ints? -/
def intsT (P : Program) (t : TypeId) (n : Nat) : Bool :=
  match P.underlying t with
  | some (.struct fs) => fs.size == n && P.cellsOf t == n && fs.toList.zipIdx.all fun x => x.1.offset == x.2 && (match P.underlying x.1.type with | some (.int .i64) => true | _ => false) && P.cellsOf x.1.type == 1
  | _ => false

theorem open_intsT {r : Reach} {t : TypeId} {n : Nat} {v : Value} {d : DataW H} {ps : List MemPlace} (ht : intsT P t n = true)
    (hval : Value.okWide P w r b0 t v) (hd : DataW.Trod enc P w base spare held t v d ps) : ∃ ns : List Int, ns.length = n ∧ v = intsV ns ∧ (∀ n ∈ ns, in64 n) := by
  unfold intsT at ht
  split at ht
  · rename_i fs hu
    simp only [Bool.and_eq_true, beq_iff_eq] at ht
    obtain ⟨⟨h1, h2⟩, h3⟩ := ht
    subst h1
    refine open_ints hu h2 (fun i f hf => ?_) hval hd
    have hm : (f, i) ∈ fs.toList.zipIdx := by rw [List.mem_zipIdx_iff_getElem?]; simpa using hf
    have := List.all_eq_true.1 h3 _ hm
    simp only [Bool.and_eq_true, beq_iff_eq] at this
    refine ⟨this.1.1, ?_, this.2⟩
    have h4 := this.1.2
    split at h4
    · assumption
    · cases h4
  · cases ht
end

end Go.Proofs.Ytaobccodpdmieaa.Pv
/- Pv: whole numbers of 64 bits; the end of a path. -/
set_option linter.unusedSimpArgs false
set_option linter.unusedVariables false
namespace Go.Proofs.Ytaobccodpdmieaa.Pv
open Go G

abbrev bt : G.What := .b true
abbrev bf : G.What := .b false

theorem wrapI (n : Int) : IntKind.wrap .i64 n = (n + 9223372036854775808) % 18446744073709551616 - 9223372036854775808 := by
  simp [IntKind.wrap, IntKind.bits, IntKind.signed]
  split <;> omega
theorem wrapId (n : Int) (h1 : -9223372036854775808 ≤ n) (h2 : n ≤ 9223372036854775807) : IntKind.wrap .i64 n = n := by rw [wrapI]; omega
theorem tdivNn (n m : Int) (h : 0 ≤ n) : Int.tdiv n m = n / m := Int.tdiv_eq_ediv_of_nonneg h
theorem iteMax (a b : Int) : (if b > a then b else a) = max a b := by split <;> omega
theorem iteMin (a b : Int) : (if b < a then b else a) = min a b := by split <;> omega
theorem bEq {a b : Bool} (h : a = b) : V.d (.bool a) = V.d (.bool b) := by rw [h]
theorem quoV {X : Ctx} {t : TypeId} {k : IntKind} {a b : Int} (ht : X.P.underlying t = some (.int k)) (h : b ≠ 0) : binV X .quo t (.d (.int .i64 a)) (.d (.int .i64 b)) = some (.d (.int .i64 (IntKind.wrap .i64 (a.tdiv b)))) := by
  have e : pureRun X.P (execOp (fun z => (((two2 (.d (.int .i64 a)) (.d (.int .i64 b)) z).toD).bind D.toVal).getD undef) ⟨none, .binOp .quo t (.tmp 0) (.tmp 1) t, t, "", #[], none⟩) = some (.value (.int .i64 (IntKind.wrap .i64 (a.tdiv b)))) := by
    unfold execOp
    simp only [two2, V.toD, Option.bind_some, D.toVal, Option.getD_some]
    unfold eqGuard binOp
    simp only
    unfold Op.intDiv
    rw [if_neg h]
    rfl
  unfold binV valOp
  simp only [two2]
  have e1 : unlike X.P t (.d (.int .i64 a)) (.d (.int .i64 b)) = false := by unfold unlike; rw [ht]
  rw [e1]
  simp only [eqOp]
  unfold pureOp
  rw [e]
  rfl
theorem quoI {a b : Int} (h : b ≠ 0) : binV X0 .quo 3 (.d (.int .i64 a)) (.d (.int .i64 b)) = some (.d (.int .i64 (IntKind.wrap .i64 (a.tdiv b)))) := quoV (k := .i64) (by kernel_rfl) h
end Go.Proofs.Ytaobccodpdmieaa.Pv
/- Pv: plain Go types, their values in Lean, and arguments of such types. -/
set_option linter.unusedSimpArgs false
set_option linter.unusedVariables false
namespace Go.Proofs.Ytaobccodpdmieaa.Pv
open Go Go.ChangeShapes Go.WideShapes Go.RowKit

/-- 'st': a struct; its fields: 'cons' and 'nil'. -/
inductive Ty where
  | int (k : IntKind)
  | bool
  | str
  | sl (e : Ty)
  | st (b : Ty)
  | nil
  | cons (a b : Ty)

@[reducible] def Ty.ty : Ty → Type
  | .int _ => Int
  | .bool => Bool
  | .str => List UInt8
  | .sl e => List e.ty
  | .st b => b.ty
  | .nil => Unit
  | .cons a b => a.ty × b.ty

def Ty.size : Ty → Nat
  | .int _ | .bool | .str | .sl _ => 1
  | .st b => b.size
  | .nil => 0
  | .cons a b => a.size + b.size

def Ty.enc : (T : Ty) → T.ty → List D
  | .int k, n => [.int k n]
  | .bool, b => [.bool b]
  | .str, s => [.str s]
  | .sl e, l => [.sl (l.flatMap e.enc) l.length]
  | .st b, x => b.enc x
  | .nil, _ => []
  | .cons a b, x => a.enc x.1 ++ b.enc x.2

def Ty.ok : (T : Ty) → T.ty → Prop
  | .int k, n => (Lit.int k n).wf = true
  | .bool, _ => True
  | .str, s => s.length ≤ reachBytes
  | .sl e, l => l.length ≤ reachBytes ∧ ∀ x ∈ l, e.ok x
  | .st b, x => b.ok x
  | .nil, _ => True
  | .cons a b, x => a.ok x.1 ∧ b.ok x.2

/-- Is it such a type? Are these such fields, from an offset on? -/
def Ty.chk (P : Program) : Ty → (TypeId → Bool) × (List Field → Nat → Bool)
  | .int k => (fun t => (match P.underlying t with | some (.int k') => k' == k | _ => false) && P.cellsOf t == 1, fun _ _ => false)
  | .bool => (fun t => (match P.underlying t with | some .bool => true | _ => false) && P.cellsOf t == 1, fun _ _ => false)
  | .str => (fun t => (match P.underlying t with | some .string => true | _ => false) && P.cellsOf t == 1, fun _ _ => false)
  | .sl e => (fun t => (match P.underlying t with | some (.slice te) => (e.chk P).1 te && P.cellsOf te == e.size && e.size != 0 && P.bytesOf te != 0 | _ => false) && P.cellsOf t == 1, fun _ _ => false)
  | .st b => (fun t => (match P.underlying t with | some (.struct fs) => (b.chk P).2 fs.toList 0 | _ => false) && P.cellsOf t == b.size, fun _ _ => false)
  | .nil => (fun _ => false, fun fs _ => fs.isEmpty)
  | .cons a b => (fun _ => false, fun fs off => match fs with
    | f :: fs => f.offset == off && P.cellsOf f.type == a.size && (a.chk P).1 f.type && (b.chk P).2 fs (off + a.size)
    | [] => false)

theorem Ty.enc_length : ∀ (T : Ty) (x : T.ty), (T.enc x).length = T.size
  | .int _, _ | .bool, _ | .str, _ | .sl _, _ | .nil, _ => rfl
  | .st b, x => Ty.enc_length b x
  | .cons a b, x => by simp only [Ty.enc, Ty.size, List.length_append, Ty.enc_length a, Ty.enc_length b]

theorem flat_len {α : Type} (f : α → List D) (z : Nat) (h : ∀ x, (f x).length = z) : ∀ l : List α, (l.flatMap f).length = l.length * z
  | [] => by simp
  | x :: l => by rw [List.flatMap_cons, List.length_append, h, flat_len f z h l, List.length_cons, Nat.add_mul]; omega

theorem PtD.append' {w : World} {e : Nat → Nat} {a b : List Value} {x y : List D} (h1 : PtD w e a x) (h2 : PtD w e b y) : PtD w e (a ++ b) (x ++ y) := h1.append h2

section
variable {H : Type} {enc : TypeId × Value → H} {P : Program} {W : World} {spare : Nat → Bool} {held : Bool}

def OpenC (H : Type) (enc : TypeId × Value → H) (P : Program) (W : World) (spare : Nat → Bool) (held : Bool) (T : Ty) : Prop :=
  (∀ t, (T.chk P).1 t = true → ∀ fuel cs x, DataW.trod enc P W 0 spare held fuel t cs = some x → (∀ n ∈ x.1.weights P t, n ≤ reachBytes) → ∃ y : T.ty, T.ok y ∧ PtD W (fullE W) cs (T.enc y)) ∧
  (∀ fs off, (T.chk P).2 fs off = true → ∀ cs : List Value, off + T.size ≤ cs.length → (∀ f ∈ fs, ∃ n x, DataW.trod enc P W 0 spare held n f.type ((cs.drop f.offset).take (P.cellsOf f.type)) = some x ∧ ∀ n ∈ x.1.weights P f.type, n ≤ reachBytes) →
    ∃ y : T.ty, T.ok y ∧ PtD W (fullE W) ((cs.drop off).take T.size) (T.enc y))

theorem ptd_one {w : World} {e : Nat → Nat} {v : Value} {d : D} (h : RepD w e v d) : PtD w e [v] [d] := by
  refine ⟨rfl, fun j v' d' h1 h2 => ?_⟩
  match j with
  | 0 => simp at h1 h2; subst h1; subst h2; exact h
  | j + 1 => simp at h1

theorem weights_mem_all {P : Program} {e : TypeId} {d : DataW H} : ∀ {ds : List (DataW H)}, d ∈ ds → ∀ n ∈ d.weights P e, n ∈ DataW.weightsAll P e ds
  | x :: r, h, n, hn => by
    simp only [DataW.weightsAll, List.mem_append]
    rcases List.mem_cons.1 h with rfl | h
    · exact .inl hn
    · exact .inr (weights_mem_all h n hn)

theorem openC : ∀ T : Ty, OpenC H enc P W spare held T := by
  intro T
  induction T with
  | int k =>
    refine ⟨fun t ht fuel cs x h hw => ?_, fun fs off h => by simp [Ty.chk] at h⟩
    simp only [Ty.chk, Bool.and_eq_true] at ht
    obtain ⟨ht, _⟩ := ht
    split at ht
    · rename_i k' hu
      have : k' = k := by simpa using ht
      subst this
      obtain ⟨n, rfl, _, hwf⟩ := DataW.trod_int hu h
      exact ⟨n, hwf, ptd_one (.int _ _)⟩
    · cases ht
  | bool =>
    refine ⟨fun t ht fuel cs x h hw => ?_, fun fs off h => by simp [Ty.chk] at h⟩
    simp only [Ty.chk, Bool.and_eq_true] at ht
    obtain ⟨ht, _⟩ := ht
    split at ht
    · rename_i hu
      obtain ⟨b, rfl, _⟩ := DataW.trod_bool hu h
      exact ⟨b, trivial, ptd_one (.bool _)⟩
    · cases ht
  | str =>
    refine ⟨fun t ht fuel cs x h hw => ?_, fun fs off h => by simp [Ty.chk] at h⟩
    simp only [Ty.chk, Bool.and_eq_true] at ht
    obtain ⟨ht, _⟩ := ht
    split at ht
    · rename_i hu
      obtain ⟨s, rfl, rfl, _⟩ := DataW.trod_string hu h
      exact ⟨s.data.toList, hw _ (by simp [DataW.weights]), ptd_one (.str s.data.toList)⟩
    · cases ht
  | sl e ih =>
    refine ⟨fun t ht fuel cs x h hw => ?_, fun fs off h => by simp [Ty.chk] at h⟩
    simp only [Ty.chk, Bool.and_eq_true] at ht
    obtain ⟨ht, _⟩ := ht
    split at ht
    · rename_i te hu
      simp only [Bool.and_eq_true, beq_iff_eq, bne_iff_ne, ne_eq] at ht
      obtain ⟨⟨⟨hte, hsz⟩, hs0⟩, hby⟩ := ht
      rcases Go.Deep.open_slice hu h with ⟨rfl, _⟩ | ⟨a, len, cap, m, n, Df, Pl, rfl, _, hlc, hcm, hm, hxx, hx⟩
      · exact ⟨[], ⟨by simp, by simp⟩, ptd_one (.sl0 none 0 fun _ => rfl)⟩
      · have hlm : len ≤ m := by rw [hm]; split <;> omega
        have hwl : len ≤ reachBytes := by
          subst hxx
          have h1 := hw ((((List.range len).map Df).length + ((List.range (m - len)).map fun j => Df (len + j)).length) * P.bytesOf te) (by simp only [DataW.weights, hu]; exact List.mem_cons_self ..)
          simp only [List.length_map, List.length_range] at h1
          have h2 : len * 1 ≤ (len + (m - len)) * P.bytesOf te := Nat.mul_le_mul (Nat.le_add_right _ _) (Nat.pos_of_ne_zero hby)
          omega
        have hwe : ∀ i, i < len → ∀ n ∈ (Df i).weights P te, n ≤ reachBytes := by
          subst hxx
          intro i hi n hn
          refine hw n ?_
          simp only [DataW.weights, hu]
          refine List.mem_cons_of_mem _ (List.mem_append_left _ ?_)
          exact weights_mem_all (List.mem_map.2 ⟨i, List.mem_range.2 hi, rfl⟩) n hn
        rw [hsz] at hx
        have one : ∀ i, i < len → ∃ (cs' : List Value) (y : e.ty), e.ok y ∧ PtD W (fullE W) cs' (e.enc y) ∧ cs'.length = e.size ∧ ∀ j v, cs'[j]? = some v → W.cell? ((a.add (i * e.size)).add j) = some v := by
          intro i hi
          obtain ⟨cs', h1, h2⟩ := hx i (by omega)
          obtain ⟨y, h3, h4⟩ := ih.1 te hte n cs' _ h2 (hwe i hi)
          obtain ⟨_, h5, h6⟩ := World.cells?_some h1
          refine ⟨cs', y, h3, h4, h5, fun j v hj => ?_⟩
          have hlt : j < e.size := by rw [← h5]; exact (List.getElem?_eq_some_iff.1 hj).1
          rw [h6 j hlt, hj]
        by_cases h0 : len = 0
        · subst h0
          exact ⟨[], ⟨by simp, by simp⟩, ptd_one (.sl0 _ _ (by simp))⟩
        · have hspot : a.spot = none := by
            obtain ⟨cs', y, _, _, h3, h4⟩ := one 0 (by omega)
            have hc0 : ∃ v, cs'[0]? = some v := ⟨cs'[0]'(by omega), List.getElem?_eq_getElem _⟩
            obtain ⟨v, hv⟩ := hc0
            have := h4 0 v hv
            simp only [Nat.zero_mul, Addr.add, if_true] at this
            unfold World.cell? at this
            split at this
            · split at this
              · cases this
              · rename_i hs; simpa using hs
            · cases this
          obtain ⟨b, o, sp⟩ := a
          simp only at hspot
          subst hspot
          have all : ∀ k, k ≤ len → ∃ (l : List e.ty) (vals : List Value), l.length = k ∧ (∀ x ∈ l, e.ok x) ∧ PtD W (fullE W) vals (l.flatMap e.enc) ∧ vals.length = k * e.size ∧ ∀ j v, vals[j]? = some v → W.cell? ⟨b, o + j, none⟩ = some v := by
            intro k
            induction k with
            | zero => intro _; exact ⟨[], [], rfl, by simp, ⟨rfl, by simp⟩, by simp, by simp⟩
            | succ k ihk =>
              intro hk
              obtain ⟨l, vals, h1, h2, h3, h4, h5⟩ := ihk (by omega)
              obtain ⟨cs', y, k1, k2, k3, k4⟩ := one k (by omega)
              refine ⟨l ++ [y], vals ++ cs', by simp [h1], ?_, ?_, by rw [List.length_append, h4, k3, Nat.add_mul]; omega, fun j v hj => ?_⟩
              · intro x hx'
                rw [List.mem_append] at hx'
                rcases hx' with hx' | hx'
                · exact h2 x hx'
                · simp at hx'; subst hx'; exact k1
              · rw [List.flatMap_append]
                simp only [List.flatMap_cons, List.flatMap_nil, List.append_nil]
                exact h3.append k2
              · rw [List.getElem?_append] at hj
                split at hj
                · exact h5 j v hj
                · rename_i hlt
                  rw [h4] at hj hlt
                  have := k4 _ v hj
                  rw [Addr.add_lit, Addr.add_lit] at this
                  rw [show o + j = o + k * e.size + (j - k * e.size) by omega]
                  exact this
          obtain ⟨l, vals, h1, h2, h3, h4, h5⟩ := all len (Nat.le_refl _)
          have hpos : 0 < len * e.size := Nat.mul_pos (by omega) (by omega)
          refine ⟨l, ⟨by rw [h1]; exact hwl, h2⟩, ptd_one ?_⟩
          rw [h1]
          refine .sl b o len cap _ vals hlc h3.1 ?_ h5 h3.2
          rw [← h3.1, h4]
          have hl : ∃ v, vals[len * e.size - 1]? = some v := ⟨vals[len * e.size - 1]'(by omega), List.getElem?_eq_getElem _⟩
          obtain ⟨v, hv⟩ := hl
          have hc := h5 _ v hv
          unfold World.cell? at hc
          unfold fullE
          split at hc
          · rename_i c _ _ hb
            simp only [hb]
            simp at hc
            have := (Array.getElem?_eq_some_iff.1 hc).1
            omega
          · cases hc
    · cases ht
  | st b ih =>
    refine ⟨fun t ht fuel cs x h hw => ?_, fun fs off h => by simp [Ty.chk] at h⟩
    simp only [Ty.chk, Bool.and_eq_true, beq_iff_eq] at ht
    obtain ⟨ht, hsz⟩ := ht
    split at ht
    · rename_i fs hu
      obtain ⟨xs, n, _, hxx, hl, hlen, hx⟩ := DataW.trod_struct hu h
      obtain ⟨y, h1, h2⟩ := ih.2 fs.toList 0 ht cs (by omega) (fun f hf => by
        obtain ⟨i, hi, rfl⟩ := List.mem_iff_getElem.1 hf
        have hi' : i < fs.size := by simpa using hi
        have := hx i fs[i] (Array.getElem?_eq_getElem hi')
        rw [List.getElem?_eq_getElem (show i < xs.length by omega)] at this
        refine ⟨n, xs[i]'(by omega), by simpa using this, fun k hk => hw k ?_⟩
        rw [hxx]
        simp only [DataW.weights, hu]
        refine DataW.weights_mem_each (j := i) (t := (fs[i]).type) (d := (xs[i]'(by omega)).1) (by simp [hi']) (by simp [show i < xs.length by omega]) k ?_
        simpa using hk)
      refine ⟨y, h1, ?_⟩
      rw [List.drop_zero, List.take_of_length_le (by omega)] at h2
      exact h2
    · cases ht
  | nil =>
    refine ⟨fun t ht => by simp [Ty.chk] at ht, fun fs off h cs _ _ => ⟨(), trivial, ?_⟩⟩
    simp only [Ty.size, List.take_zero]
    exact ⟨rfl, by simp⟩
  | cons a b iha ihb =>
    refine ⟨fun t ht => by simp [Ty.chk] at ht, fun fs off h cs hcs hf => ?_⟩
    simp only [Ty.chk] at h
    split at h
    · rename_i f fs
      simp only [Bool.and_eq_true, beq_iff_eq] at h
      obtain ⟨⟨⟨h1, h2⟩, h3⟩, h4⟩ := h
      simp only [Ty.size] at hcs
      obtain ⟨n, x, hx, hxw⟩ := hf f (List.mem_cons_self ..)
      obtain ⟨y, k1, k2⟩ := iha.1 _ h3 _ _ _ hx hxw
      obtain ⟨z, k3, k4⟩ := ihb.2 fs (off + a.size) h4 cs (by omega) (fun g hg => hf g (List.mem_cons_of_mem _ hg))
      refine ⟨(y, z), ⟨k1, k3⟩, ?_⟩
      rw [h1, h2] at k2
      have : (cs.drop off).take (Ty.size (.cons a b)) = (cs.drop off).take a.size ++ (cs.drop (off + a.size)).take b.size := by
        simp only [Ty.size]
        rw [List.take_add, List.drop_drop]
      rw [this]
      exact k2.append k4
    · cases h

/-- An argument. -/
def Ty.argD : (T : Ty) → T.ty → D
  | .int k, n => .int k n
  | .bool, b => .bool b
  | .str, s => .str s
  | .sl e, l => .sl (l.flatMap e.enc) l.length
  | .st b, x => .agg (b.enc x)
  | .nil, _ => .und
  | .cons _ _, _ => .und

theorem ptd_head {w : World} {e : Nat → Nat} {v : Value} {d : D} (h : PtD w e [v] [d]) : RepD w e v d := h.2 0 v d rfl rfl

theorem open_arg {T : Ty} {t : TypeId} {r : Reach} {b0 : Nat} {v : Value} {d : DataW H} {ps : List MemPlace} (ht : (T.chk P).1 t = true) (hval : Value.okWide P W r b0 t v) (h : DataW.Trod enc P W 0 spare held t v d ps) (hwt : ∀ n ∈ d.weights P t, n ≤ reachBytes) :
    ∃ y : T.ty, T.ok y ∧ ∀ (X : Ctx) (q : Own), RepV X W (topG W) q v (.d (T.argD y)) := by
  obtain ⟨fuel, h⟩ := h
  obtain ⟨y, h1, h2⟩ := (openC T).1 t ht _ _ _ h hwt
  refine ⟨y, h1, fun X q => .d _ _ _ ?_⟩
  show RepD W (fullE W) v (T.argD y)
  cases T with
  | int k =>
    simp only [Ty.chk, Bool.and_eq_true] at ht
    obtain ⟨ht, _⟩ := ht
    split at ht
    · rename_i k' hu
      obtain ⟨n, rfl⟩ := okWide_int hu hval
      exact ptd_head h2
    · cases ht
  | bool =>
    simp only [Ty.chk, Bool.and_eq_true] at ht
    obtain ⟨ht, _⟩ := ht
    split at ht
    · rename_i hu
      obtain ⟨n, rfl⟩ := okWide_bool hu hval
      exact ptd_head h2
    · cases ht
  | str =>
    simp only [Ty.chk, Bool.and_eq_true] at ht
    obtain ⟨ht, _⟩ := ht
    split at ht
    · rename_i hu
      obtain ⟨n, rfl⟩ := okWide_string hu hval
      exact ptd_head h2
    · cases ht
  | sl e =>
    simp only [Ty.chk, Bool.and_eq_true] at ht
    obtain ⟨ht, _⟩ := ht
    split at ht
    · rename_i te hu
      obtain ⟨a, n, c, rfl⟩ := okWide_slice hu hval
      exact ptd_head h2
    · cases ht
  | st b =>
    simp only [Ty.chk, Bool.and_eq_true] at ht
    obtain ⟨ht, _⟩ := ht
    split at ht
    · rename_i fs hu
      obtain ⟨cs, rfl, _⟩ := okWide_struct hu hval
      exact .agg cs.toList _ h2.1 h2.2
    · cases ht
  | nil => simp [Ty.chk] at ht
  | cons a b => simp [Ty.chk] at ht
end

end Go.Proofs.Ytaobccodpdmieaa.Pv
/- Pv: what loads, addresses, slices and appends come to on typed lists. -/
set_option linter.unusedSimpArgs false
set_option linter.unusedVariables false
namespace Go.Proofs.Ytaobccodpdmieaa.Pv
open Go G

def Ty.dflt : (T : Ty) → T.ty
  | .int _ => (0 : Int)
  | .bool => false
  | .str => ([] : List UInt8)
  | .sl e => ([] : List e.ty)
  | .st b => b.dflt
  | .nil => ()
  | .cons a b => (a.dflt, b.dflt)

/-- An element. -/
def Ty.nth (e : Ty) (l : List e.ty) (k : Nat) : e.ty := l.getD k e.dflt

/-- A list as a slice's data. -/
abbrev Ty.slD (e : Ty) (l : List e.ty) : D := .sl (l.flatMap e.enc) l.length
/-- .. in a slot that it is appended to in. -/
abbrev Ty.tailV (e : Ty) (E : TypeId) (l : List e.ty) : V := .tail E (l.flatMap e.enc) l.length

theorem flat_nth {α : Type} (f : α → List D) (z : Nat) (h : ∀ x, (f x).length = z) (d : α) : ∀ (l : List α) (k : Nat), k < l.length → ((l.flatMap f).drop (k * z)).take z = f (l.getD k d)
  | [], _, hk => by simp at hk
  | x :: l, 0, _ => by simp [List.flatMap_cons, ← h x]
  | x :: l, k + 1, hk => by
    have e : (k + 1) * z = (f x).length + k * z := by rw [h x, Nat.add_mul]; omega
    rw [List.flatMap_cons, e, ← List.drop_drop, List.drop_left]
    rw [flat_nth f z h d l k (by simpa using hk)]
    rfl

theorem flat_get {α : Type} (f : α → List D) (z : Nat) (h : ∀ x, (f x).length = z) (d : α) (l : List α) (k o : Nat) (hk : k < l.length) (ho : o < z) : (l.flatMap f)[k * z + o]? = (f (l.getD k d))[o]? := by
  have := flat_nth f z h d l k hk
  rw [← this, List.getElem?_take, if_pos ho, List.getElem?_drop]

theorem toNatPred (k : Nat) : ((k : Int) - 1).toNat = k - 1 := by omega
theorem toNatSucc (k : Nat) : ((k : Int) + 1).toNat = k + 1 := by omega

/-- The address of an element. -/
theorem iaddrSl {X : Ctx} {t te : TypeId} {z : Nat} (ht : X.P.underlying t = some (.slice te)) (hz : sizeT X.P te = some z) {c : List D} {n : Nat} {K : IntKind} {i : Int} (h0 : 0 ≤ i) (hi : i < n) (hl : c.length = n * z) :
    iaddrV X t (.d (.sl c n)) (.d (.int K i)) = some (.d (.ref c (i.toNat * z))) := by
  unfold iaddrV indexAddrOp
  simp only [two2, ht, hz, V.slice?]
  rw [if_pos h0, if_pos ⟨hi, hl⟩]

/-- An element that is an aggregate. -/
theorem loadAgg {X : Ctx} {h : List Ob} {t : TypeId} {e : Ty} (hz : sizeT X.P t = some e.size) (ha : aggT X.P t = some true) {l : List e.ty} {k : Nat} (hk : k < l.length) :
    loadV X h t (.d (.ref (l.flatMap e.enc) (k * e.size))) = some (.d (.agg (e.enc (e.nth l k)))) := by
  unfold loadV loadOp
  simp only [one1, partD, hz, ha]
  have hlen := flat_len e.enc e.size e.enc_length l
  have hm : (k + 1) * e.size ≤ l.length * e.size := Nat.mul_le_mul_right _ hk
  rw [Nat.add_mul] at hm
  rw [if_pos (by omega), flat_nth e.enc e.size e.enc_length e.dflt l k hk]
  rfl

/-- A part of an element that is an aggregate itself. -/
theorem loadPart {X : Ctx} {h : List Ob} {t : TypeId} {e : Ty} {z1 : Nat} (hz : sizeT X.P t = some z1) (ha : aggT X.P t = some true) {l : List e.ty} {k o : Nat} (hk : k < l.length) (ho : o + z1 ≤ e.size) :
    loadV X h t (.d (.ref (l.flatMap e.enc) (k * e.size + o))) = some (.d (.agg (((e.enc (e.nth l k)).drop o).take z1))) := by
  unfold loadV loadOp
  simp only [one1, partD, hz, ha]
  have hlen := flat_len e.enc e.size e.enc_length l
  have hm : (k + 1) * e.size ≤ l.length * e.size := Nat.mul_le_mul_right _ hk
  rw [Nat.add_mul] at hm
  have key : (((l.flatMap e.enc).drop (k * e.size + o)).take z1) = ((e.enc (e.nth l k)).drop o).take z1 := by
    rw [Ty.nth, ← flat_nth e.enc e.size e.enc_length e.dflt l k hk, List.drop_take, List.take_take, List.drop_drop, Nat.min_eq_left (by omega)]
  rw [if_pos (by omega), key]
  rfl

/-- One cell of an element. -/
theorem loadCell {X : Ctx} {h : List Ob} {t : TypeId} {e : Ty} {z1 : Nat} (hz : sizeT X.P t = some z1) (ha : aggT X.P t = some false) {l : List e.ty} {k o : Nat} (hk : k < l.length) (ho : o < e.size) :
    loadV X h t (.d (.ref (l.flatMap e.enc) (k * e.size + o))) = some (.d ((e.enc (e.nth l k)).getD o .und)) := by
  unfold loadV loadOp
  simp only [one1, partD, hz, ha]
  have hlt : o < (e.enc (e.nth l k)).length := by rw [e.enc_length]; exact ho
  have key : (e.enc (e.nth l k))[o]? = some ((e.enc (e.nth l k)).getD o .und) := by
    rw [List.getD_eq_getElem?_getD, List.getElem?_eq_getElem hlt]; rfl
  rw [flat_get e.enc e.size e.enc_length e.dflt l k o hk ho]
  show Option.map V.d ((e.enc (e.nth l k))[o]?) = _
  rw [key]
  rfl

/-- One element is appended. -/
theorem appendOne {X : Ctx} {t E : TypeId} {e : Ty} {i : TypeInfo} (hE : elemT X.P t = some E) (hi : X.P.info? E = some i) (hsz : i.size = e.size) (h0 : i.size ≠ 0) (hb : i.bytes ≤ 4096) (hzz : (zeroT X.P E).any (fun z => z.cells.length == i.size) = true)
    {l : List e.ty} (x : e.ty) (hone : (e.enc x).all D.one = true) (hl : l.length < 2 ^ 34) :
    appendV X t t (e.tailV E l) (.full (e.enc x) 1) = some (e.tailV E (l ++ [x])) := by
  have hs : srcOf X.P t (.full (e.enc x) 1) = some (e.enc x, 1) := by
    unfold elemT at hE
    unfold srcOf
    split at hE
    · rename_i hu
      rw [hu]
      rfl
    · cases hE
  unfold appendV
  have hi' : (elemT X.P t).bind (X.P.info? ·) = some i := by rw [hE]; exact hi
  rw [hi', hs, hE]
  simp only
  rw [if_pos (by simp only [Bool.and_eq_true]; exact ⟨⟨⟨by simp [h0], by simp [e.enc_length, hsz]⟩, hone⟩, hzz⟩)]
  rw [if_pos ⟨trivial, by rw [flat_len e.enc e.size e.enc_length, hsz]⟩]
  have h1 : (l.length + 1) * i.bytes ≤ (2 ^ 34 + 1) * 4096 := Nat.mul_le_mul (by omega) hb
  rw [if_pos ⟨by simp only [bigLen]; omega, by simp only [bigLen]; omega⟩]
  simp [Ty.tailV, List.flatMap_append]

theorem flat_take {α : Type} (f : α → List D) (z : Nat) (h : ∀ x, (f x).length = z) : ∀ (l : List α) (k : Nat), (l.flatMap f).take (k * z) = (l.take k).flatMap f
  | [], k => by simp
  | x :: l, 0 => by simp
  | x :: l, k + 1 => by
    have e : (k + 1) * z = (f x).length + k * z := by rw [h x, Nat.add_mul]; omega
    rw [List.take_succ_cons, List.flatMap_cons, List.flatMap_cons, e, List.take_append, List.take_of_length_le (by omega), Nat.add_sub_cancel_left, flat_take f z h l k]
theorem flat_drop {α : Type} (f : α → List D) (z : Nat) (h : ∀ x, (f x).length = z) : ∀ (l : List α) (k : Nat), (l.flatMap f).drop (k * z) = (l.drop k).flatMap f
  | [], k => by simp
  | x :: l, 0 => by simp
  | x :: l, k + 1 => by
    have e : (k + 1) * z = (f x).length + k * z := by rw [h x, Nat.add_mul]; omega
    rw [List.drop_succ_cons, List.flatMap_cons, e, ← List.drop_drop, List.drop_left, flat_drop f z h l k]

/-- A part of a list. -/
theorem sliceSl {X : Ctx} {t te : TypeId} {e : Ty} (ht : X.P.underlying t = some (.slice te)) (hz : sizeT X.P te = some e.size) {l : List e.ty} {a b : Int} (h0 : 0 ≤ a) (h1 : a ≤ b) (h2 : b ≤ l.length) :
    sliceV X t (.d (e.slD l)) (some (.d (.int .i64 a))) (some (.d (.int .i64 b))) none = some (.d (e.slD ((l.take b.toNat).drop a.toNat))) := by
  have hb : 0 ≤ b := by omega
  have hlen := flat_len e.enc e.size e.enc_length l
  unfold sliceV sliceOp
  simp only [four4, ht, Ty.slD, V.slice?, hz, boundOf, Option.getD_some, Option.map_some, Option.map_none, if_pos h0, if_pos hb]
  rw [if_pos ⟨by omega, by omega, hlen⟩, flat_take _ _ e.enc_length, flat_drop _ _ e.enc_length]
  have : b.toNat - a.toNat = ((l.take b.toNat).drop a.toNat).length := by rw [List.length_drop, List.length_take]; omega
  rw [this]

/-- A list is appended. -/
theorem appendList {X : Ctx} {t u E : TypeId} {e : Ty} {i : TypeInfo} (hE : elemT X.P t = some E) (hu : (elemT X.P u).isSome = true) (hi : X.P.info? E = some i) (hsz : i.size = e.size) (h0 : i.size ≠ 0) (hb : i.bytes ≤ 4096) (hzz : (zeroT X.P E).any (fun z => z.cells.length == i.size) = true)
    (hone : ∀ x, (e.enc x).all D.one = true) {l m : List e.ty} {x : V} (hx : x.slice? = some (m.flatMap e.enc, m.length)) (hl : l.length < 2 ^ 33) (hm : m.length < 2 ^ 33) :
    appendV X t u (e.tailV E l) x = some (e.tailV E (l ++ m)) := by
  have hs : srcOf X.P u x = some (m.flatMap e.enc, m.length) := by
    obtain ⟨e', he⟩ := Option.isSome_iff_exists.1 hu
    unfold elemT at he
    unfold srcOf
    split at he
    · rename_i hu'
      rw [hu']
      exact hx
    · cases he
  have hall : (m.flatMap e.enc).all D.one = true := by
    rw [List.all_eq_true]
    intro d hd
    obtain ⟨y, _, hy⟩ := List.mem_flatMap.1 hd
    exact List.all_eq_true.1 (hone y) d hy
  unfold appendV
  have hi' : (elemT X.P t).bind (X.P.info? ·) = some i := by rw [hE]; exact hi
  rw [hi', hs, hE]
  simp only
  rw [if_pos (by simp only [Bool.and_eq_true]; exact ⟨⟨⟨by simp [h0], by simp [flat_len e.enc e.size e.enc_length, hsz]⟩, hall⟩, hzz⟩)]
  rw [if_pos ⟨trivial, by rw [flat_len e.enc e.size e.enc_length, hsz]⟩]
  have h1 : (l.length + m.length) * i.bytes ≤ (2 ^ 34) * 4096 := Nat.mul_le_mul (by omega) hb
  rw [if_pos ⟨by simp only [bigLen]; omega, by simp only [bigLen]; omega⟩]
  simp [Ty.tailV, List.flatMap_append]

end Go.Proofs.Ytaobccodpdmieaa.Pv
/- Points: types, and the statements of runs, second part: cells.Stops. -/
set_option linter.unusedVariables false
namespace Go.Proofs.Ytaobccodpdmieaa.Points
open Go Pv G
abbrev i64 : Ty := .int .i64
abbrev cellT : Ty := .st (.cons (.int .i32) (.cons i64 (.cons i64 (.cons i64 .nil))))
abbrev Cell := cellT.ty
def Cell.kind (c : Cell) : Int := c.2.1
def Cell.at (c : Cell) : Int := c.2.2.2.1
abbrev boolT : Ty := .bool

/-- Is the k'th cell of a line a stop? -/
def stopAt (l : List Cell) (k : Nat) : Bool :=
  Cell.kind (cellT.nth l k) == 1 || Cell.kind (cellT.nth l k) == 3 || (Cell.kind (cellT.nth l k) == 2 && (k == 0 || Cell.at (cellT.nth l (k - 1)) != Cell.at (cellT.nth l k)))
def stopsTo (l : List Cell) (k : Nat) : List Bool := (List.range k).map (stopAt l)

abbrev FS : Nat := 58
abbrev stS (l : List Cell) (out : List Bool) (k : Nat) : St :=
  ⟨[(0, .d (cellT.slD l)), (3, boolT.tailV 4 out), (7, .d (cellT.slD l)), (8, .d (.int .i64 l.length)), (9, .d (.int .i64 k))], [], []⟩
def stopsRound_T : Prop := ∀ (l : List Cell) (k : Nat) (out : List Bool) (hl : l.length < 1000000) (hk : k < l.length) (ho : out.length < 1000001),
  RdC X0 0 (ntOf X0 FS) (lpKeep X0 FS 0) (lpBody X0 FS 0) 0 (stS l out k) (stS l (out ++ [stopAt l k]) (k + 1))
abbrev stSx (l : List Cell) (out : List Bool) : St :=
  ⟨[(0, .d (cellT.slD l)), (3, boolT.tailV 4 out), (7, .d (cellT.slD l)), (8, .d (.int .i64 l.length)), (9, .d (.int .i64 l.length)), (10, .d (.bool (decide ((l.length : Int) < l.length))))], [], []⟩
def stopsExit_T : Prop := ∀ (l : List Cell) (out : List Bool), Rd X0 0 (ntOf X0 FS) (lpBody X0 FS 0) (stS l out l.length) (.exit 0, stSx l out)
def stopsLoop_T : Prop := ∀ (l : List Cell) (hl : l.length < 1000000), Lp X0 0 (ntOf X0 FS) (lpKeep X0 FS 0) (lpBody X0 FS 0) 0 FUEL (stS l [] 0) (.exit 0, stSx l (stopsTo l l.length))
def stops_T : Prop := ∀ (l : List Cell) (hl : l.length < 1000000), Ans X0 FS [.d (cellT.slD l)] (.d (boolT.slD (stopsTo l l.length)))
def iaddrCell_T : Prop := ∀ (l : List Cell) (i : Int) (h0 : 0 ≤ i) (hi : i < l.length), iaddrV X0 35 (.d (cellT.slD l)) (.d (.int .i64 i)) = some (.d (.ref (l.flatMap cellT.enc) (i.toNat * 4)))
def loadCell_T : Prop := ∀ (l : List Cell) (h : List Ob) (k : Nat) (hk : k < l.length), loadV X0 h 62 (.d (.ref (l.flatMap cellT.enc) (k * 4))) = some (.d (.agg (cellT.enc (cellT.nth l k))))
def loadInt_T : Prop := ∀ (l : List Cell) (h : List Ob) (k o : Nat) (hk : k < l.length) (ho : o < 4), loadV X0 h 3 (.d (.ref (l.flatMap cellT.enc) (k * 4 + o))) = some (.d ((cellT.enc (cellT.nth l k)).getD o .und))
def appendBool_T : Prop := ∀ (l : List Bool) (b : Bool) (hl : l.length < 17179869184), appendV X0 126 126 (boolT.tailV 4 l) (.full [.bool b] 1) = some (boolT.tailV 4 (l ++ [b]))

theorem iaddrCell : iaddrCell_T := fun l i h0 hi => iaddrSl (te := 62) (z := 4) (by kernel_rfl) (by kernel_rfl) h0 hi (flat_len _ 4 (Ty.enc_length cellT) l)
theorem loadCell' : loadCell_T := fun l h k hk => Pv.loadAgg (e := cellT) (by kernel_rfl) (by kernel_rfl) hk
theorem loadInt : loadInt_T := fun l h k o hk ho => Pv.loadCell (e := cellT) (z1 := 1) (by kernel_rfl) (by kernel_rfl) hk ho
theorem appendBool : appendBool_T := fun l b hl => appendOne (e := boolT) (E := 4) (i := (X0.P.info? 4).getD default) (by kernel_rfl) (by kernel_rfl) (by kernel_rfl) (by decide +kernel) (by decide +kernel) (by kernel_rfl) b rfl (by simpa using hl)
end Go.Proofs.Ytaobccodpdmieaa.Points
/- Points: paths, printed by a program of mine. -/
set_option maxRecDepth 100000
set_option linter.unusedSimpArgs false
set_option linter.unusedVariables false
namespace Go.Proofs.Ytaobccodpdmieaa.Points
open Go Pv G
set_option maxHeartbeats 4000000 in
theorem stopsRound : stopsRound_T := by
  intro l k out hl hk ho
  have h0 : (decide ((↑k : Int) < (↑(List.length l) : Int))) = true := by (((try simp only [Bool.not_eq_true', Bool.not_eq_false', Bool.and_eq_true, Bool.and_eq_false_iff, decide_eq_true_eq, decide_eq_false_iff_not, beq_iff_eq, beq_eq_false_iff_ne, bne_iff_ne, bne_eq_false_iff_eq, ne_eq, not_and] at *); (try simp (disch := omega) only [wrapId] at *)) <;> omega)
  rcases Bool.eq_false_or_eq_true ((Prod.fst (Prod.snd (Ty.nth cellT l (Int.toNat (↑k : Int))))) == (1 : Int)) with h1 | h1
  · exact (pC (st' := { s := [((nat_lit 0), (V.d (D.sl (List.flatMap (Ty.enc cellT) l) (List.length l)))), ((nat_lit 3), (V.tail (nat_lit 4) (List.flatMap (Ty.enc boolT) (out ++ [true])) (List.length (out ++ [true])))), ((nat_lit 7), (V.d (D.sl (List.flatMap (Ty.enc cellT) l) (List.length l)))), ((nat_lit 8), (V.d (D.int IntKind.i64 (↑(List.length l) : Int)))), ((nat_lit 9), (V.d (D.int IntKind.i64 (IntKind.wrap IntKind.i64 ((↑k : Int) + (1 : Int))))))], h := [], og := [] }) 12 [(1, bt), (2, .v (V.d (D.ref (List.flatMap (Ty.enc cellT) l) ((Int.toNat (↑k : Int)) * (4 : Nat))))), (3, .v (V.d (D.agg (Ty.enc cellT (Ty.nth cellT l (Int.toNat (↑k : Int))))))), (6, bt), (7, bt), (8, .v (Ty.tailV boolT (4 : TypeId) (out ++ [true])))] (cP (@appendBool (out) (true) (by (((try simp only [Bool.not_eq_true', Bool.not_eq_false', Bool.and_eq_true, Bool.and_eq_false_iff, decide_eq_true_eq, decide_eq_false_iff_not, beq_iff_eq, beq_eq_false_iff_ne, bne_iff_ne, bne_eq_false_iff_eq, ne_eq, not_and] at *); (try simp (disch := omega) only [wrapId] at *)) <;> omega))) (cP h1 (cP h1 (cP (@loadCell' (l) ([]) (Int.toNat (↑k : Int)) (by (((try simp only [Bool.not_eq_true', Bool.not_eq_false', Bool.and_eq_true, Bool.and_eq_false_iff, decide_eq_true_eq, decide_eq_false_iff_not, beq_iff_eq, beq_eq_false_iff_ne, bne_iff_ne, bne_eq_false_iff_eq, ne_eq, not_and] at *); (try simp (disch := omega) only [wrapId] at *)) <;> omega))) (cP (@iaddrCell (l) ((↑k : Int)) (by (((try simp only [Bool.not_eq_true', Bool.not_eq_false', Bool.and_eq_true, Bool.and_eq_false_iff, decide_eq_true_eq, decide_eq_false_iff_not, beq_iff_eq, beq_eq_false_iff_ne, bne_iff_ne, bne_eq_false_iff_eq, ne_eq, not_and] at *); (try simp (disch := omega) only [wrapId] at *)) <;> omega)) (by (((try simp only [Bool.not_eq_true', Bool.not_eq_false', Bool.and_eq_true, Bool.and_eq_false_iff, decide_eq_true_eq, decide_eq_false_iff_not, beq_iff_eq, beq_eq_false_iff_ne, bne_iff_ne, bne_eq_false_iff_eq, ne_eq, not_and] at *); (try simp (disch := omega) only [wrapId] at *)) <;> omega))) (cP h0 nilE)))))) (by kernel_rfl)).to (by (simp only [Int.toNat_natCast, beq_iff_eq, beq_eq_false_iff_ne, ne_eq, Int.natCast_eq_zero] at *; first | (simp (disch := omega) [Ty.enc, stopAt, Cell.kind, Cell.at, wrapId, toNatPred, *]; done) | (subst_vars; simp (disch := omega) [Ty.enc, stopAt, Cell.kind, Cell.at, wrapId, toNatPred, *]; done)))
  · rcases Bool.eq_false_or_eq_true ((Prod.fst (Prod.snd (Ty.nth cellT l (Int.toNat (↑k : Int))))) == (3 : Int)) with h2 | h2
    · exact (pC (st' := { s := [((nat_lit 0), (V.d (D.sl (List.flatMap (Ty.enc cellT) l) (List.length l)))), ((nat_lit 3), (V.tail (nat_lit 4) (List.flatMap (Ty.enc boolT) (out ++ [true])) (List.length (out ++ [true])))), ((nat_lit 7), (V.d (D.sl (List.flatMap (Ty.enc cellT) l) (List.length l)))), ((nat_lit 8), (V.d (D.int IntKind.i64 (↑(List.length l) : Int)))), ((nat_lit 9), (V.d (D.int IntKind.i64 (IntKind.wrap IntKind.i64 ((↑k : Int) + (1 : Int))))))], h := [], og := [] }) 12 [(1, bt), (2, .v (V.d (D.ref (List.flatMap (Ty.enc cellT) l) ((Int.toNat (↑k : Int)) * (4 : Nat))))), (3, .v (V.d (D.agg (Ty.enc cellT (Ty.nth cellT l (Int.toNat (↑k : Int))))))), (6, bf), (8, bt), (9, .v (Ty.tailV boolT (4 : TypeId) (out ++ [true])))] (cP (@appendBool (out) (true) (by (((try simp only [Bool.not_eq_true', Bool.not_eq_false', Bool.and_eq_true, Bool.and_eq_false_iff, decide_eq_true_eq, decide_eq_false_iff_not, beq_iff_eq, beq_eq_false_iff_ne, bne_iff_ne, bne_eq_false_iff_eq, ne_eq, not_and] at *); (try simp (disch := omega) only [wrapId] at *)) <;> omega))) (cP h2 (cP h1 (cP (@loadCell' (l) ([]) (Int.toNat (↑k : Int)) (by (((try simp only [Bool.not_eq_true', Bool.not_eq_false', Bool.and_eq_true, Bool.and_eq_false_iff, decide_eq_true_eq, decide_eq_false_iff_not, beq_iff_eq, beq_eq_false_iff_ne, bne_iff_ne, bne_eq_false_iff_eq, ne_eq, not_and] at *); (try simp (disch := omega) only [wrapId] at *)) <;> omega))) (cP (@iaddrCell (l) ((↑k : Int)) (by (((try simp only [Bool.not_eq_true', Bool.not_eq_false', Bool.and_eq_true, Bool.and_eq_false_iff, decide_eq_true_eq, decide_eq_false_iff_not, beq_iff_eq, beq_eq_false_iff_ne, bne_iff_ne, bne_eq_false_iff_eq, ne_eq, not_and] at *); (try simp (disch := omega) only [wrapId] at *)) <;> omega)) (by (((try simp only [Bool.not_eq_true', Bool.not_eq_false', Bool.and_eq_true, Bool.and_eq_false_iff, decide_eq_true_eq, decide_eq_false_iff_not, beq_iff_eq, beq_eq_false_iff_ne, bne_iff_ne, bne_eq_false_iff_eq, ne_eq, not_and] at *); (try simp (disch := omega) only [wrapId] at *)) <;> omega))) (cP h0 nilE)))))) (by kernel_rfl)).to (by (simp only [Int.toNat_natCast, beq_iff_eq, beq_eq_false_iff_ne, ne_eq, Int.natCast_eq_zero] at *; first | (simp (disch := omega) [Ty.enc, stopAt, Cell.kind, Cell.at, wrapId, toNatPred, *]; done) | (subst_vars; simp (disch := omega) [Ty.enc, stopAt, Cell.kind, Cell.at, wrapId, toNatPred, *]; done)))
    · rcases Bool.eq_false_or_eq_true ((Prod.fst (Prod.snd (Ty.nth cellT l (Int.toNat (↑k : Int))))) == (2 : Int)) with h3 | h3
      · rcases Bool.eq_false_or_eq_true ((↑k : Int) == (0 : Int)) with h4 | h4
        · exact (pC (st' := { s := [((nat_lit 0), (V.d (D.sl (List.flatMap (Ty.enc cellT) l) (List.length l)))), ((nat_lit 3), (V.tail (nat_lit 4) (List.flatMap (Ty.enc boolT) (out ++ [true])) (List.length (out ++ [true])))), ((nat_lit 7), (V.d (D.sl (List.flatMap (Ty.enc cellT) l) (List.length l)))), ((nat_lit 8), (V.d (D.int IntKind.i64 (↑(List.length l) : Int)))), ((nat_lit 9), (V.d (D.int IntKind.i64 (IntKind.wrap IntKind.i64 ((↑k : Int) + (1 : Int))))))], h := [], og := [] }) 12 [(1, bt), (2, .v (V.d (D.ref (List.flatMap (Ty.enc cellT) l) ((Int.toNat (↑k : Int)) * (4 : Nat))))), (3, .v (V.d (D.agg (Ty.enc cellT (Ty.nth cellT l (Int.toNat (↑k : Int))))))), (6, bf), (8, bf), (10, bt), (12, bt), (13, bt), (14, bt), (15, bt), (16, bt), (17, bt), (18, bt), (19, bt), (20, bt), (21, bt), (22, .v (Ty.tailV boolT (4 : TypeId) (out ++ [true])))] (cP (@appendBool (out) (true) (by (((try simp only [Bool.not_eq_true', Bool.not_eq_false', Bool.and_eq_true, Bool.and_eq_false_iff, decide_eq_true_eq, decide_eq_false_iff_not, beq_iff_eq, beq_eq_false_iff_ne, bne_iff_ne, bne_eq_false_iff_eq, ne_eq, not_and] at *); (try simp (disch := omega) only [wrapId] at *)) <;> omega))) (cP h4 (cP h4 (cP h4 (cP h4 (cP h4 (cP h4 (cP h4 (cP h4 (cP h4 (cP h4 (cP h3 (cP h2 (cP h1 (cP (@loadCell' (l) ([]) (Int.toNat (↑k : Int)) (by (((try simp only [Bool.not_eq_true', Bool.not_eq_false', Bool.and_eq_true, Bool.and_eq_false_iff, decide_eq_true_eq, decide_eq_false_iff_not, beq_iff_eq, beq_eq_false_iff_ne, bne_iff_ne, bne_eq_false_iff_eq, ne_eq, not_and] at *); (try simp (disch := omega) only [wrapId] at *)) <;> omega))) (cP (@iaddrCell (l) ((↑k : Int)) (by (((try simp only [Bool.not_eq_true', Bool.not_eq_false', Bool.and_eq_true, Bool.and_eq_false_iff, decide_eq_true_eq, decide_eq_false_iff_not, beq_iff_eq, beq_eq_false_iff_ne, bne_iff_ne, bne_eq_false_iff_eq, ne_eq, not_and] at *); (try simp (disch := omega) only [wrapId] at *)) <;> omega)) (by (((try simp only [Bool.not_eq_true', Bool.not_eq_false', Bool.and_eq_true, Bool.and_eq_false_iff, decide_eq_true_eq, decide_eq_false_iff_not, beq_iff_eq, beq_eq_false_iff_ne, bne_iff_ne, bne_eq_false_iff_eq, ne_eq, not_and] at *); (try simp (disch := omega) only [wrapId] at *)) <;> omega))) (cP h0 nilE))))))))))))))))) (by kernel_rfl)).to (by (simp only [Int.toNat_natCast, beq_iff_eq, beq_eq_false_iff_ne, ne_eq, Int.natCast_eq_zero] at *; first | (simp (disch := omega) [Ty.enc, stopAt, Cell.kind, Cell.at, wrapId, toNatPred, *]; done) | (subst_vars; simp (disch := omega) [Ty.enc, stopAt, Cell.kind, Cell.at, wrapId, toNatPred, *]; done)))
        · exact (pC (st' := { s := [((nat_lit 0), (V.d (D.sl (List.flatMap (Ty.enc cellT) l) (List.length l)))), ((nat_lit 3), (V.tail (nat_lit 4) (List.flatMap (Ty.enc boolT) (out ++ [((Prod.fst (Prod.snd (Prod.snd (Prod.snd (Ty.nth cellT l (Int.toNat (IntKind.wrap IntKind.i64 ((↑k : Int) - (1 : Int))))))))) != (Prod.fst (Prod.snd (Prod.snd (Prod.snd (Ty.nth cellT l (Int.toNat (↑k : Int))))))))])) (List.length (out ++ [((Prod.fst (Prod.snd (Prod.snd (Prod.snd (Ty.nth cellT l (Int.toNat (IntKind.wrap IntKind.i64 ((↑k : Int) - (1 : Int))))))))) != (Prod.fst (Prod.snd (Prod.snd (Prod.snd (Ty.nth cellT l (Int.toNat (↑k : Int))))))))])))), ((nat_lit 7), (V.d (D.sl (List.flatMap (Ty.enc cellT) l) (List.length l)))), ((nat_lit 8), (V.d (D.int IntKind.i64 (↑(List.length l) : Int)))), ((nat_lit 9), (V.d (D.int IntKind.i64 (IntKind.wrap IntKind.i64 ((↑k : Int) + (1 : Int))))))], h := [], og := [] }) 12 [(1, bt), (2, .v (V.d (D.ref (List.flatMap (Ty.enc cellT) l) ((Int.toNat (↑k : Int)) * (4 : Nat))))), (3, .v (V.d (D.agg (Ty.enc cellT (Ty.nth cellT l (Int.toNat (↑k : Int))))))), (6, bf), (8, bf), (10, bt), (12, bf), (13, bf), (14, bf), (16, bf), (17, .v (V.d (D.ref (List.flatMap (Ty.enc cellT) l) ((Int.toNat (IntKind.wrap IntKind.i64 ((↑k : Int) - (1 : Int)))) * (4 : Nat))))), (18, bf), (19, bf), (20, .v (V.d (List.getD (Ty.enc cellT (Ty.nth cellT l (Int.toNat (IntKind.wrap IntKind.i64 ((↑k : Int) - (1 : Int)))))) (nat_lit 3) D.und))), (21, bf), (22, bf), (24, bf), (26, bf), (27, .v (Ty.tailV boolT (4 : TypeId) (out ++ [((Prod.fst (Prod.snd (Prod.snd (Prod.snd (Ty.nth cellT l (Int.toNat (IntKind.wrap IntKind.i64 ((↑k : Int) - (1 : Int))))))))) != (Prod.fst (Prod.snd (Prod.snd (Prod.snd (Ty.nth cellT l (Int.toNat (↑k : Int))))))))])))] (cP (@appendBool (out) ((Prod.fst (Prod.snd (Prod.snd (Prod.snd (Ty.nth cellT l (Int.toNat (IntKind.wrap IntKind.i64 ((↑k : Int) - (1 : Int))))))))) != (Prod.fst (Prod.snd (Prod.snd (Prod.snd (Ty.nth cellT l (Int.toNat (↑k : Int)))))))) (by (((try simp only [Bool.not_eq_true', Bool.not_eq_false', Bool.and_eq_true, Bool.and_eq_false_iff, decide_eq_true_eq, decide_eq_false_iff_not, beq_iff_eq, beq_eq_false_iff_ne, bne_iff_ne, bne_eq_false_iff_eq, ne_eq, not_and] at *); (try simp (disch := omega) only [wrapId] at *)) <;> omega))) (cP h4 (cP h4 (cP h4 (cP h4 (cP (@loadInt (l) ([(Ob.cells [(V.d (D.int IntKind.i32 (Prod.fst (Ty.nth cellT l (Int.toNat (↑k : Int)))))), (V.d (D.int IntKind.i64 (Prod.fst (Prod.snd (Ty.nth cellT l (Int.toNat (↑k : Int))))))), (V.d (D.int IntKind.i64 (Prod.fst (Prod.snd (Prod.snd (Ty.nth cellT l (Int.toNat (↑k : Int)))))))), (V.d (D.int IntKind.i64 (Prod.fst (Prod.snd (Prod.snd (Prod.snd (Ty.nth cellT l (Int.toNat (↑k : Int)))))))))])]) (Int.toNat (IntKind.wrap IntKind.i64 ((↑k : Int) - (1 : Int)))) (nat_lit 3) (by (((try simp only [Bool.not_eq_true', Bool.not_eq_false', Bool.and_eq_true, Bool.and_eq_false_iff, decide_eq_true_eq, decide_eq_false_iff_not, beq_iff_eq, beq_eq_false_iff_ne, bne_iff_ne, bne_eq_false_iff_eq, ne_eq, not_and] at *); (try simp (disch := omega) only [wrapId] at *)) <;> omega)) (by (((try simp only [Bool.not_eq_true', Bool.not_eq_false', Bool.and_eq_true, Bool.and_eq_false_iff, decide_eq_true_eq, decide_eq_false_iff_not, beq_iff_eq, beq_eq_false_iff_ne, bne_iff_ne, bne_eq_false_iff_eq, ne_eq, not_and] at *); (try simp (disch := omega) only [wrapId] at *)) <;> omega))) (cP h4 (cP h4 (cP (@iaddrCell (l) (IntKind.wrap IntKind.i64 ((↑k : Int) - (1 : Int))) (by (((try simp only [Bool.not_eq_true', Bool.not_eq_false', Bool.and_eq_true, Bool.and_eq_false_iff, decide_eq_true_eq, decide_eq_false_iff_not, beq_iff_eq, beq_eq_false_iff_ne, bne_iff_ne, bne_eq_false_iff_eq, ne_eq, not_and] at *); (try simp (disch := omega) only [wrapId] at *)) <;> omega)) (by (((try simp only [Bool.not_eq_true', Bool.not_eq_false', Bool.and_eq_true, Bool.and_eq_false_iff, decide_eq_true_eq, decide_eq_false_iff_not, beq_iff_eq, beq_eq_false_iff_ne, bne_iff_ne, bne_eq_false_iff_eq, ne_eq, not_and] at *); (try simp (disch := omega) only [wrapId] at *)) <;> omega))) (cP h4 (cP h4 (cP h4 (cP h4 (cP h3 (cP h2 (cP h1 (cP (@loadCell' (l) ([]) (Int.toNat (↑k : Int)) (by (((try simp only [Bool.not_eq_true', Bool.not_eq_false', Bool.and_eq_true, Bool.and_eq_false_iff, decide_eq_true_eq, decide_eq_false_iff_not, beq_iff_eq, beq_eq_false_iff_ne, bne_iff_ne, bne_eq_false_iff_eq, ne_eq, not_and] at *); (try simp (disch := omega) only [wrapId] at *)) <;> omega))) (cP (@iaddrCell (l) ((↑k : Int)) (by (((try simp only [Bool.not_eq_true', Bool.not_eq_false', Bool.and_eq_true, Bool.and_eq_false_iff, decide_eq_true_eq, decide_eq_false_iff_not, beq_iff_eq, beq_eq_false_iff_ne, bne_iff_ne, bne_eq_false_iff_eq, ne_eq, not_and] at *); (try simp (disch := omega) only [wrapId] at *)) <;> omega)) (by (((try simp only [Bool.not_eq_true', Bool.not_eq_false', Bool.and_eq_true, Bool.and_eq_false_iff, decide_eq_true_eq, decide_eq_false_iff_not, beq_iff_eq, beq_eq_false_iff_ne, bne_iff_ne, bne_eq_false_iff_eq, ne_eq, not_and] at *); (try simp (disch := omega) only [wrapId] at *)) <;> omega))) (cP h0 nilE))))))))))))))))))) (by kernel_rfl)).to (by (simp only [Int.toNat_natCast, beq_iff_eq, beq_eq_false_iff_ne, ne_eq, Int.natCast_eq_zero] at *; first | (simp (disch := omega) [Ty.enc, stopAt, Cell.kind, Cell.at, wrapId, toNatPred, *]; done) | (subst_vars; simp (disch := omega) [Ty.enc, stopAt, Cell.kind, Cell.at, wrapId, toNatPred, *]; done)))
      · exact (pC (st' := { s := [((nat_lit 0), (V.d (D.sl (List.flatMap (Ty.enc cellT) l) (List.length l)))), ((nat_lit 3), (V.tail (nat_lit 4) (List.flatMap (Ty.enc boolT) (out ++ [false])) (List.length (out ++ [false])))), ((nat_lit 7), (V.d (D.sl (List.flatMap (Ty.enc cellT) l) (List.length l)))), ((nat_lit 8), (V.d (D.int IntKind.i64 (↑(List.length l) : Int)))), ((nat_lit 9), (V.d (D.int IntKind.i64 (IntKind.wrap IntKind.i64 ((↑k : Int) + (1 : Int))))))], h := [], og := [] }) 12 [(1, bt), (2, .v (V.d (D.ref (List.flatMap (Ty.enc cellT) l) ((Int.toNat (↑k : Int)) * (4 : Nat))))), (3, .v (V.d (D.agg (Ty.enc cellT (Ty.nth cellT l (Int.toNat (↑k : Int))))))), (6, bf), (8, bf), (10, bf), (11, .v (Ty.tailV boolT (4 : TypeId) (out ++ [false])))] (cP (@appendBool (out) (false) (by (((try simp only [Bool.not_eq_true', Bool.not_eq_false', Bool.and_eq_true, Bool.and_eq_false_iff, decide_eq_true_eq, decide_eq_false_iff_not, beq_iff_eq, beq_eq_false_iff_ne, bne_iff_ne, bne_eq_false_iff_eq, ne_eq, not_and] at *); (try simp (disch := omega) only [wrapId] at *)) <;> omega))) (cP h3 (cP h2 (cP h1 (cP (@loadCell' (l) ([]) (Int.toNat (↑k : Int)) (by (((try simp only [Bool.not_eq_true', Bool.not_eq_false', Bool.and_eq_true, Bool.and_eq_false_iff, decide_eq_true_eq, decide_eq_false_iff_not, beq_iff_eq, beq_eq_false_iff_ne, bne_iff_ne, bne_eq_false_iff_eq, ne_eq, not_and] at *); (try simp (disch := omega) only [wrapId] at *)) <;> omega))) (cP (@iaddrCell (l) ((↑k : Int)) (by (((try simp only [Bool.not_eq_true', Bool.not_eq_false', Bool.and_eq_true, Bool.and_eq_false_iff, decide_eq_true_eq, decide_eq_false_iff_not, beq_iff_eq, beq_eq_false_iff_ne, bne_iff_ne, bne_eq_false_iff_eq, ne_eq, not_and] at *); (try simp (disch := omega) only [wrapId] at *)) <;> omega)) (by (((try simp only [Bool.not_eq_true', Bool.not_eq_false', Bool.and_eq_true, Bool.and_eq_false_iff, decide_eq_true_eq, decide_eq_false_iff_not, beq_iff_eq, beq_eq_false_iff_ne, bne_iff_ne, bne_eq_false_iff_eq, ne_eq, not_and] at *); (try simp (disch := omega) only [wrapId] at *)) <;> omega))) (cP h0 nilE))))))) (by kernel_rfl)).to (by (simp only [Int.toNat_natCast, beq_iff_eq, beq_eq_false_iff_ne, ne_eq, Int.natCast_eq_zero] at *; first | (simp (disch := omega) [Ty.enc, stopAt, Cell.kind, Cell.at, wrapId, toNatPred, *]; done) | (subst_vars; simp (disch := omega) [Ty.enc, stopAt, Cell.kind, Cell.at, wrapId, toNatPred, *]; done)))
set_option maxHeartbeats 4000000 in
theorem stopsExit : stopsExit_T := by
  intro l out
  have h0 : (decide ((↑(List.length l) : Int) < (↑(List.length l) : Int))) = false := by (((try simp only [Bool.not_eq_true', Bool.not_eq_false', Bool.and_eq_true, Bool.and_eq_false_iff, decide_eq_true_eq, decide_eq_false_iff_not, beq_iff_eq, beq_eq_false_iff_ne, bne_iff_ne, bne_eq_false_iff_eq, ne_eq, not_and] at *); (try simp (disch := omega) only [wrapId] at *)) <;> omega)
  exact pR 12 [(1, bf)] (cP h0 nilE) (by kernel_rfl)
end Go.Proofs.Ytaobccodpdmieaa.Points
/- Points: paths, printed by a program of mine. -/
set_option maxRecDepth 100000
set_option linter.unusedSimpArgs false
set_option linter.unusedVariables false
namespace Go.Proofs.Ytaobccodpdmieaa.Points
open Go Pv G
theorem stopsTo_succ (l : List Cell) (k : Nat) : stopsTo l (k + 1) = stopsTo l k ++ [stopAt l k] := by
  simp [stopsTo, List.range_succ]
theorem stopsTo_length (l : List Cell) (k : Nat) : (stopsTo l k).length = k := by simp [stopsTo]
theorem stopsLoopC (l : List Cell) (hl : l.length < 1000000) : ∀ j k m, j + k = l.length → j < m → LpC X0 0 (ntOf X0 FS) (lpKeep X0 FS 0) (lpBody X0 FS 0) 0 m (stS l (stopsTo l k) k) (.exit 0, stSx l (stopsTo l l.length)) := by
  intro j
  induction j with
  | zero =>
    intro k m hk hm
    obtain rfl : k = l.length := by omega
    exact LpC.last (stopsExit l _) (by simp)
  | succ j ih =>
    intro k m hk hm
    obtain ⟨m, rfl⟩ : ∃ x, m = x + 1 := ⟨m - 1, by omega⟩
    refine LpC.next (stopsRound l k (stopsTo l k) hl (by omega) (by rw [stopsTo_length]; omega)) ?_
    rw [← stopsTo_succ]
    exact ih (k + 1) m (by omega) (by omega)
theorem stopsLoop : stopsLoop_T := fun l hl => LpC.start (m := 1152921504606846975) (stopsLoopC l hl l.length 0 _ (by omega) (by omega)) (by kernel_rfl)
set_option maxHeartbeats 4000000 in
theorem stops : stops_T := by
  intro l hl
  exact pV 12 [(1, .l (Ex.exit (0 : Nat)) (stSx l (stopsTo l (List.length l))))] (cE (@stopsLoop (l) hl) nilE) (by kernel_rfl) rfl rfl
end Go.Proofs.Ytaobccodpdmieaa.Points
/- Points: the statements of runs, third part: points.line. -/
set_option linter.unusedVariables false
namespace Go.Proofs.Ytaobccodpdmieaa.Points
open Go Pv G
abbrev rowT : Ty := .st (.cons (.sl cellT) (.cons i64 (.cons i64 (.cons i64 (.cons .bool (.cons .bool (.cons i64 .nil)))))))
abbrev Row := rowT.ty
def Row.cells (r : Row) : List Cell := r.1
def Row.end_ (r : Row) : Int := r.2.2.1
def Row.wrapped (r : Row) : Bool := r.2.2.2.2.1
abbrev pointT : Ty := .st (.cons i64 (.cons i64 .nil))
abbrev Point := pointT.ty
abbrev markT : Ty := .st (.cons i64 (.cons i64 (.cons i64 (.cons i64 .nil))))
abbrev Mark := markT.ty

/-- A cell of a line is looked at. -/
def inA (A : List Cell) (c : Cell) : List Cell := if Cell.kind c == 5 then A else A ++ [c]
def inW (row : Int) (W : List Point) (c : Cell) (k : Nat) : List Point := if Cell.kind c == 5 then W else W ++ [(row, (k : Int), ())]

abbrev FL : Nat := 45
abbrev rowObV (r : Row) : List V := [.d (cellT.slD r.1), .d (.int .i64 r.2.1), .d (.int .i64 r.2.2.1), .d (.int .i64 r.2.2.2.1), .d (.bool r.2.2.2.2.1), .d (.bool r.2.2.2.2.2.1), .d (.int .i64 r.2.2.2.2.2.2.1)]
abbrev stL1 (rows : List Row) (first : Int) (A : List Cell) (W : List Point) (i : Nat) (r : Row) (k : Nat) : St :=
  ⟨[(0, .d (rowT.slD rows)), (1, .d (.int .i64 first)), (5, cellT.tailV 62 A), (6, pointT.tailV 31 W), (7, .d (.int .i64 i)), (15, .d (rowT.slD rows)), (16, .d (.int .i64 rows.length)), (17, .d (.int .i64 i)), (23, .d (cellT.slD (Row.cells r))), (24, .d (.int .i64 (Row.cells r).length)), (25, .d (.int .i64 k))], [.cells (rowObV r)], []⟩
def lineRound1_T : Prop := ∀ (rows : List Row) (first : Int) (A : List Cell) (W : List Point) (i : Nat) (r : Row) (k : Nat) (hA : A.length < 100000000) (hW : W.length < 100000000) (hf : 0 ≤ first) (hf2 : first < 1000000) (hi : i < 1000000) (hk : k < (Row.cells r).length) (hc : (Row.cells r).length < 1000000),
  RdC X0 0 (ntOf X0 FL) (lpKeep X0 FL 1) (lpBody X0 FL 1) 1 (stL1 rows first A W i r k) (stL1 rows first (inA A (cellT.nth (Row.cells r) k)) (inW (first + i) W (cellT.nth (Row.cells r) k) k) i r (k + 1))
abbrev stL1x (rows : List Row) (first : Int) (A : List Cell) (W : List Point) (i : Nat) (r : Row) : St :=
  ⟨[(0, .d (rowT.slD rows)), (1, .d (.int .i64 first)), (5, cellT.tailV 62 A), (6, pointT.tailV 31 W), (7, .d (.int .i64 i)), (15, .d (rowT.slD rows)), (16, .d (.int .i64 rows.length)), (17, .d (.int .i64 i)), (23, .d (cellT.slD (Row.cells r))), (24, .d (.int .i64 (Row.cells r).length)), (25, .d (.int .i64 (Row.cells r).length)), (26, .d (.bool (decide (((Row.cells r).length : Int) < (Row.cells r).length))))], [.cells (rowObV r)], []⟩
def lineExit1_T : Prop := ∀ (rows : List Row) (first : Int) (A : List Cell) (W : List Point) (i : Nat) (r : Row), Rd X0 0 (ntOf X0 FL) (lpBody X0 FL 1) (stL1 rows first A W i r (Row.cells r).length) (.exit 2, stL1x rows first A W i r)
/-- All cells of a row, up to the k'th one. -/
def inAto (A : List Cell) (cells : List Cell) : Nat → List Cell
  | 0 => A
  | k + 1 => inA (inAto A cells k) (cellT.nth cells k)
def inWto (row : Int) (W : List Point) (cells : List Cell) : Nat → List Point
  | 0 => W
  | k + 1 => inW row (inWto row W cells k) (cellT.nth cells k) k
def rowA (A : List Cell) (r : Row) : List Cell := inAto A (Row.cells r) (Row.cells r).length
def rowW (row : Int) (W : List Point) (r : Row) : List Point := inWto row W (Row.cells r) (Row.cells r).length
def lineLoop1_T : Prop := ∀ (rows : List Row) (first : Int) (A : List Cell) (W : List Point) (i : Nat) (r : Row) (hA : A.length < 50000000) (hW : W.length < 50000000) (hf : 0 ≤ first) (hf2 : first < 1000000) (hi : i < 1000000) (hc : (Row.cells r).length < 1000000),
  Lp X0 0 (ntOf X0 FL) (lpKeep X0 FL 1) (lpBody X0 FL 1) 1 FUEL (stL1 rows first A W i r 0) (.exit 2, stL1x rows first (rowA A r) (rowW (first + i) W r) i r)

abbrev stL0 (rows : List Row) (first : Int) (A : List Cell) (W : List Point) (i : Nat) : St :=
  ⟨[(0, .d (rowT.slD rows)), (1, .d (.int .i64 first)), (5, cellT.tailV 62 A), (6, pointT.tailV 31 W), (15, .d (rowT.slD rows)), (16, .d (.int .i64 rows.length)), (17, .d (.int .i64 i))], [], []⟩
abbrev stL0x (rows : List Row) (first : Int) (A : List Cell) (W : List Point) : St :=
  ⟨[(0, .d (rowT.slD rows)), (1, .d (.int .i64 first)), (5, cellT.tailV 62 A), (6, pointT.tailV 31 W), (15, .d (rowT.slD rows)), (16, .d (.int .i64 rows.length)), (17, .d (.int .i64 rows.length)), (18, .d (.bool (decide ((rows.length : Int) < rows.length))))], [], []⟩
def lineRound0_T : Prop := ∀ (rows : List Row) (first : Int) (A : List Cell) (W : List Point) (i : Nat) (hA : A.length < 50000000) (hW : W.length < 50000000) (hf : 0 ≤ first) (hf2 : first < 1000000) (hi : i < rows.length) (hr : rows.length < 1000000) (hc : (Row.cells (rowT.nth rows i)).length < 1000000),
  RdC X0 0 (ntOf X0 FL) (lpKeep X0 FL 0) (lpBody X0 FL 0) 0 (stL0 rows first A W i) (stL0 rows first (rowA A (rowT.nth rows i)) (rowW (first + i) W (rowT.nth rows i)) (i + 1))
def lineExit0_T : Prop := ∀ (rows : List Row) (first : Int) (A : List Cell) (W : List Point), Rd X0 0 (ntOf X0 FL) (lpBody X0 FL 0) (stL0 rows first A W rows.length) (.exit 0, stL0x rows first A W)
def iaddrRow_T : Prop := ∀ (l : List Row) (i : Int) (h0 : 0 ≤ i) (hi : i < l.length), iaddrV X0 26 (.d (rowT.slD l)) (.d (.int .i64 i)) = some (.d (.ref (l.flatMap rowT.enc) (i.toNat * 7)))
def loadRow_T : Prop := ∀ (l : List Row) (h : List Ob) (k : Nat) (hk : k < l.length), loadV X0 h 37 (.d (.ref (l.flatMap rowT.enc) (k * 7))) = some (.d (.agg (rowT.enc (rowT.nth l k))))
theorem iaddrRow : iaddrRow_T := fun l i h0 hi => iaddrSl (te := 37) (z := 7) (by kernel_rfl) (by kernel_rfl) h0 hi (flat_len _ 7 (Ty.enc_length rowT) l)
theorem loadRow : loadRow_T := fun l h k hk => Pv.loadAgg (e := rowT) (by kernel_rfl) (by kernel_rfl) hk
def appendCell_T : Prop := ∀ (l : List Cell) (a b c d : Int) (hl : l.length < 17179869184), appendV X0 35 35 (cellT.tailV 62 l) (.full [.int .i32 a, .int .i64 b, .int .i64 c, .int .i64 d] 1) = some (cellT.tailV 62 (l ++ [(a, b, c, d, ())]))
def appendPoint_T : Prop := ∀ (l : List Point) (a b : Int) (hl : l.length < 17179869184), appendV X0 53 53 (pointT.tailV 31 l) (.full [.int .i64 a, .int .i64 b] 1) = some (pointT.tailV 31 (l ++ [(a, b, ())]))
theorem appendCell : appendCell_T := fun l a b c d hl => appendOne (e := cellT) (E := 62) (i := (X0.P.info? 62).getD default) (by kernel_rfl) (by kernel_rfl) (by kernel_rfl) (by decide +kernel) (by decide +kernel) (by kernel_rfl) (a, b, c, d, ()) rfl (by simpa using hl)
theorem appendPoint : appendPoint_T := fun l a b hl => appendOne (e := pointT) (E := 31) (i := (X0.P.info? 31).getD default) (by kernel_rfl) (by kernel_rfl) (by kernel_rfl) (by decide +kernel) (by decide +kernel) (by kernel_rfl) (a, b, ()) rfl (by simpa using hl)
end Go.Proofs.Ytaobccodpdmieaa.Points
/- Points: paths, printed by a program of mine. -/
set_option maxRecDepth 100000
set_option linter.unusedSimpArgs false
set_option linter.unusedVariables false
namespace Go.Proofs.Ytaobccodpdmieaa.Points
open Go Pv G
set_option maxHeartbeats 4000000 in
theorem lineRound1 : lineRound1_T := by
  intro rows first A W i r k hA hW hf hf2 hi hk hc
  have h0 : (decide ((↑k : Int) < (↑(List.length (Row.cells r)) : Int))) = true := by (((try simp only [Bool.not_eq_true', Bool.not_eq_false', Bool.and_eq_true, Bool.and_eq_false_iff, decide_eq_true_eq, decide_eq_false_iff_not, beq_iff_eq, beq_eq_false_iff_ne, bne_iff_ne, bne_eq_false_iff_eq, ne_eq, not_and, Int.toNat_natCast] at *); (try simp (disch := omega) only [wrapId] at *)) <;> omega)
  rcases Bool.eq_false_or_eq_true ((Prod.fst (Prod.snd (Ty.nth cellT (Row.cells r) (Int.toNat (↑k : Int))))) != (5 : Int)) with h1 | h1
  · exact (pC (st' := { s := [((nat_lit 0), (V.d (D.sl (List.flatMap (Ty.enc rowT) rows) (List.length rows)))), ((nat_lit 1), (V.d (D.int IntKind.i64 first))), ((nat_lit 5), (V.tail (nat_lit 62) (List.flatMap (Ty.enc cellT) (A ++ [((Prod.fst (Ty.nth cellT (Row.cells r) (Int.toNat (↑k : Int)))), (Prod.fst (Prod.snd (Ty.nth cellT (Row.cells r) (Int.toNat (↑k : Int))))), (Prod.fst (Prod.snd (Prod.snd (Ty.nth cellT (Row.cells r) (Int.toNat (↑k : Int)))))), (Prod.fst (Prod.snd (Prod.snd (Prod.snd (Ty.nth cellT (Row.cells r) (Int.toNat (↑k : Int))))))), ())])) (List.length (A ++ [((Prod.fst (Ty.nth cellT (Row.cells r) (Int.toNat (↑k : Int)))), (Prod.fst (Prod.snd (Ty.nth cellT (Row.cells r) (Int.toNat (↑k : Int))))), (Prod.fst (Prod.snd (Prod.snd (Ty.nth cellT (Row.cells r) (Int.toNat (↑k : Int)))))), (Prod.fst (Prod.snd (Prod.snd (Prod.snd (Ty.nth cellT (Row.cells r) (Int.toNat (↑k : Int))))))), ())])))), ((nat_lit 6), (V.tail (nat_lit 31) (List.flatMap (Ty.enc pointT) (W ++ [((IntKind.wrap IntKind.i64 (first + (↑i : Int))), (↑k : Int), ())])) (List.length (W ++ [((IntKind.wrap IntKind.i64 (first + (↑i : Int))), (↑k : Int), ())])))), ((nat_lit 7), (V.d (D.int IntKind.i64 (↑i : Int)))), ((nat_lit 15), (V.d (D.sl (List.flatMap (Ty.enc rowT) rows) (List.length rows)))), ((nat_lit 16), (V.d (D.int IntKind.i64 (↑(List.length rows) : Int)))), ((nat_lit 17), (V.d (D.int IntKind.i64 (↑i : Int)))), ((nat_lit 23), (V.d (D.sl (List.flatMap (Ty.enc cellT) (Row.cells r)) (List.length (Row.cells r))))), ((nat_lit 24), (V.d (D.int IntKind.i64 (↑(List.length (Row.cells r)) : Int)))), ((nat_lit 25), (V.d (D.int IntKind.i64 (IntKind.wrap IntKind.i64 ((↑k : Int) + (1 : Int))))))], h := [(Ob.cells [(V.d (D.sl (List.flatMap (Ty.enc cellT) (Prod.fst r)) (List.length (Prod.fst r)))), (V.d (D.int IntKind.i64 (Prod.fst (Prod.snd r)))), (V.d (D.int IntKind.i64 (Prod.fst (Prod.snd (Prod.snd r))))), (V.d (D.int IntKind.i64 (Prod.fst (Prod.snd (Prod.snd (Prod.snd r)))))), (V.d (D.bool (Prod.fst (Prod.snd (Prod.snd (Prod.snd (Prod.snd r))))))), (V.d (D.bool (Prod.fst (Prod.snd (Prod.snd (Prod.snd (Prod.snd (Prod.snd r)))))))), (V.d (D.int IntKind.i64 (Prod.fst (Prod.snd (Prod.snd (Prod.snd (Prod.snd (Prod.snd (Prod.snd r)))))))))])], og := [] }) 12 [(1, bt), (2, .v (V.d (D.ref (List.flatMap (Ty.enc cellT) (Row.cells r)) ((Int.toNat (↑k : Int)) * (4 : Nat))))), (3, .v (V.d (D.agg (Ty.enc cellT (Ty.nth cellT (Row.cells r) (Int.toNat (↑k : Int))))))), (6, bt), (8, .v (Ty.tailV cellT (62 : TypeId) (A ++ [((Prod.fst (Ty.nth cellT (Row.cells r) (Int.toNat (↑k : Int)))), (Prod.fst (Prod.snd (Ty.nth cellT (Row.cells r) (Int.toNat (↑k : Int))))), (Prod.fst (Prod.snd (Prod.snd (Ty.nth cellT (Row.cells r) (Int.toNat (↑k : Int)))))), (Prod.fst (Prod.snd (Prod.snd (Prod.snd (Ty.nth cellT (Row.cells r) (Int.toNat (↑k : Int))))))), ())]))), (10, .v (Ty.tailV pointT (31 : TypeId) (W ++ [((IntKind.wrap IntKind.i64 (first + (↑i : Int))), (↑k : Int), ())])))] (cP (@appendPoint (W) (IntKind.wrap IntKind.i64 (first + (↑i : Int))) ((↑k : Int)) (by (((try simp only [Bool.not_eq_true', Bool.not_eq_false', Bool.and_eq_true, Bool.and_eq_false_iff, decide_eq_true_eq, decide_eq_false_iff_not, beq_iff_eq, beq_eq_false_iff_ne, bne_iff_ne, bne_eq_false_iff_eq, ne_eq, not_and, Int.toNat_natCast] at *); (try simp (disch := omega) only [wrapId] at *)) <;> omega))) (cP (@appendCell (A) (Prod.fst (Ty.nth cellT (Row.cells r) (Int.toNat (↑k : Int)))) (Prod.fst (Prod.snd (Ty.nth cellT (Row.cells r) (Int.toNat (↑k : Int))))) (Prod.fst (Prod.snd (Prod.snd (Ty.nth cellT (Row.cells r) (Int.toNat (↑k : Int)))))) (Prod.fst (Prod.snd (Prod.snd (Prod.snd (Ty.nth cellT (Row.cells r) (Int.toNat (↑k : Int))))))) (by (((try simp only [Bool.not_eq_true', Bool.not_eq_false', Bool.and_eq_true, Bool.and_eq_false_iff, decide_eq_true_eq, decide_eq_false_iff_not, beq_iff_eq, beq_eq_false_iff_ne, bne_iff_ne, bne_eq_false_iff_eq, ne_eq, not_and, Int.toNat_natCast] at *); (try simp (disch := omega) only [wrapId] at *)) <;> omega))) (cP h1 (cP (@loadCell' (Row.cells r) ([(Ob.cells [(V.d (D.sl (List.flatMap (Ty.enc cellT) (Prod.fst r)) (List.length (Prod.fst r)))), (V.d (D.int IntKind.i64 (Prod.fst (Prod.snd r)))), (V.d (D.int IntKind.i64 (Prod.fst (Prod.snd (Prod.snd r))))), (V.d (D.int IntKind.i64 (Prod.fst (Prod.snd (Prod.snd (Prod.snd r)))))), (V.d (D.bool (Prod.fst (Prod.snd (Prod.snd (Prod.snd (Prod.snd r))))))), (V.d (D.bool (Prod.fst (Prod.snd (Prod.snd (Prod.snd (Prod.snd (Prod.snd r)))))))), (V.d (D.int IntKind.i64 (Prod.fst (Prod.snd (Prod.snd (Prod.snd (Prod.snd (Prod.snd (Prod.snd r)))))))))])]) (Int.toNat (↑k : Int)) (by (((try simp only [Bool.not_eq_true', Bool.not_eq_false', Bool.and_eq_true, Bool.and_eq_false_iff, decide_eq_true_eq, decide_eq_false_iff_not, beq_iff_eq, beq_eq_false_iff_ne, bne_iff_ne, bne_eq_false_iff_eq, ne_eq, not_and, Int.toNat_natCast] at *); (try simp (disch := omega) only [wrapId] at *)) <;> omega))) (cP (@iaddrCell (Row.cells r) ((↑k : Int)) (by (((try simp only [Bool.not_eq_true', Bool.not_eq_false', Bool.and_eq_true, Bool.and_eq_false_iff, decide_eq_true_eq, decide_eq_false_iff_not, beq_iff_eq, beq_eq_false_iff_ne, bne_iff_ne, bne_eq_false_iff_eq, ne_eq, not_and, Int.toNat_natCast] at *); (try simp (disch := omega) only [wrapId] at *)) <;> omega)) (by (((try simp only [Bool.not_eq_true', Bool.not_eq_false', Bool.and_eq_true, Bool.and_eq_false_iff, decide_eq_true_eq, decide_eq_false_iff_not, beq_iff_eq, beq_eq_false_iff_ne, bne_iff_ne, bne_eq_false_iff_eq, ne_eq, not_and, Int.toNat_natCast] at *); (try simp (disch := omega) only [wrapId] at *)) <;> omega))) (cP h0 nilE)))))) (by kernel_rfl)).to (by (simp only [Int.toNat_natCast, beq_iff_eq, beq_eq_false_iff_ne, bne_iff_ne, bne_eq_false_iff_eq, ne_eq, Int.natCast_eq_zero, Row.cells] at *; first | (simp (disch := omega) [Ty.enc, inA, inW, Cell.kind, Cell.at, Row.cells, wrapId, toNatPred, *]; done) | (subst_vars; simp (disch := omega) [Ty.enc, inA, inW, Cell.kind, Cell.at, Row.cells, wrapId, toNatPred, *]; done)))
  · exact (pC (st' := { s := [((nat_lit 0), (V.d (D.sl (List.flatMap (Ty.enc rowT) rows) (List.length rows)))), ((nat_lit 1), (V.d (D.int IntKind.i64 first))), ((nat_lit 5), (V.tail (nat_lit 62) (List.flatMap (Ty.enc cellT) A) (List.length A))), ((nat_lit 6), (V.tail (nat_lit 31) (List.flatMap (Ty.enc pointT) W) (List.length W))), ((nat_lit 7), (V.d (D.int IntKind.i64 (↑i : Int)))), ((nat_lit 15), (V.d (D.sl (List.flatMap (Ty.enc rowT) rows) (List.length rows)))), ((nat_lit 16), (V.d (D.int IntKind.i64 (↑(List.length rows) : Int)))), ((nat_lit 17), (V.d (D.int IntKind.i64 (↑i : Int)))), ((nat_lit 23), (V.d (D.sl (List.flatMap (Ty.enc cellT) (Row.cells r)) (List.length (Row.cells r))))), ((nat_lit 24), (V.d (D.int IntKind.i64 (↑(List.length (Row.cells r)) : Int)))), ((nat_lit 25), (V.d (D.int IntKind.i64 (IntKind.wrap IntKind.i64 ((↑k : Int) + (1 : Int))))))], h := [(Ob.cells [(V.d (D.sl (List.flatMap (Ty.enc cellT) (Prod.fst r)) (List.length (Prod.fst r)))), (V.d (D.int IntKind.i64 (Prod.fst (Prod.snd r)))), (V.d (D.int IntKind.i64 (Prod.fst (Prod.snd (Prod.snd r))))), (V.d (D.int IntKind.i64 (Prod.fst (Prod.snd (Prod.snd (Prod.snd r)))))), (V.d (D.bool (Prod.fst (Prod.snd (Prod.snd (Prod.snd (Prod.snd r))))))), (V.d (D.bool (Prod.fst (Prod.snd (Prod.snd (Prod.snd (Prod.snd (Prod.snd r)))))))), (V.d (D.int IntKind.i64 (Prod.fst (Prod.snd (Prod.snd (Prod.snd (Prod.snd (Prod.snd (Prod.snd r)))))))))])], og := [] }) 12 [(1, bt), (2, .v (V.d (D.ref (List.flatMap (Ty.enc cellT) (Row.cells r)) ((Int.toNat (↑k : Int)) * (4 : Nat))))), (3, .v (V.d (D.agg (Ty.enc cellT (Ty.nth cellT (Row.cells r) (Int.toNat (↑k : Int))))))), (6, bf)] (cP h1 (cP (@loadCell' (Row.cells r) ([(Ob.cells [(V.d (D.sl (List.flatMap (Ty.enc cellT) (Prod.fst r)) (List.length (Prod.fst r)))), (V.d (D.int IntKind.i64 (Prod.fst (Prod.snd r)))), (V.d (D.int IntKind.i64 (Prod.fst (Prod.snd (Prod.snd r))))), (V.d (D.int IntKind.i64 (Prod.fst (Prod.snd (Prod.snd (Prod.snd r)))))), (V.d (D.bool (Prod.fst (Prod.snd (Prod.snd (Prod.snd (Prod.snd r))))))), (V.d (D.bool (Prod.fst (Prod.snd (Prod.snd (Prod.snd (Prod.snd (Prod.snd r)))))))), (V.d (D.int IntKind.i64 (Prod.fst (Prod.snd (Prod.snd (Prod.snd (Prod.snd (Prod.snd (Prod.snd r)))))))))])]) (Int.toNat (↑k : Int)) (by (((try simp only [Bool.not_eq_true', Bool.not_eq_false', Bool.and_eq_true, Bool.and_eq_false_iff, decide_eq_true_eq, decide_eq_false_iff_not, beq_iff_eq, beq_eq_false_iff_ne, bne_iff_ne, bne_eq_false_iff_eq, ne_eq, not_and, Int.toNat_natCast] at *); (try simp (disch := omega) only [wrapId] at *)) <;> omega))) (cP (@iaddrCell (Row.cells r) ((↑k : Int)) (by (((try simp only [Bool.not_eq_true', Bool.not_eq_false', Bool.and_eq_true, Bool.and_eq_false_iff, decide_eq_true_eq, decide_eq_false_iff_not, beq_iff_eq, beq_eq_false_iff_ne, bne_iff_ne, bne_eq_false_iff_eq, ne_eq, not_and, Int.toNat_natCast] at *); (try simp (disch := omega) only [wrapId] at *)) <;> omega)) (by (((try simp only [Bool.not_eq_true', Bool.not_eq_false', Bool.and_eq_true, Bool.and_eq_false_iff, decide_eq_true_eq, decide_eq_false_iff_not, beq_iff_eq, beq_eq_false_iff_ne, bne_iff_ne, bne_eq_false_iff_eq, ne_eq, not_and, Int.toNat_natCast] at *); (try simp (disch := omega) only [wrapId] at *)) <;> omega))) (cP h0 nilE)))) (by kernel_rfl)).to (by (simp only [Int.toNat_natCast, beq_iff_eq, beq_eq_false_iff_ne, bne_iff_ne, bne_eq_false_iff_eq, ne_eq, Int.natCast_eq_zero, Row.cells] at *; first | (simp (disch := omega) [Ty.enc, inA, inW, Cell.kind, Cell.at, Row.cells, wrapId, toNatPred, *]; done) | (subst_vars; simp (disch := omega) [Ty.enc, inA, inW, Cell.kind, Cell.at, Row.cells, wrapId, toNatPred, *]; done)))
set_option maxHeartbeats 4000000 in
theorem lineExit1 : lineExit1_T := by
  intro rows first A W i r
  have h0 : (decide ((↑(List.length (Row.cells r)) : Int) < (↑(List.length (Row.cells r)) : Int))) = false := by (((try simp only [Bool.not_eq_true', Bool.not_eq_false', Bool.and_eq_true, Bool.and_eq_false_iff, decide_eq_true_eq, decide_eq_false_iff_not, beq_iff_eq, beq_eq_false_iff_ne, bne_iff_ne, bne_eq_false_iff_eq, ne_eq, not_and, Int.toNat_natCast] at *); (try simp (disch := omega) only [wrapId] at *)) <;> omega)
  exact pR 12 [(1, bf)] (cP h0 nilE) (by kernel_rfl)
set_option maxHeartbeats 4000000 in
theorem lineExit0 : lineExit0_T := by
  intro rows first A W
  have h0 : (decide ((↑(List.length rows) : Int) < (↑(List.length rows) : Int))) = false := by (((try simp only [Bool.not_eq_true', Bool.not_eq_false', Bool.and_eq_true, Bool.and_eq_false_iff, decide_eq_true_eq, decide_eq_false_iff_not, beq_iff_eq, beq_eq_false_iff_ne, bne_iff_ne, bne_eq_false_iff_eq, ne_eq, not_and, Int.toNat_natCast] at *); (try simp (disch := omega) only [wrapId] at *)) <;> omega)
  exact pR 12 [(1, bf)] (cP h0 nilE) (by kernel_rfl)
end Go.Proofs.Ytaobccodpdmieaa.Points
/- Points: paths, printed by a program of mine. -/
set_option maxRecDepth 100000
set_option linter.unusedSimpArgs false
set_option linter.unusedVariables false
namespace Go.Proofs.Ytaobccodpdmieaa.Points
open Go Pv G
theorem inA_len (A : List Cell) (c : Cell) : (inA A c).length ≤ A.length + 1 := by unfold inA; split <;> simp
theorem inW_len (row : Int) (W : List Point) (c : Cell) (k : Nat) : (inW row W c k).length ≤ W.length + 1 := by unfold inW; split <;> simp
theorem inAto_len (A cells : List Cell) : ∀ k, (inAto A cells k).length ≤ A.length + k
  | 0 => by simp [inAto]
  | k + 1 => by have := inA_len (inAto A cells k) (cellT.nth cells k); have := inAto_len A cells k; simp only [inAto]; omega
theorem inWto_len (row : Int) (W : List Point) (cells : List Cell) : ∀ k, (inWto row W cells k).length ≤ W.length + k
  | 0 => by simp [inWto]
  | k + 1 => by have := inW_len row (inWto row W cells k) (cellT.nth cells k) k; have := inWto_len row W cells k; simp only [inWto]; omega
theorem lineLoop1C (rows : List Row) (first : Int) (A : List Cell) (W : List Point) (i : Nat) (r : Row) (hA : A.length < 50000000) (hW : W.length < 50000000) (hf : 0 ≤ first) (hf2 : first < 1000000) (hi : i < 1000000) (hc : (Row.cells r).length < 1000000) :
    ∀ j k m, j + k = (Row.cells r).length → j < m → LpC X0 0 (ntOf X0 FL) (lpKeep X0 FL 1) (lpBody X0 FL 1) 1 m (stL1 rows first (inAto A (Row.cells r) k) (inWto (first + i) W (Row.cells r) k) i r k) (.exit 2, stL1x rows first (rowA A r) (rowW (first + i) W r) i r) := by
  intro j
  induction j with
  | zero =>
    intro k m hk hm
    obtain rfl : k = (Row.cells r).length := by omega
    exact LpC.last (lineExit1 _ _ _ _ _ _) (by simp)
  | succ j ih =>
    intro k m hk hm
    obtain ⟨m, rfl⟩ : ∃ x, m = x + 1 := ⟨m - 1, by omega⟩
    have h1 := inAto_len A (Row.cells r) k
    have h2 := inWto_len (first + i) W (Row.cells r) k
    exact LpC.next (lineRound1 rows first (inAto A (Row.cells r) k) (inWto (first + i) W (Row.cells r) k) i r k (by omega) (by omega) hf hf2 hi (by omega) hc) (ih (k + 1) m (by omega) (by omega))
theorem lineLoop1 : lineLoop1_T := fun rows first A W i r hA hW hf hf2 hi hc => LpC.start (m := 1152921504606846975) (lineLoop1C rows first A W i r hA hW hf hf2 hi hc (Row.cells r).length 0 _ (by omega) (by omega)) (by kernel_rfl)
set_option maxHeartbeats 4000000 in
theorem lineRound0 : lineRound0_T := by
  intro rows first A W i hA hW hf hf2 hi hr hc
  have h0 : (decide ((↑i : Int) < (↑(List.length rows) : Int))) = true := by (((try simp only [Bool.not_eq_true', Bool.not_eq_false', Bool.and_eq_true, Bool.and_eq_false_iff, decide_eq_true_eq, decide_eq_false_iff_not, beq_iff_eq, beq_eq_false_iff_ne, bne_iff_ne, bne_eq_false_iff_eq, ne_eq, not_and, Int.toNat_natCast] at *); (try simp (disch := omega) only [wrapId] at *)) <;> omega)
  exact (pC (st' := { s := [((nat_lit 0), (V.d (D.sl (List.flatMap (Ty.enc rowT) rows) (List.length rows)))), ((nat_lit 1), (V.d (D.int IntKind.i64 first))), ((nat_lit 5), (V.tail (nat_lit 62) (List.flatMap (Ty.enc cellT) (rowA A (Ty.nth rowT rows (Int.toNat (↑i : Int))))) (List.length (rowA A (Ty.nth rowT rows (Int.toNat (↑i : Int))))))), ((nat_lit 6), (V.tail (nat_lit 31) (List.flatMap (Ty.enc pointT) (rowW (first + (↑i : Int)) W (Ty.nth rowT rows (Int.toNat (↑i : Int))))) (List.length (rowW (first + (↑i : Int)) W (Ty.nth rowT rows (Int.toNat (↑i : Int))))))), ((nat_lit 15), (V.d (D.sl (List.flatMap (Ty.enc rowT) rows) (List.length rows)))), ((nat_lit 16), (V.d (D.int IntKind.i64 (↑(List.length rows) : Int)))), ((nat_lit 17), (V.d (D.int IntKind.i64 (IntKind.wrap IntKind.i64 ((↑i : Int) + (1 : Int))))))], h := [], og := [] }) 12 [(1, bt), (2, .v (V.d (D.ref (List.flatMap (Ty.enc rowT) rows) ((Int.toNat (↑i : Int)) * (7 : Nat))))), (3, .v (V.d (D.agg (Ty.enc rowT (Ty.nth rowT rows (Int.toNat (↑i : Int))))))), (6, .l (Ex.exit (2 : Nat)) (stL1x rows first (rowA A (Ty.nth rowT rows (Int.toNat (↑i : Int)))) (rowW (first + (↑i : Int)) W (Ty.nth rowT rows (Int.toNat (↑i : Int)))) i (Ty.nth rowT rows (Int.toNat (↑i : Int)))))] (cE (@lineLoop1 (rows) (first) (A) (W) (i) (Ty.nth rowT rows (Int.toNat (↑i : Int))) hA hW hf hf2 (by (((try simp only [Bool.not_eq_true', Bool.not_eq_false', Bool.and_eq_true, Bool.and_eq_false_iff, decide_eq_true_eq, decide_eq_false_iff_not, beq_iff_eq, beq_eq_false_iff_ne, bne_iff_ne, bne_eq_false_iff_eq, ne_eq, not_and, Int.toNat_natCast] at *); (try simp (disch := omega) only [wrapId] at *)) <;> omega)) (by (((try simp only [Bool.not_eq_true', Bool.not_eq_false', Bool.and_eq_true, Bool.and_eq_false_iff, decide_eq_true_eq, decide_eq_false_iff_not, beq_iff_eq, beq_eq_false_iff_ne, bne_iff_ne, bne_eq_false_iff_eq, ne_eq, not_and, Int.toNat_natCast] at *); (try simp (disch := omega) only [wrapId] at *)) <;> omega))) (cP (@loadRow (rows) ([]) (Int.toNat (↑i : Int)) (by (((try simp only [Bool.not_eq_true', Bool.not_eq_false', Bool.and_eq_true, Bool.and_eq_false_iff, decide_eq_true_eq, decide_eq_false_iff_not, beq_iff_eq, beq_eq_false_iff_ne, bne_iff_ne, bne_eq_false_iff_eq, ne_eq, not_and, Int.toNat_natCast] at *); (try simp (disch := omega) only [wrapId] at *)) <;> omega))) (cP (@iaddrRow (rows) ((↑i : Int)) (by (((try simp only [Bool.not_eq_true', Bool.not_eq_false', Bool.and_eq_true, Bool.and_eq_false_iff, decide_eq_true_eq, decide_eq_false_iff_not, beq_iff_eq, beq_eq_false_iff_ne, bne_iff_ne, bne_eq_false_iff_eq, ne_eq, not_and, Int.toNat_natCast] at *); (try simp (disch := omega) only [wrapId] at *)) <;> omega)) (by (((try simp only [Bool.not_eq_true', Bool.not_eq_false', Bool.and_eq_true, Bool.and_eq_false_iff, decide_eq_true_eq, decide_eq_false_iff_not, beq_iff_eq, beq_eq_false_iff_ne, bne_iff_ne, bne_eq_false_iff_eq, ne_eq, not_and, Int.toNat_natCast] at *); (try simp (disch := omega) only [wrapId] at *)) <;> omega))) (cP h0 nilE)))) (by kernel_rfl)).to (by (simp only [Int.toNat_natCast, beq_iff_eq, beq_eq_false_iff_ne, bne_iff_ne, bne_eq_false_iff_eq, ne_eq, Int.natCast_eq_zero, Row.cells] at *; first | (simp (disch := omega) [Ty.enc, inA, inW, Cell.kind, Cell.at, Row.cells, wrapId, toNatPred, *]; done) | (subst_vars; simp (disch := omega) [Ty.enc, inA, inW, Cell.kind, Cell.at, Row.cells, wrapId, toNatPred, *]; done)))
end Go.Proofs.Ytaobccodpdmieaa.Points
