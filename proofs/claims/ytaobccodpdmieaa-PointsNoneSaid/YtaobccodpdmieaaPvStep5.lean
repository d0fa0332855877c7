/- Pv: one operation: stores, appends, calls on boxes; all operations in one. -/
import Derived.Test.YtaobccodpdmieaaPvStep4
set_option linter.unusedSimpArgs false
set_option linter.unusedVariables false
namespace Go.Proofs.Ytaobccodpdmieaa.Pv
open Go

theorem one_valV {X : Ctx} {w : World} {g : Gh} {p : Own} {v : Value} {x : V} (r : RepV X w g p v x) (h : x.one = true) : v.oneCell' = true := by
  cases r with
  | d _ _ y hy => exact one_val hy h
  | agg => simp [V.one] at h
  | tup => simp [V.one] at h
  | _ => rfl

theorem RepV.retrunc {X : Ctx} {w : World} {g : Gh} {n : Nat} {p : Own} {v : Value} {x : V} (r : RepV X w g p v x) (h : x.toD.isSome = true) : RepV X w (g.trunc n) p v x := by
  cases r with
  | d _ _ _ r => exact .d _ _ _ r
  | tail _ E cells m b c cur z vals hz hz0 hb hn hm hcur hcl he ho hp hv hr => exact .tail _ E cells m b c cur z vals hz hz0 hb hn hm hcur hcl he ho hp hv hr
  | full _ _ _ _ _ r => exact .full _ _ _ _ _ r
  | _ => simp [V.toD] at h

theorem toDs_some {xs : List V} (h : (toDs xs).isSome = true) : ∀ x ∈ xs, x.toD.isSome = true := by
  obtain ⟨ds, hd⟩ := Option.isSome_iff_exists.1 h
  obtain ⟨h1, h2⟩ := toDs_spec xs ds hd
  intro x hx
  obtain ⟨j, hj, rfl⟩ := List.mem_iff_getElem.1 hx
  have := h2 j xs[j] (ds[j]'(by omega)) (List.getElem?_eq_getElem hj) (List.getElem?_eq_getElem (by omega))
  rw [this]; rfl

section
variable {X : Ctx} {base N : Nat} {st : St} {a : Act} {w : World} {g : Gh} {call : CallF} {o : Oper}

/-- A store into a box. -/
theorem Rel.store (r : Rel X base N st a w g) {id b off : Nat} {vs xs : List V} {us vals : List Value} {T : TypeId} (hid : g.μ[id]? = some b) (ho : st.h[id]? = some (.cells vs)) (hb : w.heap[b]? = some (.cells ⟨vals⟩ T (0, 0)))
    (hvl : vals.length = vs.length) (hl : us.length = xs.length) (hp : ∀ (j : Nat) (v : Value) (x : V), us[j]? = some v → xs[j]? = some x → RepV X w g (.cell id (off + j)) v x) (hle : off + xs.length ≤ vs.length)
    (hbase : base ≤ id ∨ (toDs xs).isSome = true) :
    Rel X base N { s := st.s, h := st.h.set id (.cells (splice vs off xs)), og := st.og.filter fun y => match y.2 with | .cell i _ => i != id | _ => true } a (w.setRow b ⟨splice vals off us⟩) g ∧ Later g w g (w.setRow b ⟨splice vals off us⟩) := by
  have hown := r.sit.heap.own id b hid
  have hou : ∃ id, g.own b = .obj id := ⟨id, hown⟩
  have he : g.e b = 0 := by
    obtain ⟨_, _, _, _, h, _⟩ := r.sit.heap.ob id b _ hid ho
    exact h
  have hmod : Mod b w (w.setRow b ⟨splice vals off us⟩) := mod_setRow
  have hnew : (w.setRow b ⟨splice vals off us⟩).heap[b]? = some (.cells ⟨splice vals off us⟩ T (0, 0)) := setRow_heap w b _ _ T (0, 0) hb
  have hlt : id < st.h.length := (List.getElem?_eq_some_iff.1 ho).1
  have hle' : off + us.length ≤ vals.length := by rw [hl, hvl]; exact hle
  -- the box itself, whatever boxes there are
  have box : ∀ g2 : Gh, g2.e = g.e → g2.own = g.own → (∀ (j : Nat) (v : Value) (x : V), vals[j]? = some v → vs[j]? = some x → RepV X w g2 (.cell id j) v x) →
      (∀ (j : Nat) (v : Value) (x : V), us[j]? = some v → xs[j]? = some x → RepV X w g2 (.cell id (off + j)) v x) → RepOb X (w.setRow b ⟨splice vals off us⟩) g2 id b (.cells (splice vs off xs)) := by
    intro g2 h1 h2 h3 h4
    have he2 : g2.e b = 0 := by rw [h1]; exact he
    have ho2 : ∃ id, g2.own b = .obj id := by rw [h2]; exact hou
    refine ⟨_, T, hnew, by rw [splice_length hle, splice_length hle', hvl], he2, fun j v x i1 i2 => hmod.repV he2 ho2 ?_⟩
    rw [splice_get hle'] at i1
    rw [splice_get hle] at i2
    rw [hl] at i1
    split at i1
    · rename_i hj; rw [if_pos hj] at i2; exact h3 j v x i1 i2
    · rename_i hj
      rw [if_neg hj] at i2
      split at i1
      · rename_i hj2
        rw [if_pos hj2] at i2
        have := h4 (j - off) v x i1 i2
        rwa [show off + (j - off) = j from by omega] at this
      · rename_i hj2; rw [if_neg hj2] at i2; exact h3 j v x i1 i2
  have hcells : ∀ (j : Nat) (v : Value) (x : V), vals[j]? = some v → vs[j]? = some x → RepV X w g (.cell id j) v x := by
    obtain ⟨vals', T', k1, k2, k3, k4⟩ := r.sit.heap.ob id b _ hid ho
    rw [hb] at k1
    cases k1
    exact k4
  refine ⟨⟨r.defers, r.size, fun t => hmod.repV he hou (r.slots t), ⟨?_, ⟨by simpa using r.sit.heap.len, r.sit.heap.own, fun i b' ob hi hob => ?_⟩, hmod.glob he r.sit.glob⟩, ⟨by simpa using r.low.1, fun n hn hel i b' ob hib hi hob => ?_, r.low.2.2⟩, fun t l hm => ?_⟩, hmod.later he hou⟩
  · intro x hx; rw [hmod.size] at hx; exact r.sit.fresh x hx
  · by_cases hii : i = id
    · subst hii
      rw [hid] at hi; cases hi
      rw [List.getElem?_set_self hlt] at hob
      cases hob
      exact box g rfl rfl hcells hp
    · rw [List.getElem?_set_ne (fun hh => hii hh.symm)] at hob
      exact hmod.repOb he hou (fun hh => hii (by subst hh; exact r.sit.heap.inj hi hid)) (r.sit.heap.ob i b' ob hi hob)
  · have heT : (g.trunc n).e b = 0 := he
    have houT : ∃ id, (g.trunc n).own b = .obj id := hou
    by_cases hii : i = id
    · subst hii
      rw [hid] at hi; cases hi
      rw [List.getElem?_set_self hlt] at hob
      cases hob
      have hd : (toDs xs).isSome = true := by
        rcases hbase with h | h
        · omega
        · exact h
      refine box (g.trunc n) rfl rfl ?_ fun j v x i1 i2 => (hp j v x i1 i2).retrunc (toDs_some hd x (List.mem_of_getElem? i2))
      obtain ⟨vals', T', k1, k2, k3, k4⟩ := r.low.2.1 n hn hel i b _ hib hid ho
      rw [hb] at k1
      cases k1
      exact k4
    · rw [List.getElem?_set_ne (fun hh => hii hh.symm)] at hob
      exact hmod.repOb heT houT (fun hh => hii (by subst hh; exact r.sit.heap.inj hi hid)) (r.low.2.1 n hn hel i b' ob hib hi hob)
  · simp only [List.mem_filter] at hm
    obtain ⟨h1, h2⟩ := hm
    have hok := r.og t l h1
    cases l with
    | slot u => exact hok
    | cell i j =>
      obtain ⟨b', k1, k2⟩ := hok
      have hne : i ≠ id := by simpa using h2
      have hbb : b' ≠ b := fun hh => hne (by subst hh; exact r.sit.heap.inj k1 hid)
      exact ⟨b', k1, (World.cell?_of_block (w := w) (a := ⟨b', j, none⟩) (hmod.block b' hbb)).trans k2⟩

theorem run_storeVar {P : Program} {w : World} {b off t n T : Nat} {vals : List Value} {v : Value} (hn : sizeT P t = some n) (hb : w.heap[b]? = some (.cells ⟨vals⟩ T (0, 0))) (hs : v.cells.size = n) (hle : off + n ≤ vals.length)
    (h1 : ∀ u ∈ v.cells.toList, u.oneCell' = true) : (storeVar t ⟨b, off, none⟩ v).run P w = .ok () (w.setRow b ⟨splice vals off v.cells.toList⟩) := by
  have hst := run_storeCells_at (P := P) b off T v.cells.toList 0 ⟨vals⟩ w hb (by show off + 0 + v.cells.toList.length ≤ vals.length; rw [Array.length_toList, hs]; omega) h1
  simp only [Nat.add_zero] at hst
  simp only [storeVar, Sem.run_bind, run_sizeT hn, Result.andThen_ok, hs, ne_eq, not_true_eq_false, if_false, hst]
  rfl

theorem step_store {t : TypeId} {p x : Operand} {st' : St} (hop : o.op = .store t p x) (hst : storeOp X base st t p x = some st') (hN : dstOk N o = true) (r : Rel X base N st a w g) {K : Act → World → Prop} {Q : Exit → Act → World → Prop}
    (hK : Goes X base N (st'.put o.dst undefV) g w K) : o.wp X.P a w K Q := by
  unfold storeOp at hst
  split at hst
  · rename_i id off n hρ hn
    split at hst
    · rename_i vs hob
      simp only at hst
      split at hst
      · rename_i hc
        obtain ⟨hsure, hxl, hle, hone, hbase⟩ := hc
        simp only [Option.some.injEq] at hst
        obtain ⟨q, hq⟩ := r.get p
        rw [hρ] at hq
        obtain ⟨qx, hqx⟩ := r.get x
        have hcr := cells_rep hqx hsure
        generalize hvp : a.eval p = vp at hq
        cases hq with
        | obj _ _ _ b hb =>
          obtain ⟨vals, T, k1, k2, k3, k4⟩ := r.sit.heap.ob id b _ hb hob
          have hcl : (st.get X x).copy.cells.length = (st.get X x).cells.length := by
            cases st.get X x <;> rfl
          have hcs : (a.eval x).cells.size = n := by rw [← Array.length_toList, hcr.1, hcl]; exact hxl
          have hones : ∀ u ∈ (a.eval x).cells.toList, u.oneCell' = true := by
            intro u hu
            obtain ⟨j, hj, rfl⟩ := List.mem_iff_getElem.1 hu
            have hj2 : j < (st.get X x).copy.cells.length := by rw [← hcr.1]; exact hj
            refine one_valV (hcr.2 j _ _ (List.getElem?_eq_getElem hj) (List.getElem?_eq_getElem hj2)) ?_
            simp only [List.all_eq_true] at hone
            by_cases ht : ∃ E c m, st.get X x = .tail E c m
            · obtain ⟨E, c, m, ht⟩ := ht
              have : (st.get X x).copy.cells = [.d (.sl c m)] := by rw [ht]; rfl
              simp [this]
              rfl
            · have hcp : (st.get X x).copy = st.get X x := by
                cases hx : st.get X x with
                | tail E c m => exact (ht ⟨E, c, m, hx⟩).elim
                | _ => rfl
              have hj3 : j < (st.get X x).cells.length := by rw [← hcl]; exact hj2
              have := hone (st.get X x).cells[j] (List.getElem_mem hj3)
              simpa [hcp] using this
          have hrun : (execOp a.eval o).run X.P w = .ok .skip (w.setRow b ⟨splice vals off (a.eval x).cells.toList⟩) := by
            unfold execOp
            simp only [hop, hvp, Instr.storeAt, Instr.sureAddr, Sem.run_bind, Sem.run_pure, Result.andThen_ok, run_storeVar hn k1 hcs (by rw [k2]; exact hle) hones]
          have fin : ∀ (st1 : St) (g1 : Gh), Later g w g1 w → Rel X base N st1 a w g1 → st1.h = st.h → g1.μ = g.μ →
              (∀ (j : Nat) (v : Value) (y : V), (a.eval x).cells.toList[j]? = some v → (st.get X x).cells[j]? = some y → RepV X w g1 (.cell id (off + j)) v y) →
              st' = { s := st1.s, h := st1.h.set id (.cells (splice vs off (st.get X x).cells)), og := st1.og.filter fun y => match y.2 with | .cell i _ => i != id | _ => true } → o.wp X.P a w K Q := by
            intro st1 g1 hl1 r1 hh hμ hcell hst1
            obtain ⟨r2, hl2⟩ := r1.store (id := id) (b := b) (off := off) (vs := vs) (xs := (st.get X x).cells) (us := (a.eval x).cells.toList) (vals := vals) (T := T) (by rw [hμ]; exact hb) (by rw [hh]; exact hob) k1 k2 (by rw [hcr.1, hcl]) hcell (by rw [hxl]; exact hle) hbase
            unfold Oper.wp
            rw [hrun]
            subst hst1
            exact hK _ _ g1 (hl1.trans hl2) (r2.put hN fun d _ => .d _ _ _ (.tup [] [] rfl (by simp)))
          have nontail : (¬ ∃ E c m, st.get X x = .tail E c m) → (st.get X x).copy = st.get X x := by
            intro ht
            cases hx : st.get X x with
            | tail E c m => exact (ht ⟨E, c, m, hx⟩).elim
            | _ => rfl
          have plain : (¬ ∃ E c m, st.get X x = .tail E c m) → ∀ (j : Nat) (v : Value) (y : V), (a.eval x).cells.toList[j]? = some v → (st.get X x).cells[j]? = some y → RepV X w g (.cell id (off + j)) v y := by
            intro ht j v y h1 h2
            have := hcr.2 j v y h1 (by rw [nontail ht]; exact h2)
            exact this.anyPos
          cases x with
          | tmp ts =>
            simp only at hst
            by_cases ht : ∃ E c m, st.get X (.tmp ts) = .tail E c m
            · obtain ⟨E, c, m, ht⟩ := ht
              have hslot := r.slots ts
              have hlk : lookT ts st.s = .tail E c m := ht
              rw [hlk] at hslot
              generalize hve : a.tmps.getD ts undef = v at hslot
              cases hslot with
              | tail _ _ _ _ b2 cap cur z vals2 hz hz0 hb2 hn2 hm2 hcur hcl2 he2 ho2 hp2 hvv hr2 =>
                have hposc : IsPos (.cell id off) := ⟨0, id, off, .inr rfl⟩
                have sh := shift_give (q := .cell id off) r.sit.fresh ho2 hp2
                have r1 := r.shift (l := .slot ts) sh
                refine fin _ _ sh.later r1 (locCopy_h ts) rfl (fun j v' y h1 h2 => ?_) hst.symm
                rw [ht] at h2
                have hev : a.eval (.tmp ts) = .slice (some ⟨b2, 0, none⟩) m cap := hve
                rw [hev] at h1
                cases j with
                | zero =>
                  simp [V.cells] at h2
                  simp [Value.cells] at h1
                  subst h1; subst h2
                  exact .tail _ E c m b2 cap cur z vals2 hz hz0 hb2 hn2 hm2 hcur hcl2 he2 (by simp [Gh.give]) hposc hvv hr2
                | succ j => simp [V.cells] at h2
            · have hcp : locCopy st (.slot ts) = st := by
                simp only [locCopy]
                split
                · rename_i E c m h; exact (ht ⟨E, c, m, h⟩).elim
                · rfl
              rw [hcp] at hst
              exact fin st g (Later.refl g w) r rfl rfl (plain ht) hst.symm
          | const v => exact fin st g (Later.refl g w) r rfl rfl (plain (by rintro ⟨E, c, m, h⟩; simp [St.get] at h)) hst.symm
          | global k => exact fin st g (Later.refl g w) r rfl rfl (plain (by rintro ⟨E, c, m, h⟩; simp only [St.get] at h; split at h <;> simp [und] at h)) hst.symm
          | func f => exact fin st g (Later.refl g w) r rfl rfl (plain (by rintro ⟨E, c, m, h⟩; simp [St.get] at h)) hst.symm
      · cases hst
    · cases hst
  · cases hst
end

end Go.Proofs.Ytaobccodpdmieaa.Pv
