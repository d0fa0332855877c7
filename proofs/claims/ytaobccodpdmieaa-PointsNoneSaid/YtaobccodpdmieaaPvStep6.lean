/- Pv: one operation: appends and calls on boxes; all operations in one. -/
import Derived.Test.YtaobccodpdmieaaPvStep5
set_option linter.unusedSimpArgs false
set_option linter.unusedVariables false
namespace Go.Proofs.Ytaobccodpdmieaa.Pv
open Go

/-- What a call answers on boxes. -/
def CallIOk (X : Ctx) (call : CallF) : Prop :=
  ∀ f args h y h', call.i f args h = some (y, h') → ∀ (w : World) (g : Gh) (vargs : List Value), Sit X w g h → PtV X w g vargs args → ∀ p, IsPos p →
    ∃ fn, X.P.funcs[f]? = some fn ∧ (fn.name == "runtime.NumGoroutine") = false ∧ ((∃ c, fn.body = some c) ∧ Calls X.P f ⟨vargs⟩ w fun E w' => ∃ v g', E = .returned v ∧ Later g w g' w' ∧ Sit X w' g' h' ∧ RepV X w' g' p v y ∧
      (∀ (id b : Nat), g.μ[id]? = some b → g'.μ[id]? = some b) ∧ (∀ (b t : Nat), g.own b = .slot t → w'.heap[b]? = w.heap[b]? ∧ g'.own b = .slot t ∧ g'.e b = g.e b) ∧ ∀ base, Low X w g base h → Low X w' g' base h')

section
variable {X : Ctx} {base N : Nat} {st : St} {a : Act} {w : World} {g : Gh} {call : CallF} {o : Oper}

theorem zero_size {P : Program} {E : TypeId} {i : TypeInfo} (hi : P.info? E = some i) (h : (zeroT P E).any (fun z => z.cells.length == i.size) = true) : ∃ zv, i.zero = some zv ∧ zv.cells.size = i.size := by
  unfold zeroT at h
  simp only [hi] at h
  cases hz : i.zero with
  | none => simp [hz] at h
  | some zv =>
    simp [hz] at h
    refine ⟨zv, rfl, ?_⟩
    have := (cells_ofVal (w := default) (e := fun _ => 0) 4 zv).1
    rw [Array.length_toList] at this
    rw [this]
    exact h

theorem step_append {c : Call} {s x : Operand} {t u : TypeId} {st1 : St} {y : V} (hop : o.op = .call c) (hc : c.callee = .builtin .append) (hargs : c.args.toList = [s, x]) (hts : c.argTypes.toList = [t, u])
    (hst : appendOp X st t u s x = some (st1, y)) (hN : dstOk N o = true) (r : Rel X base N st a w g) {K : Act → World → Prop} {Q : Exit → Act → World → Prop}
    (hK : Goes X base N (st1.put o.dst y) g w K) : o.wp X.P a w K Q := by
  have hargs' : c.args = #[s, x] := by apply Array.ext'; simpa using hargs
  have hts' : c.argTypes = #[t, u] := by apply Array.ext'; simpa using hts
  have hrun : ∀ v w', (Builtin.append_ #[t, u] o.type #[a.eval s, a.eval x]).run X.P w = .ok v w' → (execOp a.eval o).run X.P w = .ok (.value v) w' := by
    intro v w' h
    unfold execOp
    simp [hop, resolve, hc, hargs', hts', invoke, builtin, h]
  unfold appendOp at hst
  split at hst
  · rename_i E i cs m hE hEi hsrc
    split at hst
    · rename_i hcond
      simp only [Bool.and_eq_true, bne_iff_ne, ne_eq, beq_iff_eq] at hcond
      obtain ⟨⟨⟨hs0, hlen⟩, hone⟩, hzero⟩ := hcond
      simp only [hE, Option.bind_some] at hEi
      obtain ⟨zv, hz, hzs⟩ := zero_size hEi hzero
      obtain ⟨qx, hqx⟩ := r.get x
      obtain ⟨hu, news, hsr, hpt⟩ := src_rep hsrc hlen hqx
      have k : AppOk X w g t u E m i zv (a.eval x) cs news := ⟨elemT_under hE, hu, hEi, hz, hzs, Nat.pos_of_ne_zero hs0, hsr, hpt, hlen, hone⟩
      have hf := r.sit.fresh
      -- onto nil, or what has no room
      have full : ∀ (c0 : List D) (n : Nat), ((a.eval s = .slice none 0 0 ∧ c0 = [] ∧ n = 0) ∨ ∃ b o', a.eval s = .slice (some ⟨b, o', none⟩) n n ∧ RepD w g.e (a.eval s) (.sl c0 n)) → c0.length = n * i.size → 0 < m → (n + m) * i.bytes ≤ bigLen → n + m ≤ bigLen →
          st1 = st → y = .tail E (c0 ++ cs) (n + m) → o.wp X.P a w K Q := by
        intro c0 n hv hcl hm hb1 hb2 hs1 hy
        obtain ⟨v', w', g', h1, h2, h3⟩ := append_full (ty := o.type) k hf hv hcl hm hb1 hb2 (dstPos_pos o)
        subst hs1; subst hy
        refine wp_value (hrun _ _ h1) (hK _ w' g' (h2.later hf) ((r.keep h2).put hN fun d hd => ?_))
        rw [← dstPos_eq hd]; exact h3
      -- onto what has room of its own
      have tail : ∀ (l : Loc) (c0 : List D) (n : Nat), RepV X w g (posOf l) (a.eval s) (.tail E c0 n) → c0.length = n * i.size → (n + m) * i.bytes ≤ bigLen → n + m ≤ bigLen →
          st1 = locCopy st l → y = .tail E (c0 ++ cs) (n + m) → o.wp X.P a w K Q := by
        intro l c0 n hv hcl hb1 hb2 hs1 hy
        obtain ⟨v', w', g', h1, h2, h3⟩ := append_tail (ty := o.type) k hf hv hcl hb1 hb2 (dstPos_pos o)
        subst hs1; subst hy
        refine wp_value (hrun _ _ h1) (hK _ w' g' h2.later ((r.shift h2).put hN fun d hd => ?_))
        rw [← dstPos_eq hd]; exact h3
      simp only at hst
      split at hst
      · -- nil
        rename_i hs
        have hev : a.eval s = .slice none 0 0 := by
          obtain ⟨q, hq⟩ := r.get s
          rw [hs] at hq
          generalize a.eval s = v at hq
          cases hq with | d _ _ _ hq => cases hq; rfl
        split at hst
        · rename_i hm
          simp at hst
          obtain ⟨rfl, rfl⟩ := hst
          subst hm
          have := append_none (ty := o.type) k (ad := none) (n := 0) (cap := 0) (Nat.le_refl _)
          refine wp_value (hrun _ _ (by rw [hev]; exact this)) (hK _ w g (Later.refl g w) (r.put hN fun d _ => .d _ _ _ .nilsl))
        · rename_i hm
          split at hst
          · rename_i hb
            simp at hst
            obtain ⟨rfl, rfl⟩ := hst
            exact full [] 0 (.inl ⟨hev, rfl, rfl⟩) (by simp) (by omega) (by simpa using hb.1) (by simpa using hb.2) rfl (by simp)
          · simp at hst
      · -- no room
        rename_i c0 n hs
        obtain ⟨q, hq⟩ := r.get s
        rw [hs] at hq
        generalize hve : a.eval s = v at hq
        cases hq with
        | full _ b o' _ _ hr =>
          split at hst
          · rename_i hm
            simp at hst
            obtain ⟨rfl, rfl⟩ := hst
            subst hm
            have := append_none (ty := o.type) k (ad := some ⟨b, o', none⟩) (n := n) (cap := n) (Nat.le_refl _)
            exact wp_value (hrun _ _ (by rw [hve]; exact this)) (hK _ w g (Later.refl g w) (r.put hN fun d _ => .full _ _ _ _ _ hr))
          · rename_i hm
            split at hst
            · rename_i hcl
              split at hst
              · rename_i hb
                simp at hst
                obtain ⟨rfl, rfl⟩ := hst
                exact full c0 n (.inr ⟨b, o', hve, by rw [hve]; exact hr⟩) hcl.1 (by omega) hb.1 hb.2 rfl rfl
              · simp at hst
            · cases hst
      · -- room of its own, in a temporary
        rename_i E' c0 n hs
        split at hst
        · rename_i hcond2
          obtain ⟨rfl, hcl⟩ := hcond2
          cases s with
          | tmp ts =>
            simp only at hst
            split at hst
            · rename_i hb
              simp at hst
              obtain ⟨h1, h2⟩ := hst
              have hslot := r.slots ts
              have hlk : lookT ts st.s = .tail E' c0 n := hs
              rw [hlk] at hslot
              exact tail (.slot ts) c0 n hslot hcl hb.1 hb.2 h1.symm h2.symm
            · simp at hst
          | _ => simp at hst
        · cases hst
      · -- room of its own, at the place that it was read from
        split at hst
        · rename_i l hl
          split at hst
          · rename_i E' c0 n hlg
            split at hst
            · rename_i hcond2
              obtain ⟨rfl, hcl⟩ := hcond2
              split at hst
              · rename_i hb
                simp at hst
                obtain ⟨h1, h2⟩ := hst
                refine tail l c0 n ?_ hcl hb.1 hb.2 h1.symm h2.symm
                -- the operand is what stands there
                cases s with
                | tmp ts =>
                  simp only [ogOf] at hl
                  cases hfd : st.og.find? (fun x => x.1 == ts) with
                  | none => simp [hfd] at hl
                  | some e =>
                    simp [hfd] at hl
                    have hmem := List.mem_of_find?_eq_some hfd
                    have he1 : e.1 = ts := by have := List.find?_some hfd; simpa using this
                    have hok := r.og ts l (by rw [← he1, ← hl]; exact hmem)
                    cases l with
                    | slot u' =>
                      simp only [locGet, Option.some.injEq] at hlg
                      have hslot := r.slots u'
                      rw [hlg] at hslot
                      have : a.eval (.tmp ts) = a.tmps.getD u' undef := hok
                      rw [this]
                      exact hslot
                    | cell id j =>
                      obtain ⟨b, k1, k2⟩ := hok
                      simp only [locGet] at hlg
                      obtain ⟨ob, ho, hr⟩ := r.sit.heap.get k1
                      rw [ho] at hlg
                      cases ob with
                      | cells vs =>
                        obtain ⟨vals, T, i1, i2, i3, i4⟩ := hr
                        simp only at hlg
                        rw [cell_of_heap i1] at k2
                        exact i4 j (a.tmps.getD ts undef) _ (show vals[j]? = some (a.tmps.getD ts undef) from by rw [← k2]; simp) hlg
                      | _ => simp at hlg
                | _ => simp [ogOf] at hl
              · simp at hst
            · cases hst
          · cases hst
        · cases hst
    · cases hst
  · cases hst

theorem step_callI {c : Call} {f : Operand} {gf : FuncId} {ca cb : List V} {y : V} {h' : List Ob} (hop : o.op = .call c) (hc : c.callee = .value f) (hcal : calleeOf (st.get X f) = some (gf, ca, cb))
    (hst : call.i gf (ca ++ copies (st.get X) c.args ++ cb) st.h = some (y, h')) (hci : CallIOk X call) (hN : dstOk N o = true) (r : Rel X base N st a w g) {K : Act → World → Prop} {Q : Exit → Act → World → Prop}
    (hK : Goes X base N ({ s := st.s, h := h', og := [] : St }.put o.dst y) g w K) : o.wp X.P a w K Q := by
  obtain ⟨q, hq⟩ := r.get f
  obtain ⟨ua, ub, hve, ha, hb⟩ := calleeOf_val hq hcal
  have hcs := copies_rep (X := X) (w := w) (g := g) (a := a) (ρ := st.get X) (xs := c.args) (fun x _ => r.get x)
  obtain ⟨fn, hfn, hname, ⟨cbody, hcb⟩, hcalls⟩ := hci gf _ _ y h' hst w g _ r.sit ((ha.append hcs).append hb) (dstPos o) (dstPos_pos o)
  have hrun := run_call_value (P := X.P) hop hc hve hfn hname (by simp [hcb]) w
  unfold Oper.wp
  rw [hrun]
  refine hcalls.mono ?_
  rintro E w' ⟨v, g', rfl, hl, hsit, hrv, hμ, hsl, hlow⟩
  refine hK _ w' g' hl (rel_put (st' := { s := st.s, h := h', og := [] }) r.defers r.size hN (fun t _ => ?_) hsit (hlow base r.low) (by simp) fun d hd => by rw [← dstPos_eq hd]; exact hrv)
  -- the slots
  have gen : ∀ (p : Own) (v : Value) (x : V), (p = .slot t ∨ p = .free) → RepV X w g p v x → RepV X w' g' p v x := by
    intro p v x hp hr
    induction hr with
    | d p v x hr => exact .d p v x (hr.mono hl.cells hl.e)
    | tail p E cells n b c cur z vals hz hz0 hb hn hm hcur hcl he ho hpos hv hr =>
      rcases hp with rfl | rfl
      · obtain ⟨h1, h2, h3⟩ := hsl b t ho
        exact .tail _ E cells n b c cur z vals hz hz0 (h1.trans hb) hn hm hcur hcl (h3.trans he) h2 hpos hv fun j v d k1 k2 => (hr j v d k1 k2).mono hl.cells hl.e
      · exact (IsPos.ne_free hpos rfl).elim
    | full p b o cells n hr => exact .full p b o cells n (hr.mono hl.cells hl.e)
    | obj p id off b hr => exact .obj p id off b (hμ _ _ hr)
    | osl p id off n c b hr hn => exact .osl p id off n c b (hμ _ _ hr) hn
    | clo p fn va vb a b hla hlb _ _ iha ihb => exact .clo p fn va vb a b hla hlb (fun j v x h1 h2 => iha j v x h1 h2 (.inr rfl)) (fun j v x h1 h2 => ihb j v x h1 h2 (.inr rfl))
    | agg p vals vs hl' _ ih => exact .agg p vals vs hl' (fun j v x h1 h2 => ih j v x h1 h2 (.inr rfl))
    | tup p vals vs hl' _ ih => exact .tup p vals vs hl' (fun j v x h1 h2 => ih j v x h1 h2 (.inr rfl))
    | mp p id b hr => exact .mp p id b (hμ _ _ hr)
    | it p id b hr => exact .it p id b (hμ _ _ hr)
  exact gen _ _ _ (.inl rfl) (r.slots t)

/-- ONE OPERATION. -/
theorem step_sound {st' : St} (hst : stepOp X call base o st = some st') (hN : dstOk N o = true) (r : Rel X base N st a w g) (hc : CallPOk X call) (hci : CallIOk X call) {K : Act → World → Prop} {Q : Exit → Act → World → Prop}
    (hK : Goes X base N st' g w K) : o.wp X.P a w K Q := by
  unfold stepOp at hst
  split at hst
  · rename_i x hv
    split at hst
    · rename_i t hop
      simp at hst
      subst hst
      have hx : x = (st.get X (.tmp t)).copy := by
        unfold valOp at hv; rw [hop] at hv; simpa using hv.symm
      subst hx
      exact step_move hop hN r hK
    · rename_i t p hop
      have hl : loadOp X (st.get X) st.h t p = some x := by
        unfold valOp at hv; rw [hop] at hv; exact hv
      split at hst
      · rename_i id off hag hp
        simp at hst
        subst hst
        exact step_load hop hag hp hl hN r hK
      · simp at hst
        subst hst
        exact step_val hv hN r hc hK
    · simp at hst
      subst hst
      exact step_val hv hN r hc hK
  · split at hst
    · rename_i x hop
      split at hst
      · simp at hst; subst hst; exact step_assign hop hN r hK
      · rename_i hx
        simp at hst
        subst hst
        exact step_assign_const hop (fun t ht => hx t ht) hN r hK
    · rename_i t hop
      split at hst
      · rename_i z hz
        split at hst
        · simp at hst; subst hst; exact step_alloc hop hz hN r hK
        · cases hst
      · cases hst
    · rename_i t x hop
      simp only at hst
      split at hst
      · rename_i hcnd
        simp only [Bool.and_eq_true] at hcnd
        simp at hst
        subst hst
        exact step_box hop hcnd.1 hN r hK
      · cases hst
    · rename_i t p x hop
      cases hs : storeOp X base st t p x with
      | none => simp [hs] at hst
      | some s1 => simp [hs] at hst; subst hst; exact step_store hop hs hN r hK
    · rename_i c hop
      split at hst
      · rename_i hcal
        split at hst
        · rename_i s x t u hargs hts
          cases hs : appendOp X st t u s x with
          | none => simp [hs] at hst
          | some r1 =>
            simp [hs] at hst
            subst hst
            exact step_append hop hcal hargs hts hs hN r hK
        · cases hst
      · rename_i f hcal
        split at hst
        · rename_i gf ca cb hce
          cases hs : call.i gf (ca ++ copies (st.get X) c.args ++ cb) st.h with
          | none => rw [hs] at hst; simp only [Option.map_none] at hst; cases hst
          | some r1 =>
            rw [hs] at hst
            simp only [Option.map_some, Option.some.injEq] at hst
            subst hst
            exact step_callI hop hcal hce hs hci hN r hK
        · cases hst
      · cases hst
    · cases hst
end

end Go.Proofs.Ytaobccodpdmieaa.Pv
