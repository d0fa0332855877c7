/- Pv: one operation: what a state stands for, ahead and behind. -/
import Derived.Test.YtaobccodpdmieaaPvStep3
set_option linter.unusedSimpArgs false
set_option linter.unusedVariables false
namespace Go.Proofs.Ytaobccodpdmieaa.Pv
open Go

/-- A temporary was read there, and what stands there has not turned since. -/
def OgOk (w : World) (g : Gh) (a : Act) (t : Nat) : Loc → Prop
  | .slot u => a.tmps.getD t undef = a.tmps.getD u undef
  | .cell id j => ∃ b, g.μ[id]? = some b ∧ w.cell? ⟨b, j, none⟩ = some (a.tmps.getD t undef)

structure Rel (X : Ctx) (base N : Nat) (st : St) (a : Act) (w : World) (g : Gh) : Prop where
  defers : a.defers = []
  size : N ≤ a.tmps.size
  slots : ∀ t, RepV X w g (.slot t) (a.tmps.getD t undef) (lookT t st.s)
  sit : Sit X w g st.h
  low : Low X w g base st.h
  og : ∀ t l, (t, l) ∈ st.og → OgOk w g a t l

theorem getD_put {a : Act} {d : Nat} {v : Value} (hd : d < a.tmps.size) (t : Nat) : (a.put (some d) v).tmps.getD t undef = if t = d then v else a.tmps.getD t undef := by
  simp only [Act.put, Array.getD_eq_getD_getElem?, Array.getElem?_setIfInBounds]
  by_cases h : t = d
  · subst h; simp [hd]
  · rw [if_neg h, if_neg (fun hh => h hh.symm)]

theorem Low.grow {X : Ctx} {w w' : World} {g g' : Gh} {base : Nat} {h h' : List Ob} (l : Low X w g base h) (hf : Fresh g w) (k : Grow g w g' w') (hμ : g.μ.length = h.length) (hh : ∀ (id : Nat) (o : Ob), id < base → h'[id]? = some o → h[id]? = some o) (hl : h.length ≤ h'.length) : Low X w' g' base h' := by
  refine ⟨Nat.le_trans l.1 hl, fun n hn he id b o hid hb ho => ?_, fun id b hid hb => k.μ id b (l.2.2 id b hid (by rw [← k.pin]; exact hb))⟩
  have hlt : id < g.μ.length := by rw [hμ]; exact Nat.lt_of_lt_of_le (Nat.lt_of_lt_of_le hid hn) l.1
  have hb0 := List.getElem?_eq_getElem hlt
  have hb1 := k.μ id _ hb0
  rw [hb1] at hb
  cases hb
  exact (k.trunc n).repOb hf (l.2.1 n hn (by rw [← k.pin]; exact he) id _ o hid hb0 (hh id o (Nat.lt_of_lt_of_le hid hn) ho))

section
variable {X : Ctx} {base N : Nat} {st : St} {a : Act} {w : World} {g : Gh}

theorem Rel.get (r : Rel X base N st a w g) (x : Operand) : ∃ q, RepV X w g q (a.eval x) (st.get X x) := by
  cases x with
  | tmp t => exact ⟨.slot t, r.slots t⟩
  | const v => exact ⟨.free, .d _ _ _ (RepD.ofVal 6 v)⟩
  | func f => exact ⟨.free, .d _ _ _ (.fn f)⟩
  | global k =>
    simp only [Act.eval, St.get]
    cases hk : X.glob k with
    | none => exact ⟨.free, .d _ _ _ (.und _)⟩
    | some cs =>
      obtain ⟨vals, h1, h2, h3⟩ := r.sit.glob k cs hk
      refine ⟨.free, .d _ _ _ ?_⟩
      exact .ref k 0 0 cs vals h1.1 (by omega) (fun j v hj => by rw [Nat.zero_add]; exact h3 j v hj) h1.2

theorem Rel.ops (r : Rel X base N st a w g) (o : Oper) : RepOps X w g a (st.get X) o := fun y _ => r.get y

/-- A destination is written. -/
theorem rel_put {st' : St} {w' : World} {g' : Gh} {o : Oper} {v : Value} {x : V} (hdef : a.defers = []) (hsize : N ≤ a.tmps.size) (hN : dstOk N o = true)
    (slots : ∀ t, o.dst ≠ some t → RepV X w' g' (.slot t) (a.tmps.getD t undef) (lookT t st'.s)) (sit : Sit X w' g' st'.h) (low : Low X w' g' base st'.h) (og : ∀ t l, (t, l) ∈ st'.og → OgOk w' g' a t l)
    (hv : ∀ d, o.dst = some d → RepV X w' g' (.slot d) v x) : Rel X base N (st'.put o.dst x) (a.put o.dst v) w' g' := by
  cases hd : o.dst with
  | none => exact ⟨hdef, hsize, fun t => slots t (by rw [hd]; simp), sit, low, og⟩
  | some d =>
    have hdN : d < N := by simpa [dstOk, hd] using hN
    have hda : d < a.tmps.size := Nat.lt_of_lt_of_le hdN hsize
    refine ⟨hdef, by simpa [Act.put] using hsize, fun t => ?_, sit, low, fun t l hm => ?_⟩
    · rw [getD_put hda]
      simp only [St.put, lookT]
      by_cases h : t = d
      · subst h
        simp only [if_true, beq_self_eq_true]
        exact hv t hd
      · rw [if_neg h]
        have hb : (d == t) = false := by simp; exact fun hh => h hh.symm
        simp only [hb, Bool.false_eq_true, if_false]
        exact slots t (by rw [hd]; simpa using fun hh => h hh.symm)
    · simp only [St.put, List.mem_filter, Bool.and_eq_true, bne_iff_ne, ne_eq] at hm
      obtain ⟨h1, h2, h3⟩ := hm
      have hok := og t l h1
      cases l with
      | slot u =>
        simp only [OgOk] at hok ⊢
        rw [getD_put hda, getD_put hda, if_neg h2, if_neg (fun hh => h3 (by rw [hh]))]
        exact hok
      | cell id j =>
        simp only [OgOk] at hok ⊢
        rw [getD_put hda, if_neg h2]
        exact hok

theorem OgOk.grow {w' : World} {g' : Gh} {t : Nat} {l : Loc} (h : OgOk w g a t l) (k : Grow g w g' w') : OgOk w' g' a t l := by
  cases l with
  | slot u => exact h
  | cell id j =>
    obtain ⟨b, h1, h2⟩ := h
    exact ⟨b, k.μ id b h1, (World.cell?_of_block (w := w) (a := ⟨b, j, none⟩) (k.block b (World.block_lt_of_cell? w ⟨b, j, none⟩ h2))).trans h2⟩

theorem Rel.keep (r : Rel X base N st a w g) {w' : World} {g' : Gh} (k : Keep g w g' w') : Rel X base N st a w' g' where
  defers := r.defers
  size := r.size
  slots := fun t => k.repV r.sit.fresh (r.slots t)
  sit := r.sit.keep k
  low := r.low.grow r.sit.fresh k.toGrow r.sit.heap.len (fun _ _ _ h => h) (Nat.le_refl _)
  og := fun t l h => (r.og t l h).grow k.toGrow

theorem Rel.put (r : Rel X base N st a w g) {o : Oper} {v : Value} {x : V} (hN : dstOk N o = true) (hv : ∀ d, o.dst = some d → RepV X w g (.slot d) v x) : Rel X base N (st.put o.dst x) (a.put o.dst v) w g :=
  rel_put r.defers r.size hN (fun t _ => r.slots t) r.sit r.low r.og hv

/-- A place is noted. -/
theorem Rel.setOg (r : Rel X base N st a w g) {dst : Option Tmp} {l : Loc} (h : ∀ t, dst = some t → OgOk w g a t l) : Rel X base N (Pv.setOg st dst l) a w g := by
  cases dst with
  | none => exact r
  | some t =>
    refine ⟨r.defers, r.size, r.slots, r.sit, r.low, fun u k hm => ?_⟩
    simp only [Pv.setOg, List.mem_cons, Prod.mk.injEq] at hm
    rcases hm with ⟨rfl, rfl⟩ | hm
    · exact h _ rfl
    · exact r.og u k hm

/-- A slice with room of its own is no such slice any more. -/
theorem locCopy_slot (t u : Nat) : lookT u (locCopy st (.slot t)).s = if u = t then (lookT t st.s).copy else lookT u st.s := by
  simp only [locCopy]
  cases h : lookT t st.s with
  | tail E c n =>
    simp only [lookT]
    by_cases hu : u = t
    · subst hu; simp [V.copy]
    · have : (t == u) = false := by simp; exact fun hh => hu hh.symm
      simp [this, hu]
  | _ =>
    by_cases hu : u = t
    · subst hu; simp [V.copy, h]
    · simp [hu]

theorem locCopy_h (t : Nat) : (locCopy st (.slot t)).h = st.h := by
  simp only [locCopy]; split <;> rfl
theorem locCopy_og (l : Loc) : (locCopy st l).og = st.og := by
  cases l <;> simp only [locCopy] <;> split <;> rfl
theorem locCopy_cell_s (id j : Nat) : (locCopy st (.cell id j)).s = st.s := by
  simp only [locCopy]; split <;> rfl
theorem locCopy_cell_h (id j : Nat) : (locCopy st (.cell id j)).h = copyAt (.cell id j) st.h := by
  cases h : st.h[id]? with
  | none => simp [locCopy, copyAt, h]
  | some o => cases o <;> simp [locCopy, copyAt, h]

def posOf : Loc → Own
  | .slot t => .slot t
  | .cell id j => .cell id j
theorem posOf_pos (l : Loc) : IsPos (posOf l) := by
  cases l with
  | slot t => exact ⟨t, 0, 0, .inl rfl⟩
  | cell id j => exact ⟨0, id, j, .inr rfl⟩

theorem OgOk.shift {p : Own} {w' : World} {g' : Gh} {t : Nat} {l : Loc} (h : OgOk w g a t l) (s : Shift p g w g' w') (hh : RepH X w g st.h) : OgOk w' g' a t l := by
  cases l with
  | slot u => exact h
  | cell id j =>
    obtain ⟨b, h1, h2⟩ := h
    exact ⟨b, by rw [s.μ]; exact h1, (World.cell?_of_block (w := w) (a := ⟨b, j, none⟩) (s.objs b id (hh.own id b h1)).1).trans h2⟩

/-- What stood at a place is a copy from now on, and the world has shifted there. -/
theorem Rel.shift (r : Rel X base N st a w g) {l : Loc} {w' : World} {g' : Gh} (s : Shift (posOf l) g w g' w') : Rel X base N (locCopy st l) a w' g' := by
  have hp := (posOf_pos l).ne_free
  cases l with
  | slot t =>
    refine ⟨r.defers, r.size, fun u => ?_, ?_, ?_, fun u k hm => ?_⟩
    · rw [locCopy_slot]
      split
      · rename_i h; subst h; exact s.copy hp (r.slots u)
      · rename_i h; exact s.repV hp (r.slots u) (fun hh => h (by cases hh; rfl))
    · rw [locCopy_h]; exact ⟨s.fresh, s.repH hp r.sit.heap, s.glob r.sit.glob⟩
    · rw [locCopy_h]; exact s.low hp r.sit.heap r.low
    · rw [locCopy_og] at hm; exact (r.og u k hm).shift s r.sit.heap
  | cell id j =>
    refine ⟨r.defers, r.size, fun u => ?_, ?_, ?_, fun u k hm => ?_⟩
    · rw [locCopy_cell_s]; exact s.repV hp (r.slots u) (by intro hh; cases hh)
    · rw [locCopy_cell_h]; exact ⟨s.fresh, s.repH hp r.sit.heap, s.glob r.sit.glob⟩
    · rw [locCopy_cell_h]; exact s.low hp r.sit.heap r.low
    · rw [locCopy_og] at hm; exact (r.og u k hm).shift s r.sit.heap
end

section
variable {X : Ctx} {base N : Nat} {st st' : St} {a : Act} {w : World} {g : Gh} {call : CallF} {o : Oper}

/-- What a step must come to. -/
def Goes (X : Ctx) (base N : Nat) (st' : St) (g : Gh) (w : World) (K : Act → World → Prop) : Prop :=
  ∀ a' w' g', Later g w g' w' → Rel X base N st' a' w' g' → K a' w'

/-- The place of a destination. -/
def dstPos (o : Oper) : Own := .slot (o.dst.getD 0)
theorem dstPos_pos (o : Oper) : IsPos (dstPos o) := ⟨_, 0, 0, .inl rfl⟩
theorem dstPos_eq {o : Oper} {d : Nat} (h : o.dst = some d) : dstPos o = .slot d := by simp [dstPos, h]

theorem step_val {x : V} (hv : valOp X call (st.get X) st.h o = some x) (hN : dstOk N o = true) (r : Rel X base N st a w g) (hc : CallPOk X call) {K : Act → World → Prop} {Q : Exit → Act → World → Prop}
    (hK : Goes X base N (st.put o.dst x) g w K) : o.wp X.P a w K Q := by
  refine val_sound hv (r.ops o) r.sit hc (dstPos_pos o) (fun v w' g' k hr => ?_)
  refine hK _ w' g' (k.later r.sit.fresh) ((r.keep k).put hN fun d hd => ?_)
  rw [← dstPos_eq hd]
  exact hr

theorem step_move {t : Tmp} (hop : o.op = .move (.tmp t)) (hN : dstOk N o = true) (r : Rel X base N st a w g) {K : Act → World → Prop} {Q : Exit → Act → World → Prop}
    (hK : Goes X base N (setOg (st.put o.dst (st.get X (.tmp t)).copy) o.dst (.slot t)) g w K) : o.wp X.P a w K Q := by
  have hrun : (execOp a.eval o).run X.P w = .ok (.value (a.tmps.getD t undef)) w := by unfold execOp; simp [hop, Act.eval]
  refine wp_value hrun (hK _ w g (Later.refl g w) ?_)
  have h1 := r.put (o := o) (v := a.tmps.getD t undef) (x := (st.get X (.tmp t)).copy) hN (fun d _ => (r.slots t).copy)
  refine h1.setOg fun d hd => ?_
  have hda : d < a.tmps.size := by
    have hdN : d < N := by simpa [dstOk, hd] using hN
    exact Nat.lt_of_lt_of_le hdN r.size
  simp only [OgOk, hd]
  rw [getD_put hda, getD_put hda, if_pos rfl]
  split <;> rfl

theorem step_load {t : TypeId} {p : Operand} {id off : Nat} {x : V} (hop : o.op = .load t p) (hag : isAggT X.P t = false) (hp : st.get X p = .obj id off) (hx : loadOp X (st.get X) st.h t p = some x) (hN : dstOk N o = true)
    (r : Rel X base N st a w g) {K : Act → World → Prop} {Q : Exit → Act → World → Prop} (hK : Goes X base N (setOg (st.put o.dst x) o.dst (.cell id off)) g w K) : o.wp X.P a w K Q := by
  obtain ⟨q, hq⟩ := r.get p
  obtain ⟨u, h1, h2⟩ := load_sound hx hq r.sit.heap (dstPos o)
  have hrun : (execOp a.eval o).run X.P w = .ok (.value u) w := by unfold execOp; simp [hop, h1]
  refine wp_value hrun (hK _ w g (Later.refl g w) ?_)
  have h3 := r.put (o := o) (v := u) (x := x) hN (fun d hd => by rw [← dstPos_eq hd]; exact h2)
  refine h3.setOg fun d hd => ?_
  have hda : d < a.tmps.size := by
    have hdN : d < N := by simpa [dstOk, hd] using hN
    exact Nat.lt_of_lt_of_le hdN r.size
  rw [hp] at hq
  generalize a.eval p = vp at hq h1
  cases hq with
  | obj _ _ _ b hb =>
    refine ⟨b, hb, ?_⟩
    rw [hd, getD_put hda, if_pos rfl]
    -- the cell
    have cellEx : ∃ u', w.cell? ⟨b, off, none⟩ = some u' := by
      unfold loadOp at hx
      rw [hp] at hx
      simp only at hx
      obtain ⟨ob, ho, hr⟩ := r.sit.heap.get hb
      rw [ho] at hx
      have na : ∀ gg, aggT X.P t = some gg → gg = false := by
        intro gg hgg
        unfold isAggT at hag
        unfold aggT at hgg
        cases hu : X.P.underlying t with
        | none => simp [hu] at hgg
        | some dd => cases dd <;> simp_all
      cases ob with
      | cells vs =>
        obtain ⟨vals, T, k1, k2, _, _⟩ := hr
        obtain ⟨n, gg, _, hg, _, k4, _⟩ := partV_spec (X := X) hx
        have hlt := k4 (na gg hg)
        refine ⟨vals[off]'(by omega), ?_⟩
        rw [cell_of_heap k1]
        simp [k2, hlt]
      | frozen ds =>
        obtain ⟨vals, T, k1, k2, _, _⟩ := hr
        cases hpd : partD X.P t ds off with
        | none => simp [hpd] at hx
        | some dd =>
          obtain ⟨n, gg, _, hg, _, k4, _⟩ := partD_spec hpd
          have hlt := k4 (na gg hg)
          refine ⟨vals[off]'(by omega), ?_⟩
          rw [cell_of_heap k1]
          simp [k2, hlt]
      | _ => simp at hx
    obtain ⟨u', hu'⟩ := cellEx
    have hagg : aggT X.P t = some false := by
      have hrr : ∃ gg, aggT X.P t = some gg := by
        unfold loadOp at hx
        rw [hp] at hx
        simp only at hx
        split at hx
        · rename_i c _
          cases hpd : partD X.P t c off with
          | none => simp [hpd] at hx
          | some dd => obtain ⟨n, gg, _, hg, _⟩ := partD_spec hpd; exact ⟨gg, hg⟩
        · obtain ⟨n, gg, _, hg, _⟩ := partV_spec (X := X) hx; exact ⟨gg, hg⟩
        · cases hx
      obtain ⟨gg, hg⟩ := hrr
      unfold isAggT at hag
      unfold aggT at hg ⊢
      cases hu : X.P.underlying t with
      | none => simp [hu] at hg
      | some dd => cases dd <;> simp_all
    simp only [Instr.loadAt, Instr.sureAddr, Sem.run_bind, Sem.run_pure, Result.andThen_ok, loadVar, run_aggT hagg, Bool.false_eq_true, if_false, run_load, hu'] at h1
    rw [hu']
    simp at h1
    rw [h1]

theorem step_assign {t : Tmp} (hop : o.op = .assign (.tmp t)) (hN : dstOk N o = true) (r : Rel X base N st a w g) {K : Act → World → Prop} {Q : Exit → Act → World → Prop}
    (hK : Goes X base N ((locCopy st (.slot t)).put o.dst (st.get X (.tmp t))) g w K) : o.wp X.P a w K Q := by
  have hrun : (execOp a.eval o).run X.P w = .ok (.value (a.tmps.getD t undef)) w := by unfold execOp; simp [hop, Act.eval]
  have hslot := r.slots t
  by_cases ht : ∃ E c n, lookT t st.s = .tail E c n
  · obtain ⟨E, c, n, ht⟩ := ht
    rw [ht] at hslot
    generalize hve : a.tmps.getD t undef = v at hslot
    have hslot' := hslot
    cases hslot with
    | tail _ _ _ _ b cap cur z vals hz hz0 hb hn hm hcur hcl he ho hp hvv hr =>
      have sh := shift_give (q := dstPos o) r.sit.fresh ho hp
      have hr1 := r.shift (l := .slot t) sh
      refine wp_value hrun (hK _ w _ sh.later (hr1.put hN fun d hd => ?_))
      rw [hve]
      simp only [St.get, ht]
      rw [← dstPos_eq hd]
      exact .tail _ E c n b cap cur z vals hz hz0 hb hn hm hcur hcl he (by simp [Gh.give]) (dstPos_pos o) hvv hr
  · have hcp : locCopy st (.slot t) = st := by
      simp only [locCopy]
      split
      · rename_i E c n h; exact (ht ⟨E, c, n, h⟩).elim
      · rfl
    rw [hcp] at hK
    refine wp_value hrun (hK _ w g (Later.refl g w) (r.put hN fun d _ => ?_))
    exact hslot.place fun E c n h => ht ⟨E, c, n, h⟩

theorem step_assign_const {x : Operand} (hop : o.op = .assign x) (hx : ∀ t, x ≠ .tmp t) (hN : dstOk N o = true) (r : Rel X base N st a w g) {K : Act → World → Prop} {Q : Exit → Act → World → Prop}
    (hK : Goes X base N (st.put o.dst (st.get X x)) g w K) : o.wp X.P a w K Q := by
  have hrun : (execOp a.eval o).run X.P w = .ok (.value (a.eval x)) w := by unfold execOp; simp [hop]
  refine wp_value hrun (hK _ w g (Later.refl g w) (r.put hN fun d _ => ?_))
  obtain ⟨q, hq⟩ := r.get x
  refine hq.place fun E c n h => ?_
  cases x with
  | tmp t => exact hx t rfl
  | const v => simp [St.get] at h
  | global k => simp only [St.get] at h; split at h <;> simp [und] at h
  | func f => simp [St.get] at h

/-- A new box. -/
theorem Rel.box (r : Rel X base N st a w g) {vals : List Value} {vs : List V} (hp : PtV X w g vals vs) (T : TypeId) (hN : dstOk N o = true) :
    Rel X base N ({ st with h := st.h ++ [Ob.cells vs] }.put o.dst (.obj st.h.length 0)) (a.put o.dst (.pointer (some ⟨w.heap.size, 0, none⟩))) (w.alloc (.cells ⟨vals⟩ T)) (g.box w.heap.size) := by
  have hf := r.sit.fresh
  have k := grow_box hf (.cells ⟨vals⟩ T)
  have hμ : (g.box w.heap.size).μ = g.μ ++ [w.heap.size] := rfl
  have hnew : (g.box w.heap.size).μ[st.h.length]? = some w.heap.size := by rw [hμ, ← r.sit.heap.len]; simp
  have hold : ∀ (id b : Nat), id < st.h.length → (g.box w.heap.size).μ[id]? = some b → g.μ[id]? = some b := by
    intro id b hid hb
    rw [hμ, List.getElem?_append_left (by rw [r.sit.heap.len]; exact hid)] at hb
    exact hb
  refine rel_put r.defers r.size hN (fun t _ => k.repV hf (r.slots t)) ⟨k.fresh, ⟨by simp [hμ, r.sit.heap.len], fun id b hb => ?_, fun id b ob hb ho => ?_⟩, ?_⟩ ?_ (fun t l hm => (r.og t l hm).grow k) (fun d _ => .obj _ _ _ _ hnew)
  · by_cases hid : id < st.h.length
    · have hb0 := hold id b hid hb
      rw [k.own b (r.sit.heap.lt hb0)]
      exact r.sit.heap.own id b hb0
    · have hlt := (List.getElem?_eq_some_iff.1 hb).1
      rw [hμ] at hlt
      simp [r.sit.heap.len] at hlt
      obtain rfl : id = st.h.length := by omega
      rw [hnew] at hb
      cases hb
      simp [Gh.box, r.sit.heap.len]
  · by_cases hid : id < st.h.length
    · have hb0 := hold id b hid hb
      rw [List.getElem?_append_left hid] at ho
      exact k.repOb hf (r.sit.heap.ob id b ob hb0 ho)
    · have hlt := (List.getElem?_eq_some_iff.1 ho).1
      simp at hlt
      obtain rfl : id = st.h.length := by omega
      rw [hnew] at hb
      cases hb
      simp at ho
      subst ho
      refine ⟨vals, T, heap_alloc_new w _, hp.1, (hf _ (Nat.le_refl _)).2, fun j v x h1 h2 => ?_⟩
      exact (k.repV hf (hp.2 j v x h1 h2)).anyPos
  · intro i cs hi
    obtain ⟨vs', h1, h2, h3⟩ := r.sit.glob i cs hi
    refine ⟨vs', ⟨h1.1, fun j v d hv hd => k.repD hf (h1.2 j v d hv hd)⟩, Nat.le_trans h2 ((k.later hf).e i), fun j v hj => ?_⟩
    rw [(k.later hf).cells i j (by have := (List.getElem?_eq_some_iff.1 hj).1; rw [h1.1] at this; omega)]
    exact h3 j v hj
  · refine r.low.grow hf k r.sit.heap.len (fun id ob hid ho => ?_) (by simp)
    rw [List.getElem?_append_left (Nat.lt_of_lt_of_le hid r.low.1)] at ho
    exact ho

theorem step_alloc {t : TypeId} {z : D} (hop : o.op = .alloc t) (hz : zeroT X.P t = some z) (hN : dstOk N o = true) (r : Rel X base N st a w g) {K : Act → World → Prop} {Q : Exit → Act → World → Prop}
    (hK : Goes X base N ({ st with h := st.h ++ [Ob.cells (z.cells.map V.d)] }.put o.dst (.obj st.h.length 0)) g w K) : o.wp X.P a w K Q := by
  unfold zeroT at hz
  cases hi : X.P.info? t with
  | none => simp [hi] at hz
  | some i =>
    simp only [hi] at hz
    cases hzz : i.zero with
    | none => simp [hzz] at hz
    | some zv =>
      simp [hzz] at hz
      subst hz
      have hp : PtV X w g zv.cells.toList ((D.ofVal 6 zv).cells.map .d) := PtD.toV (cells_ofVal 4 zv)
      have hz0 : (zeroValue t).run X.P w = .ok zv w := by simp [zeroValue, typeInfo, hi, hzz]
      have hrun : (execOp a.eval o).run X.P w = .ok (.value (.pointer (some ⟨w.heap.size, 0, none⟩))) (w.alloc (.cells ⟨zv.cells.toList⟩ t)) := by
        unfold execOp
        simp [hop, Instr.alloc, hz0, newVar, newRow]
      refine wp_value hrun (hK _ _ _ ((grow_box r.sit.fresh _).later r.sit.fresh) (r.box hp t hN))

theorem step_box {t : TypeId} {x : Operand} (hop : o.op = .box t x) (hs : (st.get X x).sure = true) (hN : dstOk N o = true) (r : Rel X base N st a w g) {K : Act → World → Prop} {Q : Exit → Act → World → Prop}
    (hK : Goes X base N ({ st with h := st.h ++ [Ob.cells (st.get X x).copy.cells] }.put o.dst (.obj st.h.length 0)) g w K) : o.wp X.P a w K Q := by
  obtain ⟨q, hq⟩ := r.get x
  have hp := cells_rep hq hs
  have hrun : (execOp a.eval o).run X.P w = .ok (.value (.pointer (some ⟨w.heap.size, 0, none⟩))) (w.alloc (.cells ⟨(a.eval x).cells.toList⟩ t)) := by
    unfold execOp
    simp [hop, Instr.box, newVar, newRow]
  refine wp_value hrun (hK _ _ _ ((grow_box r.sit.fresh _).later r.sit.fresh) (r.box hp t hN))
end

end Go.Proofs.Ytaobccodpdmieaa.Pv
