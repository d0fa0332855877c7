/- Lemmas for the law CompareMakesLaw: texts of mine, merged. -/
import Derived.Test.YtpbhfbphefmchaaDoorChecked
import Derived.Test.YtpbhfbphefmchaaDoorShelf
import Derived.Lib.CountLaws
import Derived.Below
import Derived.ProofKit
import Derived.Carry
import Derived.OpenShut
import Derived.Deep.Slices
import Derived.SizedLaws
import Derived.Test.YtpbhfbphefmchaaDoorMCompareMakesLaw4
/- Pv: what a run on data says of the program's function. -/
set_option linter.unusedSimpArgs false
set_option linter.unusedVariables false
namespace Go.Proofs.YtpbhfbphefmchaaDoor.Pv
open Go

section
variable {X : Ctx}

theorem runP_spec {call : CallF} {fuel : Nat} {f : FuncId} {args : List V} {y : V} {h' : List Ob} (hx : X.ext f = none) (h : runP X call fuel f args = some (y, h')) :
    ∃ fn c, X.P.funcs[f]? = some fn ∧ fn.body = some c ∧ (fn.name == "runtime.NumGoroutine") = false ∧ bodyOn X call fuel fn c (args.map V.copy) [] = some (y, h') := by
  unfold runP at h
  rw [hx] at h
  simp only at h
  split at h
  · cases h
  · rename_i fn hfn
    split at h
    · cases h
    · rename_i c hb
      split at h
      · cases h
      · rename_i hn
        exact ⟨fn, c, hfn, hb, by simpa using hn, h⟩

theorem pure_move {w : World} {g g2 : Gh} {q q2 : Own} {v : Value} {x : V} (r : RepV X w g q v x) (hx : x.pure = true) (he : g2.e = g.e) (h : IsPos q → IsPos q2 ∧ ∀ b, g.own b = q → g2.own b = q2) : RepV X w g2 q2 v x := by
  cases r with
  | d _ _ _ r => exact .d _ _ _ (by rw [he]; exact r)
  | tail _ E cells m b c cur z vals hz hz0 hb hn hm hcur hcl hee ho hp hv hr =>
    obtain ⟨h1, h2⟩ := h hp
    exact .tail _ E cells m b c cur z vals hz hz0 hb hn hm hcur hcl (by rw [he]; exact hee) (h2 b ho) h1 hv fun j v d k1 k2 => by rw [he]; exact hr j v d k1 k2
  | tail0 _ E => exact .tail0 _ E
  | full _ b o cells n r => exact .full _ b o cells n (by rw [he]; exact r)
  | obj => simp [V.pure] at hx
  | osl => simp [V.pure] at hx
  | clo => simp [V.pure] at hx
  | agg => simp [V.pure] at hx
  | tup => simp [V.pure] at hx
  | mp => simp [V.pure] at hx
  | it => simp [V.pure] at hx

theorem RepOb.renumber {w : World} {g g2 : Gh} {n : Nat} (he : g2.e = g.e) (hμ : ∀ (id b : Nat), g.μ[id]? = some b → g2.μ[n + id]? = some b) (ho : ∀ (b id j : Nat), g.own b = .cell id j → g2.own b = .cell (n + id) j) {id b : Nat} {o : Ob} (r : RepOb X w g id b o) : RepOb X w g2 (n + id) b (o.shift n) := by
  cases o with
  | cells vs =>
    obtain ⟨vals, T, h1, h2, h3, h4⟩ := r
    refine ⟨vals, T, h1, by rw [shifts_length]; exact h2, by rw [he]; exact h3, fun j v x k1 k2 => ?_⟩
    rw [shifts_get] at k2
    cases hx : vs[j]? with
    | none => rw [hx] at k2; cases k2
    | some x0 => rw [hx] at k2; cases k2; exact (h4 j v x0 k1 hx).renumber he hμ _ fun _ => ⟨⟨0, n + id, j, .inr rfl⟩, fun b hb => ho b id j hb⟩
  | frozen ds => obtain ⟨vals, T, h1, h2, h3, h4⟩ := r; exact ⟨vals, T, h1, h2, by rw [he]; exact h3, fun j v x k1 k2 => by rw [he]; exact h4 j v x k1 k2⟩
  | map es ck => obtain ⟨en, h1, h2, h3, h4⟩ := r; exact ⟨en, h1, h2, by rw [he]; exact h3, fun j v x k1 k2 => by rw [he]; exact h4 j v x k1 k2⟩
  | iter s pos => exact ⟨r.1, by rw [he]; exact r.2⟩

/-- The place of a result is a slot. -/
theorem slot_of {q : Own} (h : q = .free ∨ ∃ t, q = .slot t) (hp : IsPos q) : ∃ t, q = .slot t := by
  rcases h with rfl | h
  · exact (IsPos.ne_free hp rfl).elim
  · exact h

theorem callP_step {call : CallF} (hc : CallPOk X call) (hci : CallIOk X call) (hfz : ∀ t, X.frz t = X.frz t) {fuel : Nat} {f : FuncId} (hx : X.ext f = none) {args : List V} {y : V} {h' : List Ob} (hrun : runP X call fuel f args = some (y, h')) (hpure : args.all V.pure = true)
    {w : World} {g : Gh} {vargs : List Value} (hf : Fresh g w) (hg : GlobOk X w g) (hp : PtV X w g vargs args) {p : Own} (hpos : IsPos p) (k : Nat) :
    ∃ fn, X.P.funcs[f]? = some fn ∧ (fn.name == "runtime.NumGoroutine") = false ∧ ((∃ c, fn.body = some c) ∧ Calls X.P f ⟨vargs⟩ w fun E w' => ∃ v g' q, E = .returned v ∧ Later (g.alone w.heap.size) w g' w' ∧ Sit X w' g' h' ∧ RepV X w' g' q v y ∧ (IsPos q → IsPos p ∧ ∀ b, g'.own b = q → (g.back g' w.heap.size k q p).own b = p)) := by
  obtain ⟨fn, c, h1, h2, h3, h4⟩ := runP_spec hx hrun
  refine ⟨fn, h1, h3, ⟨c, h2⟩, body_sound (g := g.alone w.heap.size) hc hci hfz h1 h2 h4 (hp.pure hpure rfl) (alone_sit hf hg) alone_low fun v w' g' q l sit _ hr hq => ⟨v, g', q, rfl, l, sit, hr, fun hqp => ⟨hpos, fun b hb => ?_⟩⟩⟩
  obtain ⟨t, rfl⟩ := slot_of hq hqp
  have hnew : ¬ b < w.heap.size := fun hlt => by
    have := (alone_own l hlt).2.1
    rw [hb] at this
    cases this
  simp only [Gh.back]
  rw [if_neg hnew, hb]
  simp

/-- What such functions answer is plain. -/
def ExtPure (X : Ctx) : Prop := ∀ f F, X.ext f = some F → ∀ ds y, F ds = some y → y.pure = true
/-- What is asked of functions that are not run. -/
def ExtOk (X : Ctx) : Prop :=
  ∀ f F, X.ext f = some F → ∀ ds y, F ds = some y → ∀ (w : World) (g : Gh) (vargs : List Value), Fresh g w → GlobOk X w g → PtD w g.e vargs ds → ∀ p, IsPos p →
    ∃ fn, X.P.funcs[f]? = some fn ∧ (fn.name == "runtime.NumGoroutine") = false ∧ ((∃ c, fn.body = some c) ∧ Calls X.P f ⟨vargs⟩ w fun E w' => ∃ v g', E = .returned v ∧ Keep g w g' w' ∧ RepV X w' g' p v y)

/-- What is asked of functions on boxes that are not run. -/
def ExtIOk (X : Ctx) : Prop :=
  ∀ f F, X.exti f = some F → ∀ args h y h', F args h = some (y, h') → h'.length = h.length → ∀ (w : World) (g : Gh) (vargs : List Value), Sit X w g h → PtV X w g vargs args → ∀ p, IsPos p →
    ∃ fn, X.P.funcs[f]? = some fn ∧ (fn.name == "runtime.NumGoroutine") = false ∧ ((∃ c, fn.body = some c) ∧ Calls X.P f ⟨vargs⟩ w fun E w' => ∃ v g', E = .returned v ∧ Later g w g' w' ∧ Sit X w' g' h' ∧ RepV X w' g' p v y ∧
      (∀ (id b : Nat), g.μ[id]? = some b → g'.μ[id]? = some b) ∧ (∀ (b t : Nat), g.own b = .slot t → w'.heap[b]? = w.heap[b]? ∧ g'.own b = .slot t ∧ g'.e b = g.e b) ∧ ∀ base, Low X w g base h → Low X w' g' base h')

theorem runP_ext {call : CallF} {fuel : Nat} {f : FuncId} {args : List V} {y : V} {h' : List Ob} {F : List D → Option V} (hx : X.ext f = some F) (h : runP X call fuel f args = some (y, h')) : ∃ ds, toDs args = some ds ∧ F ds = some y ∧ h' = [] := by
  unfold runP at h
  rw [hx] at h
  simp only at h
  split at h
  · rename_i ds hds
    cases hF : F ds with
    | none => simp [hF] at h
    | some v => simp [hF] at h; exact ⟨ds, hds, by rw [hF, h.1], h.2⟩
  · cases h

theorem callN_ok (hfz : ∀ t, X.frz t = X.frz t) (hx : ExtOk X) (hxp : ExtPure X) (hxi : ExtIOk X) (fuel : Nat) : ∀ k, CallPOk X (callN X fuel k) ∧ CallIOk X (callN X fuel k) := by
  intro k
  induction k with
  | zero => exact ⟨fun f args x h => by simp [callN] at h, fun f args h y h' hh => by simp [callN] at hh⟩
  | succ k ih =>
    obtain ⟨hc, hci⟩ := ih
    constructor
    · intro f args x hcall hpure w g vargs hf hg hp p hpos
      simp only [callN] at hcall
      split at hcall
      · rename_i v h1 hrun
        split at hcall
        · rename_i hv
          simp at hcall
          subst hcall
          cases hxf : X.ext f with
          | some F =>
            obtain ⟨ds, e1, e2, rfl⟩ := runP_ext hxf hrun
            exact hx f F hxf ds v e2 w g vargs hf hg (hp.toDs e1) p hpos
          | none =>
          obtain ⟨fn, k1, k2, k3, k4⟩ := callP_step hc hci hfz hxf hrun hpure hf hg hp hpos 0
          refine ⟨fn, k1, k2, k3, k4.mono ?_⟩
          rintro E w' ⟨u, g', q, rfl, l, sit, hr, hq⟩
          have gr := back_grow (k := 0) (q := q) (p := p) l sit.fresh
          refine ⟨u, { g.back g' w.heap.size 0 q p with μ := g.μ }, rfl, ⟨⟨gr.os, gr.tape, gr.output, gr.size, gr.block, gr.own, gr.e, fun _ _ h => h, rfl, gr.fresh⟩, rfl⟩, ?_⟩
          exact pure_move hr hv rfl fun hqp => ⟨(hq hqp).1, (hq hqp).2⟩
        · cases hcall
      · cases hcall
    · intro f args h y h' hcall w g vargs sit hp p hpos
      simp only [callN] at hcall
      split at hcall
      · rename_i hpure
        split at hcall
        · rename_i v h1 hrun
          simp at hcall
          obtain ⟨rfl, rfl⟩ := hcall
          cases hxf : X.ext f with
          | some F =>
            obtain ⟨ds, e1, e2, rfl⟩ := runP_ext hxf hrun
            obtain ⟨fn, k1, k2, k3, k4⟩ := hx f F hxf ds v e2 w g vargs sit.fresh sit.glob (hp.toDs e1) p hpos
            refine ⟨fn, k1, k2, k3, k4.mono ?_⟩
            rintro E w' ⟨u, g', rfl, hk, hr⟩
            have hvs : RepV X w' g' p u (v.shift h.length) := by
              cases hr with
              | d _ _ _ r => exact .d _ _ _ r
              | tail _ E cells m b c cur z vals hz hz0 hb hn hm hcur hcl hee ho hp hv hr => exact .tail _ E cells m b c cur z vals hz hz0 hb hn hm hcur hcl hee ho hp hv hr
              | tail0 _ E => exact .tail0 _ E
              | full _ b o cells n r => exact .full _ b o cells n r
              | _ => exact absurd (hxp f F hxf ds _ e2) (by simp [V.pure])
            refine ⟨u, g', rfl, hk.later sit.fresh, ⟨hk.fresh, by simpa using hk.repH sit.fresh sit.heap, sit.glob.grow hk.toGrow sit.fresh⟩, hvs, hk.μ, fun b t hb => ?_, fun base hlow => ?_⟩
            · have hlt : b < w.heap.size := by
                apply Classical.byContradiction; intro hn
                rw [(sit.fresh b (by omega)).1] at hb
                cases hb
              exact ⟨hk.block b hlt, (hk.own b hlt).trans hb, hk.e b hlt⟩
            · refine hlow.grow sit.fresh hk.toGrow sit.heap.len (fun id o hid ho => ?_) (by simp)
              simpa using ho
          | none =>
          obtain ⟨fn, k1, k2, k3, k4⟩ := callP_step hc hci hfz hxf hrun hpure sit.fresh sit.glob hp hpos h.length
          refine ⟨fn, k1, k2, k3, k4.mono ?_⟩
          rintro E w' ⟨u, g', q, rfl, l, sit', hr, hq⟩
          have gr := back_grow (k := h.length) (q := q) (p := p) l sit'.fresh
          have hμ : ∀ (id b : Nat), g'.μ[id]? = some b → (g.back g' w.heap.size h.length q p).μ[h.length + id]? = some b := by
            intro id b hb
            simp only [Gh.back]
            rw [List.getElem?_append_right (by rw [sit.heap.len]; omega), sit.heap.len]
            rw [show h.length + id - h.length = id by omega]
            exact hb
          have hnew : ∀ b, g'.own b ≠ .fgn → ¬ b < w.heap.size := fun b hb hlt => hb (alone_own l hlt).2.1
          have hcell : ∀ (b id j : Nat), g'.own b = .cell id j → (g.back g' w.heap.size h.length q p).own b = .cell (h.length + id) j := by
            intro b id j hb
            simp only [Gh.back]
            rw [if_neg (hnew b (by rw [hb]; simp)), hb]
          have hsplit : ∀ (id : Nat) (b : Nat), (g.back g' w.heap.size h.length q p).μ[id]? = some b → (id < h.length ∧ g.μ[id]? = some b) ∨ ∃ i, id = h.length + i ∧ g'.μ[i]? = some b := by
            intro id b hb
            simp only [Gh.back] at hb
            by_cases hid : id < h.length
            · rw [List.getElem?_append_left (by rw [sit.heap.len]; exact hid)] at hb
              exact .inl ⟨hid, hb⟩
            · rw [List.getElem?_append_right (by rw [sit.heap.len]; omega), sit.heap.len] at hb
              exact .inr ⟨id - h.length, by omega, hb⟩
          refine ⟨u, g.back g' w.heap.size h.length q p, rfl, gr.later sit.fresh, ⟨gr.fresh, ⟨?_, fun id b hb => ?_, fun id b o hb ho => ?_⟩, sit.glob.grow gr sit.fresh⟩, hr.renumber (g := g') (g2 := g.back g' w.heap.size h.length q p) rfl hμ _ (fun hqp => ⟨(hq hqp).1, (hq hqp).2⟩), gr.μ, fun b t hb => ?_, fun base hlow => ?_⟩
          · simp [Gh.back, sit.heap.len, sit'.heap.len]
          · rcases hsplit id b hb with ⟨hid, hb⟩ | ⟨i, rfl, hb'⟩
            · rw [gr.own b (sit.heap.lt hb)]
              exact sit.heap.own id b hb
            · have ho := sit'.heap.own i b hb'
              simp only [Gh.back]
              rw [if_neg (hnew b (by rw [ho]; simp)), ho]
          · rcases hsplit id b hb with ⟨hid, hb⟩ | ⟨i, rfl, hb'⟩
            · rw [List.getElem?_append_left hid] at ho
              exact gr.repOb sit.fresh (sit.heap.ob id b o hb ho)
            · rw [List.getElem?_append_right (by omega), show h.length + i - h.length = i by omega, List.getElem?_map] at ho
              cases ho1 : h1[i]? with
              | none => rw [ho1] at ho; cases ho
              | some o1 =>
                rw [ho1] at ho
                cases ho
                exact (sit'.heap.ob i b o1 hb' ho1).renumber (g := g') (g2 := g.back g' w.heap.size h.length q p) rfl hμ hcell
          · have hlt : b < w.heap.size := by
              apply Classical.byContradiction; intro hn
              rw [(sit.fresh b (by omega)).1] at hb
              cases hb
            exact ⟨gr.block b hlt, (gr.own b hlt).trans hb, gr.e b hlt⟩
          · refine hlow.grow sit.fresh gr sit.heap.len (fun id o hid ho => ?_) (by simp)
            rw [List.getElem?_append_left (Nat.lt_of_lt_of_le hid hlow.1)] at ho
            exact ho
        · cases hcall
      · -- on the boxes that there are
        unfold runI at hcall
        cases hxo : xiOf X f args h with
        | some o =>
          rw [hxo] at hcall
          simp only at hcall
          subst hcall
          unfold xiOf at hxo
          split at hxo
          · cases hxo
          · split at hxo
            · cases hxo
            · rename_i F hF
              simp only [Option.some.injEq] at hxo
              split at hxo
              · rename_i v0 h0 hv0
                split at hxo
                · rename_i hvl
                  simp only [Option.some.injEq, Prod.mk.injEq] at hxo
                  obtain ⟨rfl, rfl⟩ := hxo
                  simp only [Bool.and_eq_true, beq_iff_eq] at hvl
                  exact hxi f F hF args h _ _ hv0 hvl.2 w g vargs sit hp p hpos
                · cases hxo
              · cases hxo
        | none =>
        rw [hxo] at hcall
        simp only at hcall
        split at hcall
        · cases hcall
        · rename_i fn hfn
          split at hcall
          · cases hcall
          · rename_i c hb
            split at hcall
            · cases hcall
            · rename_i hn
              simp only [Bool.or_eq_true, not_or, Bool.not_eq_true] at hn
              split at hcall
              · rename_i y1 h1 hbody
                let g0 : Gh := { g with own := fun b => match g.own b with | .slot _ => .fgn | o => o, pin := ⟨g.μ, fun n => Elder X w g n h⟩ }
                have o1 : ∀ b t, g.own b = .slot t → g0.own b = .fgn := fun b t hb => by simp only [g0, hb]
                have o2 : ∀ b, (∀ t, g.own b ≠ .slot t) → g0.own b = g.own b := fun b hb => by
                  show (match g.own b with | .slot _ => Own.fgn | o => o) = g.own b
                  split
                  · rename_i t ho; exact (hb t ho).elim
                  · rfl
                have o3 : ∀ (b id j : Nat), g.own b = .cell id j → g0.own b = .cell id j := fun b id j hb => (o2 b (by rw [hb]; simp)).trans hb
                have e0 : g0.e = g.e := rfl
                have μ0 : g0.μ = g.μ := rfl
                have hobs : ∀ (id b : Nat) (o : Ob), g.μ[id]? = some b → h[id]? = some o → RepOb X w g0 id b o := fun id b o hb ho => (sit.heap.ob id b o hb ho).reown (g2 := g0) e0 (fun _ _ h => h) o3
                have sit0 : Sit X w g0 h := by
                  refine ⟨fun b hb => ⟨?_, (sit.fresh b hb).2⟩, ⟨sit.heap.len, fun id b hb => ?_, fun id b o hb ho => hobs id b o hb ho⟩, sit.glob.same e0 fun b _ hb => (o2 b (by rw [hb]; simp)).trans hb⟩
                  · rw [o2 b (by rw [(sit.fresh b hb).1]; simp)]; exact (sit.fresh b hb).1
                  · have := sit.heap.own id b hb
                    rw [o2 b (by rw [this]; simp)]; exact this
                have low0 : Low X w g0 h.length h := by
                  refine ⟨Nat.le_refl _, fun n hn hel id b o hid hb ho => ?_, fun id b hid hb => hb⟩
                  rcases hel with rfl | hel
                  · refine (hobs id b o hb ho).reown (g := g0) (g2 := g0.trunc h.length) rfl (fun i b' hi => ?_) (fun _ _ _ h => h)
                    refine trunc_put ?_ hi
                    have := (List.getElem?_eq_some_iff.1 hi).1
                    rw [μ0, sit.heap.len] at this
                    exact this
                  · exact (hel id b o hid hb ho).reown (g := g.trunc n) (g2 := g0.trunc n) rfl (fun _ _ h => h) o3
                have hp0 : PtV X w g0 vargs args := ⟨hp.1, fun j v x k1 k2 => (hp.2 j v x k1 k2).reownFree (g2 := g0) e0 fun _ _ h => h⟩
                refine ⟨fn, hfn, hn.1, ⟨c, hb⟩, body_sound hc hci hfz hfn hb hbody hp0 sit0 low0 fun v w' g' q l sit' low' hr hq => ?_⟩
                -- the owners behind it
                let g2 : Gh := { μ := g'.μ, e := g'.e, pin := g.pin, own := fun b => match g.own b with | .slot t => .slot t | _ => match g'.own b with | .slot t => if q = .slot t then p else .free | o => o }
                have hfgn : ∀ b t, g.own b = .slot t → w'.heap[b]? = w.heap[b]? ∧ g'.own b = .fgn ∧ g'.e b = g.e b := fun b t hb => l.fgn b (o1 b t hb)
                have s1 : ∀ b t, g.own b = .slot t → g2.own b = .slot t := fun b t hb => by simp only [g2, hb]
                have ns : ∀ b, g'.own b ≠ .fgn → ∀ t, g.own b ≠ .slot t := fun b hb t ht => hb (hfgn b t ht).2.1
                have s2 : ∀ b, (∀ t, g.own b ≠ .slot t) → (∀ t, g'.own b ≠ .slot t) → g2.own b = g'.own b := fun b h1 h2 => by
                  show (match g.own b with | .slot t => Own.slot t | _ => match g'.own b with | .slot t => if q = .slot t then p else .free | o => o) = g'.own b
                  split
                  · rename_i t ho; exact (h1 t ho).elim
                  · split
                    · rename_i t ho; exact (h2 t ho).elim
                    · rfl
                have hcell : ∀ (b id j : Nat), g'.own b = .cell id j → g2.own b = .cell id j := fun b id j hb => (s2 b (ns b (by rw [hb]; simp)) (by rw [hb]; simp)).trans hb
                have hq2 : IsPos q → IsPos p ∧ ∀ b, g'.own b = q → g2.own b = p := by
                  intro hqp
                  refine ⟨hpos, fun b hb => ?_⟩
                  obtain ⟨t, rfl⟩ := slot_of hq hqp
                  simp only [g2]
                  cases ho : g.own b with
                  | slot t' => exact (ns b (by rw [hb]; simp) t' ho).elim
                  | _ => simp [hb]
                have hfgn2 : ∀ b, g.own b = .fgn → w'.heap[b]? = w.heap[b]? ∧ g2.own b = .fgn ∧ g'.e b = g.e b := by
                  intro b hb
                  have h0 : g0.own b = .fgn := (o2 b (by rw [hb]; simp)).trans hb
                  obtain ⟨k1, k2, k3⟩ := l.fgn b h0
                  exact ⟨k1, (s2 b (by rw [hb]; simp) (by rw [k2]; simp)).trans k2, k3⟩
                have l2 : Later g w g2 w' := ⟨l.os, l.tape, l.output, l.size, l.cells, l.e, hfgn2, rfl⟩
                have hμ2 : ∀ (id b : Nat), g.μ[id]? = some b → g'.μ[id]? = some b := by
                  intro id b hb
                  refine low'.2.2 id b ?_ (by rw [l.pin]; exact hb)
                  have := (List.getElem?_eq_some_iff.1 hb).1
                  rw [sit.heap.len] at this
                  exact this
                have hobs2 : ∀ (id b : Nat) (o : Ob), g'.μ[id]? = some b → h1[id]? = some o → RepOb X w' g2 id b o := fun id b o hb ho => (sit'.heap.ob id b o hb ho).reown (g := g') (g2 := g2) rfl (fun _ _ h => h) hcell
                have fr2 : Fresh g2 w' := fun b hb => by
                  have k1 := sit'.fresh b hb
                  refine ⟨?_, k1.2⟩
                  have k2 := (sit.fresh b (by have := l.size; omega)).1
                  rw [s2 b (by rw [k2]; simp) (by rw [k1.1]; simp)]
                  exact k1.1
                have sit2 : Sit X w' g2 h1 := by
                  refine ⟨fr2, ⟨sit'.heap.len, fun id b hb => ?_, hobs2⟩, sit.glob.later l2⟩
                  have := sit'.heap.own id b hb
                  rw [s2 b (ns b (by rw [this]; simp)) (by rw [this]; simp)]
                  exact this
                have hr2 : RepV X w' g2 p v y1 := hr.reown (g := g') (g2 := g2) rfl (fun _ _ h => h) p hq2
                have hslots : ∀ (b t : Nat), g.own b = .slot t → w'.heap[b]? = w.heap[b]? ∧ g2.own b = .slot t ∧ g2.e b = g.e b := fun b t hb => ⟨(hfgn b t hb).1, s1 b t hb, (hfgn b t hb).2.2⟩
                have hlow2 : ∀ base, Low X w g base h → Low X w' g2 base h1 := by
                  intro base hl
                  refine ⟨Nat.le_trans hl.1 low'.1, fun n hn hel id b o hid hb ho => ?_, fun id b hid hb => hμ2 id b (hl.2.2 id b hid hb)⟩
                  have hold : Elder X w g n h := hl.2.1 n hn hel
                  have := low'.2.1 n (Nat.le_trans hn hl.1) (.inr (by rw [l.pin]; exact hold)) id b o hid hb ho
                  exact this.reown (g := g'.trunc n) (g2 := g2.trunc n) rfl (fun _ _ h => h) hcell
                split at hcall
                · rename_i hv
                  simp at hcall
                  obtain ⟨rfl, rfl⟩ := hcall
                  -- its own boxes are forgotten
                  have len' : (h1.take h.length).length = h.length := by rw [List.length_take]; have := low'.1; omega
                  refine ⟨v, g2.trunc h.length, rfl, ⟨l2.os, l2.tape, l2.output, l2.size, l2.cells, l2.e, l2.fgn, rfl⟩, ⟨fr2, ⟨?_, fun id b hb => sit2.heap.own id b (trunc_get hb).2, fun id b o hb ho => ?_⟩, sit2.glob⟩, pure_move hr2 hv rfl (fun hqp => ⟨hqp, fun _ h => h⟩), fun id b hb => ?_, hslots, fun base hl => ?_⟩
                  · simp only [Gh.trunc, List.length_take, sit2.heap.len]
                  · obtain ⟨k1, k2⟩ := trunc_get hb
                    rw [List.getElem?_take, if_pos k1] at ho
                    exact (low'.2.1 h.length (Nat.le_refl _) (.inl rfl) id b o k1 k2 ho).reown (g := g'.trunc h.length) (g2 := g2.trunc h.length) rfl (fun _ _ h => h) hcell
                  · refine trunc_put ?_ (hμ2 id b hb)
                    have := (List.getElem?_eq_some_iff.1 hb).1
                    rw [sit.heap.len] at this
                    exact this
                  · have hl2 := hlow2 base hl
                    refine ⟨by rw [len']; exact hl.1, fun n hn hel id b o hid hb ho => ?_, fun id b hid hb => trunc_put (Nat.lt_of_lt_of_le hid hl.1) (hl2.2.2 id b hid hb)⟩
                    have k1 : id < h.length := Nat.lt_of_lt_of_le (Nat.lt_of_lt_of_le hid hn) hl.1
                    rw [List.getElem?_take, if_pos k1] at ho
                    have := hl2.2.1 n hn hel id b o hid (trunc_get hb).2 ho
                    have he : (g2.trunc h.length).trunc n = g2.trunc n := by
                      simp only [Gh.trunc, List.take_take, Nat.min_eq_left (Nat.le_trans hn hl.1)]
                    rw [he]
                    exact this
                · simp at hcall
                  obtain ⟨rfl, rfl⟩ := hcall
                  exact ⟨v, g2, rfl, l2, sit2, hr2, hμ2, hslots, hlow2⟩
              · cases hcall
end

end Go.Proofs.YtpbhfbphefmchaaDoor.Pv
/- Pv: runs on what is not known, one path at a time. What is told ahead (oracles, each with the number of its event) is handed back as a list of facts of the callee. -/
set_option linter.unusedSimpArgs false
set_option linter.unusedVariables false
namespace Go.Proofs.YtpbhfbphefmchaaDoor.Pv
open Go

def callNone : CallF := ⟨fun _ _ => none, fun _ _ _ => none⟩

/-- It looks at no call. -/
theorem valOp_nocall {X : Ctx} {call : CallF} {ρ : Operand → V} {h : List Ob} {o : Oper} {v : V} (hv : valOp X callNone ρ h o = some v) : valOp X call ρ h o = some v := by
  unfold valOp at hv ⊢
  cases hop : o.op <;> simp only [hop] at hv ⊢ <;> try exact hv
  rename_i c
  cases hc : c.callee with
  | value f =>
    simp only [hc] at hv
    split at hv
    · split at hv
      · simp [callNone] at hv
      · cases hv
    · cases hv
  | invoke r m => simp [hc] at hv
  | builtin b => cases b <;> simp only [hc] at hv ⊢ <;> exact hv

theorem stepOp_nocall {X : Ctx} {call : CallF} {base : Nat} {o : Oper} {st st' : St} (ho : (∀ c f, o.op = .call c → c.callee ≠ .value f)) (h : stepOp X callNone base o st = some st') : stepOp X call base o st = some st' := by
  unfold stepOp at h ⊢
  have hv : valOp X call (st.get X) st.h o = valOp X callNone (st.get X) st.h o := by
    unfold valOp
    cases hop : o.op <;> try rfl
    rename_i c
    cases hc : c.callee with
    | value f => exact (ho c _ hop hc).elim
    | invoke r m => simp only [hc]
    | builtin b => cases b <;> simp only [hc]
  rw [hv]
  split
  · rename_i v hvv
    rw [hvv] at h
    exact h
  · rename_i hvv
    rw [hvv] at h
    simp only at h ⊢
    cases hop : o.op <;> simp only [hop] at h ⊢ <;> try exact h
    rename_i c
    cases hc : c.callee with
    | value f => exact (ho c _ hop hc).elim
    | invoke r m => simp [hc] at h
    | builtin b => cases b <;> simp only [hc] at h ⊢ <;> first | exact h | cases h

end Go.Proofs.YtpbhfbphefmchaaDoor.Pv
namespace Go.Proofs.YtpbhfbphefmchaaDoor.Pv.G
open Go Pv

abbrev Fact := CallF → Prop

/-- What is told: which way; what an operation comes to; what an impure call answers; where a loop ends. -/
inductive What where
  | b (x : Bool)
  | v (x : V)
  | c (x : V) (h : List Ob)
  | l (e : Ex) (st : St)

/-- 'ask': stop at each event. -/
structure T where
  n : Nat
  ask : Bool
  os : List (Nat × What)
  cs : List Fact

/-- What is asked for at a stop. -/
inductive Info where
  | b (v : V)
  | v (x : Option V)
  | load (t : TypeId) (p : V) (h : List Ob)
  | iaddr (t : TypeId) (x i : V)
  | index (t : TypeId) (x i : V)
  | slice (t : TypeId) (x : V) (lo hi mx : Option V)
  | field (t : TypeId) (x : V) (f : Nat)
  | bin (op : BinOp) (t : TypeId) (x y : V)
  | append (t u : TypeId) (s x : V)
  | conv (s t : TypeId) (x : V)
  | look (t : TypeId) (es : Option (List (D × D))) (k : V) (ok : Bool)
  | call (f : FuncId) (args : List V)
  | calli (f : FuncId) (args : List V) (h : List Ob)
  | l (base N : Nat) (keep : List Nat) (b : AC) (st : St)

inductive Out (α : Type) where
  | ok (a : α) (t : T)
  | stop (i : Info) (n : Nat) (k : Option What → Out α)
  | bad (why n : Nat)

def Out.bind {α β : Type} (o : Out α) (f : α → T → Out β) : Out β :=
  match o with
  | .ok a t => f a t
  | .stop i n k => .stop i n fun w => (k w).bind f
  | .bad w n => .bad w n

theorem Out.bind_ok {α β : Type} {o : Out α} {f : α → T → Out β} {b : β} {t' : T} (h : o.bind f = .ok b t') : ∃ a t, o = .ok a t ∧ f a t = .ok b t' := by
  cases o with
  | ok a t => exact ⟨a, t, rfl, h⟩
  | _ => simp [Out.bind] at h

def T.next (t : T) : T := { n := t.n + 1, ask := t.ask, os := t.os, cs := t.cs }
def T.add (t : T) (c : Fact) : T := { n := t.n, ask := t.ask, os := t.os, cs := c :: t.cs }
/-- Is anything told of this event? -/
def T.told (t : T) : Option (What × T) :=
  match t.os with
  | (m, w) :: os => if m == t.n then some (w, { n := t.n + 1, ask := t.ask, os := os, cs := t.cs }) else none
  | [] => none

def All (Q : Fact → Prop) : List Fact → Prop
  | [] => True
  | c :: cs => Q c ∧ All Q cs

/-- An event. -/
def ev {α : Type} (t : T) (i : Info) (dflt : T → Out α) (use : What → T → Out α) : Out α :=
  match t.told with
  | some (w, t') => use w t'
  | none => if t.ask then .stop i t.n fun
      | none => dflt t.next
      | some w => use w t.next
    else dflt t.next

theorem ev_ok {α : Type} {t t'' : T} {i : Info} {dflt : T → Out α} {use : What → T → Out α} {a : α} (h : ev t i dflt use = .ok a t'') : (∃ w t', t'.cs = t.cs ∧ use w t' = .ok a t'') ∨ (∃ t', t'.cs = t.cs ∧ dflt t' = .ok a t'') := by
  unfold ev at h
  split at h
  · rename_i w t' ht
    refine .inl ⟨w, t', ?_, h⟩
    unfold T.told at ht
    split at ht
    · split at ht
      · simp only [Option.some.injEq, Prod.mk.injEq] at ht; rw [← ht.2]
      · cases ht
    · cases ht
  · split at h
    · cases h
    · exact .inr ⟨t.next, rfl, h⟩

section
variable {call : CallF} {Q : Fact → Prop} (hQ : ∀ c, Q c → c call)

/-- Which way? -/
def boolG (v : V) (t : T) : Out Bool :=
  ev t (.b v)
    (fun t => match v with
      | .d (.bool b) => match b with
        | true => .ok true t
        | false => .ok false t
      | _ => .bad 3 t.n)
    (fun w t => match w with
      | .b x => match v with
        | .d (.bool b) => .ok x (t.add fun _ => b = x)
        | _ => .bad 1 t.n
      | _ => .bad 2 t.n)

include hQ in
theorem boolG_sound {v : V} {t t' : T} {x : Bool} (h : boolG v t = .ok x t') (hc : All Q t'.cs) : v = .d (.bool x) ∧ All Q t.cs := by
  unfold boolG at h
  rcases ev_ok h with ⟨w, t1, ht, h⟩ | ⟨t1, ht, h⟩
  · split at h
    · split at h
      · simp only [Out.ok.injEq] at h
        obtain ⟨rfl, rfl⟩ := h
        simp only [T.add] at hc
        exact ⟨by rw [hQ _ hc.1], by rw [← ht]; exact hc.2⟩
      · cases h
    · cases h
  · split at h
    · split at h <;>
      · simp only [Out.ok.injEq] at h
        obtain ⟨rfl, rfl⟩ := h
        exact ⟨rfl, by rw [← ht]; exact hc⟩
    · cases h

/-- A callee's body on arguments and boxes. -/
abbrev CallG := FuncId → List V → List Ob → T → Out (V × List Ob)

/-- How a call is the run of a body. -/
structure CallOf (call : CallF) (B : FuncId → List V → List Ob → Option (V × List Ob)) : Prop where
  p : ∀ g args v h', args.all V.pure = true → B g args [] = some (v, h') → v.pure = true → call.p g args = some v
  q : ∀ g args v h', args.all V.pure = true → B g args [] = some (v, h') → v.pure = false → call.p g args = none ∧ ∀ h, call.i g args h = some (v.shift h.length, h ++ h'.map (Ob.shift h.length))
  i : ∀ g args v h h', args.all V.pure = false → B g args h = some (v, h') → call.i g args h = some (if v.pure then (v, h'.take h.length) else (v, h'))

def calleeG (ρ : Operand → V) (o : Oper) : Option (FuncId × List V) :=
  match o.op with
  | .call c => match c.callee with
    | .value f => match calleeOf (ρ f) with
      | some (g, a, b) => some (g, a ++ copies ρ c.args ++ b)
      | none => none
    | _ => none
  | _ => none

def isCall (o : Oper) : Bool :=
  match o.op with
  | .call c => match c.callee with
    | .value _ => true
    | _ => false
  | _ => false

theorem calleeG_val {X : Ctx} {ρ : Operand → V} {h : List Ob} {o : Oper} {g : FuncId} {args : List V} (hc : calleeG ρ o = some (g, args)) : valOp X call ρ h o = if args.all V.pure then call.p g args else none := by
  unfold calleeG at hc
  split at hc
  · rename_i c hop
    split at hc
    · rename_i f hf
      split at hc
      · rename_i g' a b hce
        simp only [Option.some.injEq, Prod.mk.injEq] at hc
        obtain ⟨rfl, rfl⟩ := hc
        unfold valOp
        rw [hop]
        simp only [hf, hce]
      · cases hc
    · cases hc
  · cases hc

theorem calleeG_step {X : Ctx} {base : Nat} {o : Oper} {st : St} {g : FuncId} {args : List V} (hc : calleeG (st.get X) o = some (g, args)) (hn : valOp X call (st.get X) st.h o = none) :
    stepOp X call base o st = (call.i g args st.h).map fun r => { s := st.s, h := r.2, og := [] : St }.put o.dst r.1 := by
  unfold calleeG at hc
  split at hc
  · rename_i c hop
    split at hc
    · rename_i f hf
      split at hc
      · rename_i g' a b hce
        simp only [Option.some.injEq, Prod.mk.injEq] at hc
        obtain ⟨rfl, rfl⟩ := hc
        unfold stepOp
        rw [hn]
        simp only [hop, hf, hce]
      · cases hc
    · cases hc
  · cases hc

/- The same by the operands' values. -/
def one1 (a : V) : Operand → V := fun _ => a
def two2 (a b : V) : Operand → V
  | .tmp 0 => a
  | _ => b
def four4 (a b c d : V) : Operand → V
  | .tmp 0 => a
  | .tmp 1 => b
  | .tmp 2 => c
  | _ => d
def loadV (X : Ctx) (h : List Ob) (t : TypeId) (p : V) : Option V := loadOp X (one1 p) h t (.tmp 0)
def iaddrV (X : Ctx) (t : TypeId) (x i : V) : Option V := indexAddrOp X (two2 x i) t (.tmp 0) (.tmp 1)
def indexV (X : Ctx) (t : TypeId) (x i : V) : Option V :=
  match X.P.underlying t, x, i with
  | some (.array n e), .d (.agg cs), .d (.int _ k) =>
    match sizeT X.P e with
    | some z => if 0 ≤ k ∧ k < n then (partD X.P e cs (k.toNat * z)).map .d else none
    | none => none
  | some .string, .d (.str s), .d (.int _ k) =>
    if 0 ≤ k then (s[k.toNat]?).map fun b => .d (.int .u8 b.toNat) else none
  | _, _, _ => none
def sliceV (X : Ctx) (t : TypeId) (x : V) (lo hi mx : Option V) : Option V :=
  sliceOp X (four4 x (lo.getD und) (hi.getD und) (mx.getD und)) t (.tmp 0) (lo.map fun _ => .tmp 1) (hi.map fun _ => .tmp 2) (mx.map fun _ => .tmp 3)
def fieldV (X : Ctx) (t : TypeId) (x : V) (f : Nat) : Option V :=
  match fieldT X.P t f, x with
  | some (off, ft), .d (.agg cs) => (partD X.P ft cs off).map .d
  | some (off, ft), .agg vs => partV X.P ft vs off
  | _, _ => none

theorem sliceV_eq {X : Ctx} {ρ : Operand → V} {t : TypeId} {x : Operand} {lo hi mx : Option Operand} : sliceV X t (ρ x) (lo.map ρ) (hi.map ρ) (mx.map ρ) = sliceOp X ρ t x lo hi mx := by
  unfold sliceV sliceOp
  have b0 : four4 (ρ x) ((lo.map ρ).getD und) ((hi.map ρ).getD und) ((mx.map ρ).getD und) (.tmp 0) = ρ x := rfl
  have b1 : ∀ n, boundOf (four4 (ρ x) ((lo.map ρ).getD und) ((hi.map ρ).getD und) ((mx.map ρ).getD und)) n ((lo.map ρ).map fun _ => Operand.tmp 1) = boundOf ρ n lo := fun n => by cases lo <;> rfl
  have b2 : ∀ n, boundOf (four4 (ρ x) ((lo.map ρ).getD und) ((hi.map ρ).getD und) ((mx.map ρ).getD und)) n ((hi.map ρ).map fun _ => Operand.tmp 2) = boundOf ρ n hi := fun n => by cases hi <;> rfl
  have b3 : ∀ n, boundOf (four4 (ρ x) ((lo.map ρ).getD und) ((hi.map ρ).getD und) ((mx.map ρ).getD und)) n ((mx.map ρ).map fun _ => Operand.tmp 3) = boundOf ρ n mx := fun n => by cases mx <;> rfl
  have c2 : ((hi.map ρ).map fun _ => Operand.tmp 2).isSome = hi.isSome := by cases hi <;> rfl
  have c3 : ((mx.map ρ).map fun _ => Operand.tmp 3).isSome = mx.isSome := by cases mx <;> rfl
  have c4 : ((mx.map ρ).map fun _ => Operand.tmp 3).isNone = mx.isNone := by cases mx <;> rfl
  simp only [b0, b1, b2, b3, c2, c3, c4]
  cases mx with
  | none => rfl
  | some m => simp only [Option.map_some]; rfl

/-- Two operands' values. -/
def binV (X : Ctx) (op : BinOp) (t : TypeId) (x y : V) : Option V := valOp X callNone (two2 x y) [] ⟨none, .binOp op t (.tmp 0) (.tmp 1) t, t, "", #[], none⟩

theorem binV_eq {X : Ctx} {ρ : Operand → V} {h : List Ob} {o : Oper} {op : BinOp} {t u : TypeId} {x y : Operand} (ho : o.op = .binOp op t x y u) (hop : (match op with | .eql | .neq => false | _ => true) = true) : binV X op t (ρ x) (ρ y) = valOp X callNone ρ h o := by
  have e1 : two2 (ρ x) (ρ y) (.tmp 0) = ρ x := rfl
  have e2 : two2 (ρ x) (ρ y) (.tmp 1) = ρ y := rfl
  have e0 : ∀ (f g : Operand → Value), g (.tmp 0) = f x → g (.tmp 1) = f y → execOp g ⟨none, .binOp op t (.tmp 0) (.tmp 1) t, t, "", #[], none⟩ = execOp f o := by
    intro f g h1 h2
    unfold execOp
    rw [ho]
    simp only [h1, h2]
    cases op <;> first | rfl | cases hop
  unfold binV valOp
  rw [ho]
  simp only [e1, e2]
  have e3 : pureOp X (two2 (ρ x) (ρ y)) ⟨none, .binOp op t (.tmp 0) (.tmp 1) t, t, "", #[], none⟩ = pureOp X ρ o := by
    unfold pureOp
    rw [e0 (fun z => (((ρ z).toD).bind D.toVal).getD undef) _ (by rw [e1]) (by rw [e2]), ho]
    simp only [Op.operands]
    congr 1
  rw [e3]

/-- The same. -/
def askV (X : Ctx) (ρ : Operand → V) (h : List Ob) (o : Oper) : Option V :=
  match o.op with
  | .load t p => loadV X h t (ρ p)
  | .indexAddr t x i => iaddrV X t (ρ x) (ρ i)
  | .index t x i => indexV X t (ρ x) (ρ i)
  | .slice t x lo hi mx => sliceV X t (ρ x) (lo.map ρ) (hi.map ρ) (mx.map ρ)
  | .field t x f => fieldV X t (ρ x) f
  | .binOp op t x y _ => match op with
    | .eql | .neq => valOp X callNone ρ h o
    | _ => binV X op t (ρ x) (ρ y)
  | _ => valOp X callNone ρ h o

theorem askV_eq {X : Ctx} {ρ : Operand → V} {h : List Ob} {o : Oper} : askV X ρ h o = valOp X callNone ρ h o := by
  by_cases hb : ∃ op t x y u, o.op = .binOp op t x y u
  · obtain ⟨op, t, x, y, u, ho⟩ := hb
    unfold askV
    rw [ho]
    simp only
    split
    · rfl
    · rfl
    · rename_i h1 h2
      refine binV_eq ho ?_
      cases op <;> first | rfl | exact (h1 rfl).elim | exact (h2 rfl).elim
  · unfold askV valOp
    cases ho : o.op <;> try rfl
    · exact (hb ⟨_, _, _, _, _, ho⟩).elim
    · exact sliceV_eq

/-- Operations that are worth a halt. -/
def worth (o : Oper) : Bool :=
  match o.op with
  | .load .. | .indexAddr .. | .index .. | .slice .. | .field .. | .convert .. | .binOp .. => true
  | .call c => match c.callee with
    | .builtin .len => true
    | _ => false
  | _ => false

def infoOf (X : Ctx) (ρ : Operand → V) (h : List Ob) (o : Oper) : Info :=
  match o.op with
  | .load t p => .load t (ρ p) h
  | .indexAddr t x i => .iaddr t (ρ x) (ρ i)
  | .index t x i => .index t (ρ x) (ρ i)
  | .slice t x lo hi mx => .slice t (ρ x) (lo.map ρ) (hi.map ρ) (mx.map ρ)
  | .field t x f => .field t (ρ x) f
  | .binOp op t x y _ => .bin op t (ρ x) (ρ y)
  | _ => .v (valOp X callNone ρ h o)

/-- What an operation comes to that turns nothing. -/
def valG (X : Ctx) (cg : CallG) (ρ : Operand → V) (h : List Ob) (o : Oper) (t : T) : Out V :=
  match o.op with
  | .pick c a b => (boolG (ρ c) t).bind fun x t => .ok (ρ (if x then a else b)).copy t
  | _ =>
    match calleeG ρ o with
    | some (g, args) =>
      if args.all V.pure then
        ev t (.call g args)
          (fun t => (cg g args [] t).bind fun r t => if r.1.pure then .ok r.1 t else .bad 5 t.n)
          (fun w t => match w with
            | .v x => .ok x (t.add fun call => call.p g args = some x)
            | _ => .bad 4 t.n)
      else .bad 6 t.n
    | none =>
      if worth o then
        ev t (infoOf X ρ h o)
          (fun t => match valOp X callNone ρ h o with
            | some v => .ok v t
            | none => .bad 8 t.n)
          (fun w t => match w with
            | .v x => .ok x (t.add fun _ => askV X ρ h o = some x)
            | _ => .bad 7 t.n)
      else match valOp X callNone ρ h o with
        | some v => .ok v t
        | none => .bad 9 t.n

variable {B : FuncId → List V → List Ob → Option (V × List Ob)} (hB : CallOf call B) {cg : CallG} (hcg : ∀ g args h t r t', cg g args h t = .ok r t' → All Q t'.cs → B g args h = some r ∧ All Q t.cs)

include hQ hB hcg in
theorem valG_sound {X : Ctx} {ρ : Operand → V} {h : List Ob} {o : Oper} {t t' : T} {v : V} (hv : valG X cg ρ h o t = .ok v t') (hc : All Q t'.cs) : valOp X call ρ h o = some v ∧ All Q t.cs := by
  unfold valG at hv
  split at hv
  · rename_i c a b hop
    obtain ⟨x, t1, h1, h2⟩ := Out.bind_ok hv
    simp only [Out.ok.injEq] at h2
    obtain ⟨rfl, rfl⟩ := h2
    obtain ⟨k1, k2⟩ := boolG_sound hQ h1 hc
    refine ⟨?_, k2⟩
    unfold valOp
    rw [hop]
    simp only [k1]
  · split at hv
    · rename_i g args hcal
      split at hv
      · rename_i hp
        have key : ∀ u, call.p g args = some u → valOp X call ρ h o = some u := fun u hu => by rw [calleeG_val hcal, if_pos hp, hu]
        rcases ev_ok hv with ⟨w, t1, ht, hv⟩ | ⟨t1, ht, hv⟩
        · split at hv
          · simp only [Out.ok.injEq] at hv
            obtain ⟨rfl, rfl⟩ := hv
            simp only [T.add] at hc
            exact ⟨key _ (hQ _ hc.1), by rw [← ht]; exact hc.2⟩
          · cases hv
        · obtain ⟨r, t2, h1, h2⟩ := Out.bind_ok hv
          split at h2
          · rename_i hpu
            simp only [Out.ok.injEq] at h2
            obtain ⟨rfl, rfl⟩ := h2
            obtain ⟨k1, k2⟩ := hcg _ _ _ _ _ _ h1 hc
            exact ⟨key _ (hB.p _ _ _ r.2 hp k1 hpu), by rw [← ht]; exact k2⟩
          · cases h2
      · cases hv
    · split at hv
      · rcases ev_ok hv with ⟨w, t1, ht, hv⟩ | ⟨t1, ht, hv⟩
        · split at hv
          · simp only [Out.ok.injEq] at hv
            obtain ⟨rfl, rfl⟩ := hv
            simp only [T.add] at hc
            exact ⟨valOp_nocall (askV_eq.symm.trans (hQ _ hc.1)), by rw [← ht]; exact hc.2⟩
          · cases hv
        · split at hv
          · rename_i u hu
            simp only [Out.ok.injEq] at hv
            obtain ⟨rfl, rfl⟩ := hv
            exact ⟨valOp_nocall hu, by rw [← ht]; exact hc⟩
          · cases hv
      · split at hv
        · rename_i u hu
          simp only [Out.ok.injEq] at hv
          obtain ⟨rfl, rfl⟩ := hv
          exact ⟨valOp_nocall hu, hc⟩
        · cases hv

def isEff (o : Oper) : Bool :=
  match o.op with
  | .assign _ | .alloc _ | .box .. | .store .. => true
  | .call c => match c.callee with
    | .builtin .append => true
    | _ => false
  | _ => false

def appArgs (o : Oper) : Option (TypeId × TypeId × Operand × Operand) :=
  match o.op with
  | .call c => match c.callee with
    | .builtin .append => match c.args.toList, c.argTypes.toList with
      | [s, x], [t, u] => some (t, u, s, x)
      | _, _ => none
    | _ => none
  | _ => none

/-- What is appended to, and the state where it stands as a copy. -/
def appTarget (X : Ctx) (st : St) (s : Operand) : Option (V × St) :=
  match st.get X s with
  | .d .nilsl => some (.d .nilsl, st)
  | .full c n => some (.full c n, st)
  | .tail E c n => match s with
    | .tmp ts => some (.tail E c n, locCopy st (.slot ts))
    | _ => none
  | _ => match ogOf st s with
    | some l => match locGet st l with
      | some (.tail E c n) => some (.tail E c n, locCopy st l)
      | _ => none
    | none => none

def appendV (X : Ctx) (t u : TypeId) (s x : V) : Option V :=
  match elemT X.P t, (elemT X.P t).bind (X.P.info? ·), srcOf X.P u x with
  | some E, some i, some (cs, m) =>
    if i.size != 0 && cs.length == m * i.size && cs.all D.one && (zeroT X.P E).any (fun z => z.cells.length == i.size) then
      let go := fun (c : List D) (n : Nat) => if (n + m) * i.bytes ≤ bigLen ∧ n + m ≤ bigLen then some (V.tail E (c ++ cs) (n + m)) else none
      match s with
      | .d .nilsl => if m = 0 then some (.d .nilsl) else go [] 0
      | .full c n => if m = 0 then some (.full c n) else if c.length = n * i.size ∧ c.all D.one then go c n else none
      | .tail E' c n => if E' = E ∧ c.length = n * i.size then go c n else none
      | _ => none
    else none
  | _, _, _ => none

theorem appendV_op {X : Ctx} {st st' : St} {t u : TypeId} {s x : Operand} {sv v : V} (h1 : appTarget X st s = some (sv, st')) (h2 : appendV X t u sv (st.get X x) = some v) : appendOp X st t u s x = some (st', v) := by
  unfold appendV at h2
  unfold appendOp
  split at h2
  · rename_i E i cs m e1 e2 e3
    rw [e2, e3, e1]
    simp only
    split at h2
    · rename_i hg
      rw [if_pos hg]
      simp only at h2 ⊢
      unfold appTarget at h1
      split at h1
      · rename_i hs
        simp only [Option.some.injEq, Prod.mk.injEq] at h1
        obtain ⟨rfl, rfl⟩ := h1
        simp only [hs]
        simp only at h2
        split at h2
        · rename_i hm
          rw [if_pos hm]
          rw [Option.some.injEq] at h2
          rw [h2]
        · rename_i hm
          rw [if_neg hm, h2]
          rfl
      · rename_i c n hs
        simp only [Option.some.injEq, Prod.mk.injEq] at h1
        obtain ⟨rfl, rfl⟩ := h1
        simp only [hs]
        simp only at h2
        split at h2
        · rename_i hm
          rw [if_pos hm]
          rw [Option.some.injEq] at h2
          rw [h2]
        · rename_i hm
          rw [if_neg hm]
          split at h2
          · rename_i hk
            rw [if_pos hk, h2]
            rfl
          · cases h2
      · rename_i E' c n hs
        split at h1
        · rename_i ts
          simp only [Option.some.injEq, Prod.mk.injEq] at h1
          obtain ⟨rfl, rfl⟩ := h1
          simp only [hs]
          simp only at h2
          split at h2
          · rename_i hk
            rw [if_pos hk, h2]
            rfl
          · cases h2
        · cases h1
      · rename_i n1 n2 n3
        split at h1
        · rename_i l hl
          split at h1
          · rename_i E' c n hg2
            simp only [Option.some.injEq, Prod.mk.injEq] at h1
            obtain ⟨rfl, rfl⟩ := h1
            simp only at h2
            split
            · rename_i hs; exact (n1 hs).elim
            · rename_i c n hs; exact (n2 _ _ hs).elim
            · rename_i hs; exact (n3 _ _ _ hs).elim
            · simp only [hl, hg2]
              split at h2
              · rename_i hk
                rw [if_pos hk, h2]
                rfl
              · cases h2
          · cases h1
        · cases h1
    · cases h2
  · cases h2

theorem appArgs_step {X : Ctx} {call : CallF} {base : Nat} {o : Oper} {st st' : St} {t u : TypeId} {s x : Operand} {v : V} (ha : appArgs o = some (t, u, s, x)) (h : appendOp X st t u s x = some (st', v)) : stepOp X call base o st = some (st'.put o.dst v) := by
  unfold appArgs at ha
  split at ha
  · rename_i c hop
    split at ha
    · rename_i hcal
      split at ha
      · rename_i s' x' t' u' h1 h2
        simp only [Option.some.injEq, Prod.mk.injEq] at ha
        obtain ⟨rfl, rfl, rfl, rfl⟩ := ha
        have hv : valOp X call (st.get X) st.h o = none := by
          unfold valOp
          rw [hop]
          simp only [hcal]
        unfold stepOp
        rw [hv]
        simp only [hop, hcal, h1, h2, h]
        rfl
      · cases ha
    · cases ha
  · cases ha

/-- One operation. -/
def stepG (X : Ctx) (cg : CallG) (base : Nat) (o : Oper) (st : St) (t : T) : Out St :=
  match appArgs o with
  | some (ty, u, s, x) => match appTarget X st s with
    | some (sv, st') => ev t (.append ty u sv (st.get X x))
        (fun t => match appendV X ty u sv (st.get X x) with
          | some v => .ok (st'.put o.dst v) t
          | none => .bad 32 t.n)
        (fun w t => match w with
          | .v y => .ok (st'.put o.dst y) (t.add fun _ => appendV X ty u sv (st.get X x) = some y)
          | _ => .bad 31 t.n)
    | none => .bad 33 t.n
  | none =>
  if isEff o then
    match stepOp X callNone base o st with
    | some st' => .ok st' t
    | none => .bad 10 t.n
  else
    match calleeG (st.get X) o with
    | some (g, args) =>
      if args.all V.pure then
        ev t (.call g args)
          (fun t => (cg g args [] t).bind fun r t =>
            if r.1.pure then .ok (st.put o.dst r.1) t
            else .ok ({ s := st.s, h := st.h ++ r.2.map (Ob.shift st.h.length), og := [] : St }.put o.dst (r.1.shift st.h.length)) t)
          (fun w t => match w with
            | .v x => .ok (st.put o.dst x) (t.add fun call => call.p g args = some x)
            | .c x h' => .ok ({ s := st.s, h := h', og := [] : St }.put o.dst x) (t.add fun call => (args.all V.pure = true → call.p g args = none) ∧ call.i g args st.h = some (x, h'))
            | _ => .bad 13 t.n)
      else
        ev t (.calli g args st.h)
          (fun t => (cg g args st.h t).bind fun r t =>
            if r.1.pure then .ok ({ s := st.s, h := r.2.take st.h.length, og := [] : St }.put o.dst r.1) t
            else .ok ({ s := st.s, h := r.2, og := [] : St }.put o.dst r.1) t)
          (fun w t => match w with
            | .c x h' => .ok ({ s := st.s, h := h', og := [] : St }.put o.dst x) (t.add fun call => (args.all V.pure = true → call.p g args = none) ∧ call.i g args st.h = some (x, h'))
            | _ => .bad 14 t.n)
    | none => (valG X cg (st.get X) st.h o t).bind fun v t =>
      match o.op with
      | .move (.tmp u) => .ok (setOg (st.put o.dst v) o.dst (.slot u)) t
      | .load ty p => match isAggT X.P ty, st.get X p with
        | false, .obj id off => .ok (setOg (st.put o.dst v) o.dst (.cell id off)) t
        | _, _ => .ok (st.put o.dst v) t
      | _ => .ok (st.put o.dst v) t

theorem isEff_nocall {o : Oper} (h : isEff o = true) : ∀ c f, o.op = .call c → c.callee ≠ .value f := by
  intro c f hop hf
  unfold isEff at h
  rw [hop] at h
  simp [hf] at h

theorem calleeG_nomove {ρ : Operand → V} {o : Oper} {g : FuncId} {args : List V} (hc : calleeG ρ o = some (g, args)) : (∀ u, o.op ≠ .move u) ∧ (∀ t p, o.op ≠ .load t p) := by
  unfold calleeG at hc
  split at hc
  · rename_i c hop; constructor <;> · intros; rw [hop]; simp
  · cases hc

include hQ hB hcg in
theorem stepG_sound {X : Ctx} {base : Nat} {o : Oper} {st st' : St} {t t' : T} (h : stepG X cg base o st t = .ok st' t') (hc : All Q t'.cs) : stepOp X call base o st = some st' ∧ All Q t.cs := by
  unfold stepG at h
  split at h
  · rename_i ty u s x ha
    split at h
    · rename_i sv s1 hs1
      rcases ev_ok h with ⟨w, t1, ht, h⟩ | ⟨t1, ht, h⟩
      · split at h
        · simp only [Out.ok.injEq] at h
          obtain ⟨rfl, rfl⟩ := h
          simp only [T.add] at hc
          exact ⟨appArgs_step ha (appendV_op hs1 (hQ _ hc.1)), by rw [← ht]; exact hc.2⟩
        · cases h
      · split at h
        · rename_i v hv
          simp only [Out.ok.injEq] at h
          obtain ⟨rfl, rfl⟩ := h
          exact ⟨appArgs_step ha (appendV_op hs1 hv), by rw [← ht]; exact hc⟩
        · cases h
    · cases h
  rename_i hna
  split at h
  · rename_i he
    have ho := isEff_nocall he
    split at h
    · rename_i u hu
      simp only [Out.ok.injEq] at h
      obtain ⟨rfl, rfl⟩ := h
      exact ⟨stepOp_nocall ho hu, hc⟩
    · cases h
  · rename_i he
    split at h
    · rename_i g args hcal
      have hput : ∀ x, valOp X call (st.get X) st.h o = some x → stepOp X call base o st = some (st.put o.dst x) := by
        intro x hx
        obtain ⟨n1, n2⟩ := calleeG_nomove hcal
        unfold stepOp
        rw [hx]
        simp only
        split
        · rename_i u hop; exact (n1 _ hop).elim
        · rename_i u p hop; exact (n2 _ _ hop).elim
        · rfl
      have hcalli : ∀ x h', (args.all V.pure = true → call.p g args = none) → call.i g args st.h = some (x, h') → stepOp X call base o st = some ({ s := st.s, h := h', og := [] : St }.put o.dst x) := by
        intro x h' h1 h2
        have hn : valOp X call (st.get X) st.h o = none := by
          rw [calleeG_val hcal]
          split
          · rename_i hp; exact h1 hp
          · rfl
        rw [calleeG_step hcal hn, h2]
        rfl
      split at h
      · rename_i hp
        rcases ev_ok h with ⟨w, t1, ht, h⟩ | ⟨t1, ht, h⟩
        · split at h
          · simp only [Out.ok.injEq] at h
            obtain ⟨rfl, rfl⟩ := h
            simp only [T.add] at hc
            refine ⟨hput _ ?_, by rw [← ht]; exact hc.2⟩
            rw [calleeG_val hcal, if_pos hp]
            exact hQ _ hc.1
          · simp only [Out.ok.injEq] at h
            obtain ⟨rfl, rfl⟩ := h
            simp only [T.add] at hc
            obtain ⟨k1, k2⟩ := hQ _ hc.1
            exact ⟨hcalli _ _ k1 k2, by rw [← ht]; exact hc.2⟩
          · cases h
        · obtain ⟨r, t2, h1, h2⟩ := Out.bind_ok h
          split at h2
          · rename_i hpu
            simp only [Out.ok.injEq] at h2
            obtain ⟨rfl, rfl⟩ := h2
            obtain ⟨k1, k2⟩ := hcg _ _ _ _ _ _ h1 hc
            refine ⟨hput _ ?_, by rw [← ht]; exact k2⟩
            rw [calleeG_val hcal, if_pos hp]
            exact hB.p _ _ _ r.2 hp k1 hpu
          · rename_i hpu
            simp only [Out.ok.injEq] at h2
            obtain ⟨rfl, rfl⟩ := h2
            obtain ⟨k1, k2⟩ := hcg _ _ _ _ _ _ h1 hc
            obtain ⟨k3, k4⟩ := hB.q _ _ _ r.2 hp k1 (by simpa using hpu)
            exact ⟨hcalli _ _ (fun _ => k3) (k4 _), by rw [← ht]; exact k2⟩
      · rename_i hp
        have hp' : args.all V.pure = false := by simpa using hp
        rcases ev_ok h with ⟨w, t1, ht, h⟩ | ⟨t1, ht, h⟩
        · split at h
          · simp only [Out.ok.injEq] at h
            obtain ⟨rfl, rfl⟩ := h
            simp only [T.add] at hc
            obtain ⟨k1, k2⟩ := hQ _ hc.1
            exact ⟨hcalli _ _ k1 k2, by rw [← ht]; exact hc.2⟩
          · cases h
        · obtain ⟨r, t2, h1, h2⟩ := Out.bind_ok h
          split at h2
          · rename_i hpu
            simp only [Out.ok.injEq] at h2
            obtain ⟨rfl, rfl⟩ := h2
            obtain ⟨k1, k2⟩ := hcg _ _ _ _ _ _ h1 hc
            have k3 := hB.i _ _ _ _ r.2 hp' k1
            rw [if_pos hpu] at k3
            exact ⟨hcalli _ _ (fun h => absurd h hp) k3, by rw [← ht]; exact k2⟩
          · rename_i hpu
            simp only [Out.ok.injEq] at h2
            obtain ⟨rfl, rfl⟩ := h2
            obtain ⟨k1, k2⟩ := hcg _ _ _ _ _ _ h1 hc
            have k3 := hB.i _ _ _ _ r.2 hp' k1
            rw [if_neg hpu] at k3
            exact ⟨hcalli _ _ (fun h => absurd h hp) k3, by rw [← ht]; exact k2⟩
    · obtain ⟨v, t1, hv, h⟩ := Out.bind_ok h
      unfold stepOp
      split at h
      · rename_i u hop
        simp only [Out.ok.injEq] at h
        obtain ⟨rfl, rfl⟩ := h
        obtain ⟨h1, h2⟩ := valG_sound hQ hB hcg hv hc
        rw [h1]
        simp only [hop]
        exact ⟨trivial, h2⟩
      · rename_i u p hop
        split at h
        · rename_i id off hag hp
          simp only [Out.ok.injEq] at h
          obtain ⟨rfl, rfl⟩ := h
          obtain ⟨h1, h2⟩ := valG_sound hQ hB hcg hv hc
          rw [h1]
          simp only [hop, hag, hp]
          exact ⟨trivial, h2⟩
        · rename_i hne
          simp only [Out.ok.injEq] at h
          obtain ⟨rfl, rfl⟩ := h
          obtain ⟨h1, h2⟩ := valG_sound hQ hB hcg hv hc
          rw [h1]
          simp only [hop]
          exact ⟨by first | trivial | (split <;> first | rfl | (rename_i hag hp; exact (hne _ _ hag hp).elim)), h2⟩
      · rename_i hn1 hn2
        simp only [Out.ok.injEq] at h
        obtain ⟨rfl, rfl⟩ := h
        obtain ⟨h1, h2⟩ := valG_sound hQ hB hcg hv hc
        rw [h1]
        refine ⟨?_, h2⟩
        cases hop : o.op <;> simp only
        · rename_i x
          cases x <;> simp only
          exact (hn1 _ hop).elim
        · exact (hn2 _ _ hop).elim

/-- Is it wanted? -/
def guardG (X : Ctx) (ops : Array Oper) (st : St) (o : Oper) (t : T) : Out Bool :=
  match o.guard with
  | none => .ok true t
  | some (j, want) => match (ops[j]?).bind (·.dst) with
    | none => .bad 15 t.n
    | some u => match st.get X (.tmp u) with
      | .d (.tup []) => .ok false t
      | v => (boolG v t).bind fun b t => .ok (b == want) t

include hQ in
theorem guardG_sound {X : Ctx} {ops : Array Oper} {st : St} {o : Oper} {t t' : T} {b : Bool} (h : guardG X ops st o t = .ok b t') (hc : All Q t'.cs) : guardOf X ops st o = some b ∧ All Q t.cs := by
  unfold guardG at h
  unfold guardOf
  cases hg : o.guard with
  | none =>
    rw [hg] at h
    simp only [Out.ok.injEq] at h
    obtain ⟨rfl, rfl⟩ := h
    exact ⟨rfl, hc⟩
  | some jw =>
    obtain ⟨j, want⟩ := jw
    rw [hg] at h
    simp only at h ⊢
    cases ht : (ops[j]?).bind (·.dst) with
    | none => rw [ht] at h; cases h
    | some u =>
      rw [ht] at h
      simp only at h ⊢
      split at h
      · rename_i hv
        simp only [Out.ok.injEq] at h
        obtain ⟨rfl, rfl⟩ := h
        rw [hv]
        exact ⟨rfl, hc⟩
      · obtain ⟨x, t1, h1, h2⟩ := Out.bind_ok h
        simp only [Out.ok.injEq] at h2
        obtain ⟨rfl, rfl⟩ := h2
        obtain ⟨k1, k2⟩ := boolG_sound hQ h1 hc
        rw [k1]
        exact ⟨rfl, k2⟩

/-- Operations in order. -/
def stepNewG (X : Ctx) (base : Nat) (o : Oper) (st : St) (t : T) : Out St :=
  match o.op with
  | .next it true => match st.get X it with
    | .it id => match st.h[id]? with
      | some (.iter s pos) => (boolG (.d (.bool (decide (pos < s.length)))) t).bind fun b t =>
        match b with
        | true => .ok ({ s := st.s, h := st.h.set id (.iter s (pos + (Utf8.decode ⟨s.toArray⟩ pos).2)), og := ogBut id st.og : St }.put o.dst (.d (.tup [.bool true, .int .i64 pos, .int .i32 (Utf8.decode ⟨s.toArray⟩ pos).1]))) t
        | false => .ok (st.put o.dst (.d (.tup [.bool false]))) t
      | _ => .bad 31 t.n
    | _ => .bad 32 t.n
  | .convert ty u x => ev t (.conv ty u (st.get X x))
      (fun t => match convV X ty u (st.get X x) with
        | some v => .ok (st.put o.dst v) t
        | none => .bad 35 t.n)
      (fun w t => match w with
        | .v y => .ok (st.put o.dst y) (t.add fun _ => convV X ty u (st.get X x) = some y)
        | _ => .bad 36 t.n)
  | .lookup ty x k ok => ev t (.look ty (mapOf st.h (st.get X x)) (st.get X k) ok)
      (fun t => match lookV X ty (mapOf st.h (st.get X x)) (st.get X k) ok with
        | some v => .ok (st.put o.dst v) t
        | none => .bad 37 t.n)
      (fun w t => match w with
        | .v y => .ok (st.put o.dst y) (t.add fun _ => lookV X ty (mapOf st.h (st.get X x)) (st.get X k) ok = some y)
        | _ => .bad 38 t.n)
  | _ => match stepNew X base st o with
    | some s => .ok s t
    | none => .bad 30 t.n

include hQ in
theorem stepNewG_sound {X : Ctx} {base : Nat} {o : Oper} {st st' : St} {t t' : T} (h : stepNewG X base o st t = .ok st' t') (hc : All Q t'.cs) : stepNew X base st o = some st' ∧ All Q t.cs := by
  unfold stepNewG at h
  split at h
  · rename_i it hop
    split at h
    · rename_i id hx
      split at h
      · rename_i s pos hh
        obtain ⟨b, t1, h1, h2⟩ := Out.bind_ok h
        have fin : ∀ x : Bool, x = b → All Q t1.cs → decide (pos < s.length) = x ∧ All Q t.cs := by
          intro x hx hc1
          subst hx
          obtain ⟨k1, k2⟩ := boolG_sound hQ h1 hc1
          exact ⟨by simpa using k1, k2⟩
        unfold stepNew
        simp only [hop, hx, hh]
        cases b with
        | true =>
          simp only [Out.ok.injEq] at h2
          obtain ⟨rfl, rfl⟩ := h2
          obtain ⟨k1, k2⟩ := fin true rfl hc
          rw [if_pos (of_decide_eq_true k1)]
          exact ⟨rfl, k2⟩
        | false =>
          simp only [Out.ok.injEq] at h2
          obtain ⟨rfl, rfl⟩ := h2
          obtain ⟨k1, k2⟩ := fin false rfl hc
          rw [if_neg (of_decide_eq_false k1)]
          exact ⟨rfl, k2⟩
      · cases h
    · cases h
  · rename_i ty u x hop
    have fin : ∀ y, convV X ty u (st.get X x) = some y → stepNew X base st o = some (st.put o.dst y) := fun y hy => by unfold stepNew; simp only [hop, hy, Option.map_some]
    rcases ev_ok h with ⟨w, t1, ht, h⟩ | ⟨t1, ht, h⟩
    · split at h
      · rename_i y
        simp only [Out.ok.injEq] at h
        obtain ⟨rfl, rfl⟩ := h
        simp only [T.add] at hc
        exact ⟨fin y (hQ _ hc.1), by rw [← ht]; exact hc.2⟩
      · cases h
    · split at h
      · rename_i y hy
        simp only [Out.ok.injEq] at h
        obtain ⟨rfl, rfl⟩ := h
        exact ⟨fin y hy, by rw [← ht]; exact hc⟩
      · cases h
  · rename_i ty x k ok hop
    have fin : ∀ y, lookV X ty (mapOf st.h (st.get X x)) (st.get X k) ok = some y → stepNew X base st o = some (st.put o.dst y) := fun y hy => by unfold stepNew; simp only [hop, mapGet, hy, Option.map_some]
    rcases ev_ok h with ⟨w, t1, ht, h⟩ | ⟨t1, ht, h⟩
    · split at h
      · rename_i y
        simp only [Out.ok.injEq] at h
        obtain ⟨rfl, rfl⟩ := h
        simp only [T.add] at hc
        exact ⟨fin y (hQ _ hc.1), by rw [← ht]; exact hc.2⟩
      · cases h
    · split at h
      · rename_i y hy
        simp only [Out.ok.injEq] at h
        obtain ⟨rfl, rfl⟩ := h
        exact ⟨fin y hy, by rw [← ht]; exact hc⟩
      · cases h
  · split at h
    · rename_i s hs
      simp only [Out.ok.injEq] at h
      obtain ⟨rfl, rfl⟩ := h
      exact ⟨hs, hc⟩
    · cases h

def stepAllG (X : Ctx) (cg : CallG) (base : Nat) (o : Oper) (st : St) (t : T) : Out St :=
  match isNew X.P o with
  | true => stepNewG X base o st t
  | false => stepG X cg base o st t

include hQ hB hcg in
theorem stepAllG_sound {X : Ctx} {base : Nat} {o : Oper} {st st' : St} {t t' : T} (h : stepAllG X cg base o st t = .ok st' t') (hc : All Q t'.cs) : stepAll X call base o st = some st' ∧ All Q t.cs := by
  unfold stepAllG at h
  unfold stepAll
  split at h
  · rename_i hn
    rw [if_pos hn]
    exact stepNewG_sound hQ h hc
  · rename_i hn
    rw [if_neg (by simp [hn])]
    exact stepG_sound hQ hB hcg h hc

def runG (X : Ctx) (cg : CallG) (base N : Nat) (ops : Array Oper) : List Oper → St → T → Out St
  | [], st, t => .ok st t
  | o :: r, st, t =>
    if dstOk N o then
      (guardG X ops st o t).bind fun b t =>
        match b with
        | true => (stepAllG X cg base o st t).bind fun st t => runG X cg base N ops r st t
        | false => runG X cg base N ops r (st.put o.dst undefV) t
    else .bad 16 t.n

include hQ hB hcg in
theorem runG_sound {X : Ctx} {base N : Nat} {ops : Array Oper} : ∀ (l : List Oper) (st st' : St) (t t' : T), runG X cg base N ops l st t = .ok st' t' → All Q t'.cs → runOps X call base N ops l st = some st' ∧ All Q t.cs := by
  intro l
  induction l with
  | nil =>
    intro st st' t t' h hc
    simp only [runG, Out.ok.injEq] at h
    obtain ⟨rfl, rfl⟩ := h
    exact ⟨rfl, hc⟩
  | cons o r ih =>
    intro st st' t t' h hc
    simp only [runG] at h
    simp only [runOps]
    split at h
    · rename_i hN
      rw [if_pos hN]
      obtain ⟨b, t1, h1, h2⟩ := Out.bind_ok h
      cases b with
      | true =>
        simp only at h2
        obtain ⟨s1, t2, h3, h4⟩ := Out.bind_ok h2
        obtain ⟨k1, k2⟩ := ih _ _ _ _ h4 hc
        obtain ⟨k3, k4⟩ := stepAllG_sound hQ hB hcg h3 k2
        obtain ⟨k5, k6⟩ := guardG_sound hQ h1 k4
        rw [k5]
        simp only [k3, k1]
        exact ⟨trivial, k6⟩
      | false =>
        simp only at h2
        obtain ⟨k1, k2⟩ := ih _ _ _ _ h2 hc
        obtain ⟨k5, k6⟩ := guardG_sound hQ h1 k2
        rw [k5]
        simp only [k1]
        exact ⟨trivial, k6⟩
    · cases h

/-- One of the first operations of a region that draws. -/
def calleeI (ρ : Operand → V) (o : Oper) : Option (FuncId × List V) :=
  match calleeG ρ o with
  | some (g, args) => if args.all V.pure then none else some (g, args)
  | none => none

theorem calleeI_A {ρ : Operand → V} {h0 : List Ob} {o : Oper} {g : FuncId} {args : List V} {m : Nat} {v : V} {h1 : List Ob} (hc : calleeI ρ o = some (g, args)) (hr : reach h0 args = some m) (hcall : call.i g args (h0.take m) = some (v, h1)) (hk : (v.pure && h1.length == m && m != 0) = true) :
    (∃ c, o.op = .call c) ∧ args.all V.pure = false ∧ callA call h0 ρ o = some (v, h1) := by
  unfold calleeI at hc
  split at hc
  · rename_i g' args' hcg
    split at hc
    · cases hc
    · rename_i hp
      simp only [Option.some.injEq, Prod.mk.injEq] at hc
      obtain ⟨rfl, rfl⟩ := hc
      have hp' : args'.all V.pure = false := by simpa using hp
      unfold calleeG at hcg
      split at hcg
      · rename_i c hop
        split at hcg
        · rename_i f hf
          split at hcg
          · rename_i g2 a b hce
            simp only [Option.some.injEq, Prod.mk.injEq] at hcg
            obtain ⟨rfl, rfl⟩ := hcg
            refine ⟨⟨c, hop⟩, hp', ?_⟩
            unfold callA
            simp only [hop, hf, hce, hr, hcall]
            rw [if_neg (by rw [hp']; simp), if_pos hk]
          · cases hcg
        · cases hcg
      · cases hcg
  · cases hc

theorem calleeI_val {X : Ctx} {ρ : Operand → V} {h : List Ob} {o : Oper} {g : FuncId} {args : List V} (hc : calleeI ρ o = some (g, args)) : valOp X call ρ h o = none := by
  unfold calleeI at hc
  split at hc
  · rename_i g' args' hcg
    split at hc
    · cases hc
    · rename_i hp
      rw [calleeG_val hcg, if_neg hp]
  · cases hc

def recG (X : Ctx) (cg : CallG) (ops : Array Oper) (h0 : List Ob) (o : Oper) (st : St) (t : T) : Out Rec :=
  (guardG X ops st o t).bind fun b t =>
    match b with
    | false => .ok ⟨undefV, none, [], []⟩ t
    | true =>
      match o.op with
      | .alloc ty => match zeroT X.P ty with
        | some z => if z.cells.all D.one && st.h.length == h0.length then .ok ⟨.obj h0.length 0, none, [Ob.cells (openZero X.P ty z.cells)], []⟩ t else .bad 17 t.n
        | none => .bad 18 t.n
      | .assign x => .ok ⟨(st.get X x).copy, none, [], []⟩ t
      | .move (.tmp u) => (valG X cg (st.get X) h0 o t).bind fun v t => .ok ⟨v, some (.slot u), [], []⟩ t
      | .load ty p => (valG X cg (st.get X) h0 o t).bind fun v t =>
        match isAggT X.P ty, st.get X p with
        | false, .obj id off => .ok ⟨v, some (.cell id off), [], []⟩ t
        | _, _ => .ok ⟨v, none, [], []⟩ t
      | _ =>
        match calleeI (st.get X) o with
        | some (g, args) =>
          if st.h.length == h0.length then
            match reach h0 args with
            | some m => (ev t (.calli g args (h0.take m))
                (fun t => (cg g args (h0.take m) t).bind fun r t => if r.1.pure then .ok (r.1, r.2.take (h0.take m).length) t else .bad 40 t.n)
                (fun w t => match w with
                  | .c x h' => .ok (x, h') (t.add fun call => (args.all V.pure = true → call.p g args = none) ∧ call.i g args (h0.take m) = some (x, h'))
                  | _ => .bad 41 t.n)).bind fun r t => if r.1.pure && r.2.length == m && m != 0 then .ok ⟨r.1, none, [], r.2⟩ t else .bad 42 t.n
            | none => .bad 43 t.n
          else .bad 44 t.n
        | none => (valG X cg (st.get X) h0 o t).bind fun v t => .ok ⟨v, none, [], []⟩ t

include hQ hB hcg in
theorem recG_sound {X : Ctx} {ops : Array Oper} {h0 : List Ob} {o : Oper} {st : St} {r : Rec} {t t' : T} (h : recG X cg ops h0 o st t = .ok r t') (hc : All Q t'.cs) : recA X call ops h0 o st = some r ∧ All Q t.cs := by
  unfold recG at h
  unfold recA
  obtain ⟨b, t1, hg, h⟩ := Out.bind_ok h
  cases b with
  | false =>
    simp only [Out.ok.injEq] at h
    obtain ⟨rfl, rfl⟩ := h
    obtain ⟨h1, h2⟩ := guardG_sound hQ hg hc
    rw [h1]
    exact ⟨rfl, h2⟩
  | true =>
    simp only at h
    have val : ∀ (F : V → Rec), (valG X cg (st.get X) h0 o t1).bind (fun v t => .ok (F v) t) = .ok r t' → ∃ v, valOp X call (st.get X) h0 o = some v ∧ r = F v ∧ All Q t1.cs := by
      intro F hh
      obtain ⟨v, t2, hv, hh⟩ := Out.bind_ok hh
      simp only [Out.ok.injEq] at hh
      obtain ⟨rfl, rfl⟩ := hh
      obtain ⟨k1, k2⟩ := valG_sound hQ hB hcg hv hc
      exact ⟨v, k1, rfl, k2⟩
    split at h
    · rename_i ty hop
      split at h
      · rename_i z hz
        split at h
        · rename_i hcnd
          simp only [Out.ok.injEq] at h
          obtain ⟨rfl, rfl⟩ := h
          obtain ⟨h1, h2⟩ := guardG_sound hQ hg hc
          rw [h1]
          have hv : valOp X call (st.get X) h0 o = none := by unfold valOp; rw [hop]
          simp only [hv, hop, hz]
          rw [if_pos hcnd]
          exact ⟨rfl, h2⟩
        · cases h
      · cases h
    · rename_i x hop
      simp only [Out.ok.injEq] at h
      obtain ⟨rfl, rfl⟩ := h
      obtain ⟨h1, h2⟩ := guardG_sound hQ hg hc
      rw [h1]
      have hv : valOp X call (st.get X) h0 o = none := by unfold valOp; rw [hop]
      simp only [hv, hop]
      exact ⟨trivial, h2⟩
    · rename_i u hop
      obtain ⟨v, k1, k2, k3⟩ := val _ h
      obtain ⟨h1, h2⟩ := guardG_sound hQ hg k3
      rw [h1]
      simp only [k1, hop, k2]
      exact ⟨trivial, h2⟩
    · rename_i ty p hop
      obtain ⟨v, t2, hv, h⟩ := Out.bind_ok h
      have key : (match isAggT X.P ty, st.get X p with | false, .obj id off => some (⟨v, some (.cell id off), [], []⟩ : Rec) | _, _ => some ⟨v, none, [], []⟩) = some r ∧ t' = t2 := by
        split at h
        · rename_i id off hag hp
          simp only [Out.ok.injEq] at h
          obtain ⟨rfl, rfl⟩ := h
          exact ⟨by simp only [hag, hp], rfl⟩
        · rename_i hne
          simp only [Out.ok.injEq] at h
          obtain ⟨rfl, rfl⟩ := h
          refine ⟨?_, rfl⟩
          first
            | rfl
            | (split
               · rename_i hag hp; exact (hne _ _ hag hp).elim
               · rfl)
      obtain ⟨k1, rfl⟩ := key
      obtain ⟨k2, k3⟩ := valG_sound hQ hB hcg hv hc
      obtain ⟨h1, h2⟩ := guardG_sound hQ hg k3
      rw [h1]
      simp only [k2, hop]
      exact ⟨k1, h2⟩
    · rename_i hn0 hn1 hn2 hn3
      split at h
      · rename_i g args hci
        split at h
        · rename_i hlen
          split at h
          · rename_i m hm
            obtain ⟨vr, t2, h5, h6⟩ := Out.bind_ok h
            split at h6
            · rename_i hk
              simp only [Out.ok.injEq] at h6
              obtain ⟨rfl, rfl⟩ := h6
              have fin : call.i g args (h0.take m) = some (vr.1, vr.2) → All Q t1.cs → recA X call ops h0 o st = some ⟨vr.1, none, [], vr.2⟩ ∧ All Q t.cs := by
                intro k1 k2
                obtain ⟨⟨c, hop⟩, _, k3⟩ := calleeI_A hci hm k1 hk
                obtain ⟨h1, h2⟩ := guardG_sound hQ hg k2
                refine ⟨?_, h2⟩
                unfold recA
                rw [h1]
                simp only [calleeI_val (X := X) (call := call) (h := h0) hci, hop, hlen, if_true, k3, Option.map_some]
              have hpf : args.all V.pure = false := by
                unfold calleeI at hci
                split at hci
                · split at hci
                  · cases hci
                  · rename_i hp
                    simp only [Option.some.injEq, Prod.mk.injEq] at hci
                    obtain ⟨rfl, rfl⟩ := hci
                    simpa using hp
                · cases hci
              have := fin
              unfold recA at this
              rcases ev_ok h5 with ⟨w, t3, ht, h5⟩ | ⟨t3, ht, h5⟩
              · split at h5
                · simp only [Out.ok.injEq] at h5
                  obtain ⟨rfl, rfl⟩ := h5
                  simp only [T.add] at hc
                  exact this (hQ _ hc.1).2 (by rw [← ht]; exact hc.2)
                · cases h5
              · obtain ⟨r2, t4, h7, h8⟩ := Out.bind_ok h5
                split at h8
                · rename_i hpu
                  simp only [Out.ok.injEq] at h8
                  obtain ⟨rfl, rfl⟩ := h8
                  obtain ⟨k1, k2⟩ := hcg _ _ _ _ _ _ h7 hc
                  have k3 := hB.i _ _ _ _ r2.2 hpf k1
                  rw [if_pos hpu] at k3
                  exact this k3 (by rw [← ht]; exact k2)
                · cases h8
            · cases h6
          · cases h
        · cases h
      · obtain ⟨v, k1, k2, k3⟩ := val _ h
        obtain ⟨h1, h2⟩ := guardG_sound hQ hg k3
        rw [h1]
        simp only [k1]
        refine ⟨?_, h2⟩
        subst k2
        cases hop : o.op <;> simp only

def runAG (X : Ctx) (cg : CallG) (N : Nat) (ops : Array Oper) (h0 : List Ob) : List Oper → Bk → St → T → Out St
  | [], _, st, t => .ok st t
  | o :: r, q, st, t =>
    if dstOk N o then (recG X cg ops h0 o st t).bind fun rc t => match beside ops (st.get X) o rc q with
      | some q => runAG X cg N ops h0 r q (rc.on o.dst st) t
      | none => .bad 45 t.n
    else .bad 19 t.n

include hQ hB hcg in
theorem runAG_sound {X : Ctx} {N : Nat} {ops : Array Oper} {h0 : List Ob} : ∀ (l : List Oper) (q : Bk) (st st' : St) (t t' : T), runAG X cg N ops h0 l q st t = .ok st' t' → All Q t'.cs → runA X call N ops h0 l q st = some st' ∧ All Q t.cs := by
  intro l
  induction l with
  | nil =>
    intro q st st' t t' h hc
    simp only [runAG, Out.ok.injEq] at h
    obtain ⟨rfl, rfl⟩ := h
    exact ⟨rfl, hc⟩
  | cons o r ih =>
    intro q st st' t t' h hc
    simp only [runAG] at h
    simp only [runA]
    split at h
    · rename_i hN
      rw [if_pos hN]
      obtain ⟨rc, t1, h1, h2⟩ := Out.bind_ok h
      split at h2
      · rename_i q1 hq1
        obtain ⟨k1, k2⟩ := ih _ _ _ _ _ h2 hc
        obtain ⟨k3, k4⟩ := recG_sound hQ hB hcg h1 k2
        rw [k3]
        simp only [hq1]
        exact ⟨k1, k4⟩
      · cases h2
    · cases h

/-- A loop, round by round. -/
def loopG (body : St → T → Out (Ex × St)) (keep : List Nat) (n : Nat) : Nat → St → T → Out (Ex × St)
  | 0, _, t => .bad 20 t.n
  | k + 1, st, t => (body (clean keep n st) t).bind fun r t => match r with
    | (.nrm, st) => loopG body keep n k st t
    | r => .ok r t

theorem loopG_sound {bodyG : St → T → Out (Ex × St)} {body : St → Option (Ex × St)} (hb : ∀ (st : St) (r : Ex × St) (t t' : T), bodyG st t = .ok r t' → All Q t'.cs → body st = some r ∧ All Q t.cs) {keep : List Nat} {n : Nat} :
    ∀ (k : Nat) (st : St) (r : Ex × St) (t t' : T), loopG bodyG keep n k st t = .ok r t' → All Q t'.cs → loopN body keep n k st = some r ∧ All Q t.cs := by
  intro k
  induction k with
  | zero => intro st r t t' h; simp [loopG] at h
  | succ k ih =>
    intro st r t t' h hc
    simp only [loopG] at h
    simp only [loopN]
    obtain ⟨r1, t1, h1, h2⟩ := Out.bind_ok h
    split at h2
    · rename_i st1
      obtain ⟨k1, k2⟩ := ih _ _ _ _ h2 hc
      obtain ⟨k3, k4⟩ := hb _ _ _ _ h1 k2
      rw [k3]
      exact ⟨k1, k4⟩
    · rename_i hne
      simp only [Out.ok.injEq] at h2
      obtain ⟨rfl, rfl⟩ := h2
      obtain ⟨k3, k4⟩ := hb _ _ _ _ h1 hc
      rw [k3]
      refine ⟨?_, k4⟩
      obtain ⟨e, st1⟩ := r1
      cases e with
      | nrm => exact (hne _ rfl).elim
      | exit i => rfl
      | ret => rfl

/-- Code. -/
def execG (X : Ctx) (cg : CallG) (base N fuel : Nat) : AC → St → T → Out (Ex × St)
  | .skip, st, t => .ok (.nrm, st) t
  | .region ops keep, st, t =>
    (runG X cg base N ops ops.toList { st with og := [] } t).bind fun st t => .ok (.nrm, { st with s := keepS keep st.s, og := [] }) t
  | .draw ops k keep, st, t =>
    if drawGo X ops then
      ((runAG X cg N ops st.h (ops.toList.take k) bk0 { st with og := [] } t).bind fun st t => runG X cg base N ops (ops.toList.drop k) st t).bind fun st t => .ok (.nrm, { st with s := keepS keep st.s, og := [] }) t
    else .bad 21 t.n
  | .seq a b, st, t => (execG X cg base N fuel a st t).bind fun r t => match r with
    | (.nrm, st) => execG X cg base N fuel b st t
    | r => .ok r t
  | .cond c a b, st, t => (boolG (st.get X c) t).bind fun x t =>
    match x with
    | true => execG X cg base N fuel a st t
    | false => execG X cg base N fuel b st t
  | .block id b, st, t => (execG X cg base N fuel b st t).bind fun r t => match r with
    | (.exit i, st) => .ok (if i = id then .nrm else .exit i, st) t
    | r => .ok r t
  | .loop keep b, st, t => ev t (.l base N keep b st)
      (fun t => loopG (fun st t => execG X cg base N fuel b st t) keep st.h.length fuel st t)
      (fun w t => match w with
        | .l e st' => .ok (e, st') (t.add fun call => loopN (fun st => exec X call base N fuel b st) keep st.h.length fuel st = some (e, st'))
        | _ => .bad 22 t.n)
  | .exit id, st, t => .ok (.exit id, st) t
  | .ret, st, t => .ok (.ret, st) t
  | .bad, _, t => .bad 23 t.n

include hQ hB hcg in
theorem execG_sound {X : Ctx} {base N fuel : Nat} : ∀ (c : AC) (st : St) (r : Ex × St) (t t' : T), execG X cg base N fuel c st t = .ok r t' → All Q t'.cs → exec X call base N fuel c st = some r ∧ All Q t.cs := by
  intro c
  induction c with
  | skip => intro st r t t' h hc; simp only [execG, Out.ok.injEq] at h; obtain ⟨rfl, rfl⟩ := h; exact ⟨rfl, hc⟩
  | region ops keep =>
    intro st r t t' h hc
    simp only [execG] at h
    obtain ⟨st1, t1, h1, h2⟩ := Out.bind_ok h
    simp only [Out.ok.injEq] at h2
    obtain ⟨rfl, rfl⟩ := h2
    obtain ⟨h3, h4⟩ := runG_sound hQ hB hcg _ _ _ _ _ h1 hc
    simp only [exec, h3]
    exact ⟨trivial, h4⟩
  | draw ops k keep =>
    intro st r t t' h hc
    simp only [execG] at h
    split at h
    · rename_i hm
      obtain ⟨st1, t1, h1, h2⟩ := Out.bind_ok h
      obtain ⟨st2, t2, h3, h4⟩ := Out.bind_ok h1
      simp only [Out.ok.injEq] at h2
      obtain ⟨rfl, rfl⟩ := h2
      obtain ⟨h5, h6⟩ := runG_sound hQ hB hcg _ _ _ _ _ h4 hc
      obtain ⟨h7, h8⟩ := runAG_sound hQ hB hcg _ _ _ _ _ _ h3 h6
      simp only [exec, runDraw]
      rw [if_pos hm, h7]
      simp only [h5]
      exact ⟨trivial, h8⟩
    · cases h
  | seq x y ihx ihy =>
    intro st r t t' h hc
    simp only [execG] at h
    simp only [exec]
    obtain ⟨r1, t1, h1, h2⟩ := Out.bind_ok h
    split at h2
    · obtain ⟨k1, k2⟩ := ihy _ _ _ _ h2 hc
      obtain ⟨h3, h4⟩ := ihx _ _ _ _ h1 k2
      rw [h3]
      exact ⟨k1, h4⟩
    · rename_i hne
      simp only [Out.ok.injEq] at h2
      obtain ⟨rfl, rfl⟩ := h2
      obtain ⟨h3, h4⟩ := ihx _ _ _ _ h1 hc
      rw [h3]
      refine ⟨?_, h4⟩
      obtain ⟨e, st1⟩ := r1
      cases e with
      | nrm => exact (hne _ rfl).elim
      | exit i => rfl
      | ret => rfl
  | cond c x y ihx ihy =>
    intro st r t t' h hc
    simp only [execG] at h
    simp only [exec]
    obtain ⟨b, t1, h1, h2⟩ := Out.bind_ok h
    cases b with
    | true =>
      obtain ⟨k1, k2⟩ := ihx _ _ _ _ h2 hc
      obtain ⟨h3, h4⟩ := boolG_sound hQ h1 k2
      rw [h3]
      exact ⟨k1, h4⟩
    | false =>
      obtain ⟨k1, k2⟩ := ihy _ _ _ _ h2 hc
      obtain ⟨h3, h4⟩ := boolG_sound hQ h1 k2
      rw [h3]
      exact ⟨k1, h4⟩
  | block id b ih =>
    intro st r t t' h hc
    simp only [execG] at h
    simp only [exec]
    obtain ⟨r1, t1, h1, h2⟩ := Out.bind_ok h
    split at h2
    · simp only [Out.ok.injEq] at h2
      obtain ⟨rfl, rfl⟩ := h2
      obtain ⟨h3, h4⟩ := ih _ _ _ _ h1 hc
      rw [h3]
      exact ⟨rfl, h4⟩
    · rename_i hne
      simp only [Out.ok.injEq] at h2
      obtain ⟨rfl, rfl⟩ := h2
      obtain ⟨h3, h4⟩ := ih _ _ _ _ h1 hc
      rw [h3]
      refine ⟨?_, h4⟩
      obtain ⟨e, st1⟩ := r1
      cases e with
      | nrm => rfl
      | exit i => exact (hne _ _ rfl).elim
      | ret => rfl
  | loop keep b ih =>
    intro st r t t' h hc
    simp only [execG] at h
    simp only [exec]
    rcases ev_ok h with ⟨w, t1, ht, h⟩ | ⟨t1, ht, h⟩
    · split at h
      · simp only [Out.ok.injEq] at h
        obtain ⟨rfl, rfl⟩ := h
        simp only [T.add] at hc
        exact ⟨hQ _ hc.1, by rw [← ht]; exact hc.2⟩
      · cases h
    · obtain ⟨h3, h4⟩ := loopG_sound (fun st r t t' h hc => ih st r t t' h hc) _ _ _ t1 _ h hc
      exact ⟨h3, by rw [← ht]; exact h4⟩
  | exit id => intro st r t t' h hc; simp only [execG, Out.ok.injEq] at h; obtain ⟨rfl, rfl⟩ := h; exact ⟨rfl, hc⟩
  | ret => intro st r t t' h hc; simp only [execG, Out.ok.injEq] at h; obtain ⟨rfl, rfl⟩ := h; exact ⟨rfl, hc⟩
  | bad => intro st r t t' h hc; simp [execG] at h

/-- A function's body. -/
def funG (X : Ctx) (cg : CallG) (fuel : Nat) (f : FuncId) (args : List V) (h : List Ob) (t : T) : Out (V × List Ob) :=
  match xiOf X f args h with
  | some (some r) => .ok r t
  | some none => .bad 35 t.n
  | none =>
  match X.ext f, X.P.funcs[f]? with
  | none, some fn => match fn.body with
    | some c => if fn.name == "runtime.NumGoroutine" then .bad 24 t.n else
      (execG X cg h.length fn.ntmps fuel (annotFn fn c) { s := argEnv 0 (args.map V.copy), h := h, og := [] } t).bind fun r t =>
        match r with
        | (.exit _, _) => .bad 25 t.n
        | (_, st) => match results X fn st with
          | some r => .ok r t
          | none => .bad 26 t.n
    | none => .bad 27 t.n
  | some F, _ => match toDs args with
    | some ds => match F ds with
      | some v => .ok (v, []) t
      | none => .bad 33 t.n
    | none => .bad 34 t.n
  | _, _ => .bad 28 t.n

/-- The body, on the callee of some depth. -/
def bodyC (X : Ctx) (call : CallF) (fuel : Nat) (f : FuncId) (args : List V) (h : List Ob) : Option (V × List Ob) :=
  match xiOf X f args h with
  | some r => r
  | none =>
  match X.ext f, X.P.funcs[f]? with
  | none, some fn => match fn.body with
    | some c => if fn.name == "runtime.NumGoroutine" then none else bodyOn X call fuel fn c (args.map V.copy) h
    | none => none
  | some F, _ => match toDs args with
    | some ds => (F ds).map fun v => (v, [])
    | none => none
  | _, _ => none
theorem toDs_pure : ∀ {vs : List V} {ds : List D}, toDs vs = some ds → vs.all V.pure = true
  | [], _, _ => rfl
  | v :: vs, ds, h => by
    simp only [toDs] at h
    split at h
    · rename_i d ds' hd hds
      simp only [List.all_cons, Bool.and_eq_true]
      exact ⟨by cases v <;> simp [V.toD] at hd <;> rfl, toDs_pure hds⟩
    · cases h

include hQ hB hcg in
theorem funG_sound {X : Ctx} {fuel : Nat} {f : FuncId} {args : List V} {h : List Ob} {r : V × List Ob} {t t' : T} (hh : funG X cg fuel f args h t = .ok r t') (hc : All Q t'.cs) : bodyC X call fuel f args h = some r ∧ All Q t.cs := by
  unfold funG at hh
  cases hxi : xiOf X f args h with
  | some o =>
    rw [hxi] at hh
    cases o with
    | none => cases hh
    | some r0 =>
      simp only [Out.ok.injEq] at hh
      obtain ⟨rfl, rfl⟩ := hh
      refine ⟨?_, hc⟩
      unfold bodyC
      rw [hxi]
  | none =>
  rw [hxi] at hh
  simp only at hh
  split at hh
  · rename_i fn hx hfn
    split at hh
    · rename_i c hb
      split at hh
      · cases hh
      · rename_i hn
        unfold bodyC
        simp only [hxi, hx, hfn, hb]
        rw [if_neg hn]
        obtain ⟨r1, t1, h1, h2⟩ := Out.bind_ok hh
        obtain ⟨e, st⟩ := r1
        have fin : (match results X fn st with | some r => Out.ok r t1 | none => .bad 26 t1.n) = .ok r t' → results X fn st = some r ∧ t1 = t' := by
          intro h3
          split at h3
          · rename_i u hu
            simp only [Out.ok.injEq] at h3
            obtain ⟨rfl, rfl⟩ := h3
            exact ⟨hu, rfl⟩
          · cases h3
        unfold bodyOn
        cases e with
        | exit i => simp at h2
        | nrm =>
          obtain ⟨h3, rfl⟩ := fin h2
          obtain ⟨k1, k2⟩ := execG_sound hQ hB hcg _ _ _ _ _ h1 hc
          rw [k1]
          exact ⟨h3, k2⟩
        | ret =>
          obtain ⟨h3, rfl⟩ := fin h2
          obtain ⟨k1, k2⟩ := execG_sound hQ hB hcg _ _ _ _ _ h1 hc
          rw [k1]
          exact ⟨h3, k2⟩
    · cases hh
  · rename_i F hx
    split at hh
    · rename_i ds hds
      split at hh
      · rename_i v hv
        simp only [Out.ok.injEq] at hh
        obtain ⟨rfl, rfl⟩ := hh
        refine ⟨?_, hc⟩
        unfold bodyC
        simp only [hxi]
        split
        · rename_i h1 h2; rw [hx] at h1; cases h1
        · rename_i F' h1; rw [hx] at h1; cases h1; simp only [hds, hv, Option.map_some]
        · simp_all
      · cases hh
    · cases hh
  · cases hh
end

def callG (X : Ctx) (fuel : Nat) : Nat → CallG
  | 0 => fun _ _ _ t => .bad 29 t.n
  | k + 1 => fun f args h t => funG X (callG X fuel k) fuel f args h t

theorem callOf_succ (X : Ctx) (fuel k : Nat) : CallOf (callN X fuel (k + 1)) (bodyC X (callN X fuel k) fuel) := by
  have rp : ∀ g args v h', args.all V.pure = true → bodyC X (callN X fuel k) fuel g args [] = some (v, h') → runP X (callN X fuel k) fuel g args = some (v, h') := by
    intro g args v h' hap hh
    unfold bodyC at hh
    rw [show xiOf X g args [] = none by unfold xiOf; rw [if_pos hap]] at hh
    simp only at hh
    unfold runP
    split at hh
    · rename_i fn hx hfn
      simp only [hx, hfn]
      split at hh
      · rename_i c hb
        simp only [hb]
        split at hh
        · cases hh
        · rename_i hn
          rw [if_neg hn]
          exact hh
      · cases hh
    · rename_i F hx
      simp only [hx]
      exact hh
    · cases hh
  refine ⟨fun g args v h' hp hh hv => ?_, fun g args v h' hp hh hv => ⟨?_, fun h => ?_⟩, fun g args v h h' hp hh => ?_⟩
  · simp only [callN, rp _ _ _ _ hp hh, hv, if_true]
  · simp [callN, rp _ _ _ _ hp hh, hv]
  · simp only [callN, rp _ _ _ _ hp hh, hp, if_true]
  · simp only [callN, hp]
    unfold runI
    unfold bodyC at hh
    cases hxi : xiOf X g args h with
    | some o =>
      rw [hxi] at hh
      simp only at hh
      subst hh
      unfold xiOf at hxi
      rw [if_neg (by rw [hp]; simp)] at hxi
      split at hxi
      · cases hxi
      · simp only [Option.some.injEq] at hxi
        split at hxi
        · split at hxi
          · rename_i hvl
            simp only [Option.some.injEq, Prod.mk.injEq] at hxi
            obtain ⟨rfl, rfl⟩ := hxi
            simp only [Bool.and_eq_true, beq_iff_eq] at hvl
            rw [if_pos hvl.1, List.take_of_length_le (by omega)]
            simp
          · cases hxi
        · cases hxi
    | none =>
    rw [hxi] at hh
    simp only at hh
    simp only [Bool.false_eq_true, if_false]
    split at hh
    · rename_i fn hx hfn
      simp only [hfn, hx]
      split at hh
      · rename_i c hb
        simp only [hb]
        split at hh
        · cases hh
        · rename_i hn
          simp only [hn, hh]
          simp
          split <;> rfl
      · cases hh
    · rename_i F hx
      split at hh
      · rename_i ds hds
        rw [toDs_pure hds] at hp
        cases hp
      · cases hh
    · cases hh

/-- So many rounds at most; so it is for each depth from some on. -/
def FUEL : Nat := 2 ^ 60
def Ev (X : Ctx) (c : Fact) : Prop := ∃ K, ∀ k, K ≤ k → c (callN X FUEL k)
def Evs (X : Ctx) (cs : List Fact) : Prop := All (Ev X) cs
/-- The function answers so. -/
def Ans (X : Ctx) (f : FuncId) (args : List V) (v : V) : Prop := Ev X fun call => call.p f args = some v
/-- The function's body answers so, and leaves these boxes. -/
def AnsB (X : Ctx) (f : FuncId) (args : List V) (h : List Ob) (v : V) (h' : List Ob) : Prop := Ev X fun call => bodyC X call FUEL f args h = some (v, h')

theorem Ev.pure {X : Ctx} {q : Prop} (h : q) : Ev X fun _ => q := ⟨0, fun _ _ => h⟩

theorem Evs.all {X : Ctx} : ∀ {cs : List Fact}, Evs X cs → ∃ K, All (fun c => ∀ k, K ≤ k → c (callN X FUEL k)) cs
  | [], _ => ⟨0, trivial⟩
  | c :: cs, h => by
    obtain ⟨⟨K1, h1⟩, h2⟩ := h
    obtain ⟨K2, h3⟩ := Evs.all h2
    have mono : ∀ {cs : List Fact}, All (fun c => ∀ k, K2 ≤ k → c (callN X FUEL k)) cs → All (fun c => ∀ k, K1 + K2 ≤ k → c (callN X FUEL k)) cs := by
      intro cs
      induction cs with
      | nil => intro _; trivial
      | cons d ds ih => intro h; exact ⟨fun k hk => h.1 k (by omega), ih h.2⟩
    exact ⟨K1 + K2, fun k hk => h1 k (by omega), mono h3⟩

theorem callG_sound {X : Ctx} {K : Nat} : ∀ d j, K ≤ j → ∀ g args h t r t', callG X FUEL d g args h t = .ok r t' → All (fun c => ∀ k, K ≤ k → c (callN X FUEL k)) t'.cs → bodyC X (callN X FUEL (j + d)) FUEL g args h = some r ∧ All (fun c => ∀ k, K ≤ k → c (callN X FUEL k)) t.cs := by
  intro d
  induction d with
  | zero => intro j _ g args h t r t' hh; simp [callG] at hh
  | succ d ih =>
    intro j hj g args h t r t' hh hc
    simp only [callG] at hh
    have e : j + (d + 1) = (j + d) + 1 := by omega
    rw [e]
    exact funG_sound (fun c hq => hq _ (by omega)) (callOf_succ X FUEL (j + d)) (fun g args h t r t' h1 h2 => ih j hj g args h t r t' h1 h2) hh hc

/-- A PATH of a body. -/
theorem pathB {X : Ctx} (d : Nat) {f : FuncId} {args : List V} {h h' : List Ob} {os : List (Nat × What)} {n : Nat} {ask : Bool} {v : V} {cs : List Fact} (hc : Evs X cs) (hr : callG X FUEL d f args h ⟨0, false, os, []⟩ = .ok (v, h') ⟨n, ask, [], cs⟩) : AnsB X f args h v h' := by
  obtain ⟨K, hK⟩ := hc.all
  refine ⟨K + d, fun k hk => ?_⟩
  have := callG_sound d (k - d) (K := K) (by omega) f args h _ _ _ hr hK
  rw [show k - d + d = k by omega] at this
  exact this.1

theorem AnsB.ans {X : Ctx} {f : FuncId} {args : List V} {v : V} {h' : List Ob} (h : AnsB X f args [] v h') (hp : args.all V.pure = true) (hv : v.pure = true) : Ans X f args v := by
  obtain ⟨K, h⟩ := h
  refine ⟨K + 1, fun k hk => ?_⟩
  obtain ⟨k, rfl⟩ : ∃ j, k = j + 1 := ⟨k - 1, by omega⟩
  exact (callOf_succ X FUEL k).p _ _ _ _ hp (h k (by omega)) hv

/-- A PATH of a function on what is plain. -/
theorem path {X : Ctx} (d : Nat) {f : FuncId} {args : List V} {h' : List Ob} (os : List (Nat × What)) {n : Nat} {ask : Bool} {v : V} {cs : List Fact} (hc : Evs X cs) (hr : callG X FUEL d f args [] ⟨0, false, os, []⟩ = .ok (v, h') ⟨n, ask, [], cs⟩) (hp : args.all V.pure = true) (hv : v.pure = true) : Ans X f args v :=
  (pathB d hc hr).ans hp hv

/- The same, as it is written down. -/
def outV (o : Out (V × List Ob)) : Option (V × List (Nat × What) × List Fact) :=
  match o with
  | .ok r t => some (r.1, t.os, t.cs)
  | _ => none
def outB (o : Out (V × List Ob)) : Option ((V × List Ob) × List (Nat × What) × List Fact) :=
  match o with
  | .ok r t => some (r, t.os, t.cs)
  | _ => none
def outR (o : Out (Ex × St)) : Option ((Ex × St) × List (Nat × What) × List Fact) :=
  match o with
  | .ok r t => some (r, t.os, t.cs)
  | _ => none
theorem pV {X : Ctx} {f : FuncId} {args : List V} {v : V} (d : Nat) (os : List (Nat × What)) {cs : List Fact} (hc : Evs X cs) (hr : outV (callG X FUEL d f args [] ⟨0, false, os, []⟩) = some (v, [], cs)) (hp : args.all V.pure = true) (hv : v.pure = true) : Ans X f args v := by
  unfold outV at hr
  split at hr
  · rename_i r t e
    obtain ⟨v', h'⟩ := r
    obtain ⟨n, a, os', cs'⟩ := t
    simp only [Option.some.injEq, Prod.mk.injEq] at hr
    obtain ⟨rfl, rfl, rfl⟩ := hr
    exact path d os hc e hp hv
  · cases hr
theorem pB {X : Ctx} {f : FuncId} {args : List V} {h h' : List Ob} {v : V} (d : Nat) (os : List (Nat × What)) {cs : List Fact} (hc : Evs X cs) (hr : outB (callG X FUEL d f args h ⟨0, false, os, []⟩) = some ((v, h'), [], cs)) : AnsB X f args h v h' := by
  unfold outB at hr
  split at hr
  · rename_i r t e
    obtain ⟨v', h'⟩ := r
    obtain ⟨n, a, os', cs'⟩ := t
    simp only [Option.some.injEq, Prod.mk.injEq] at hr
    obtain ⟨⟨rfl, rfl⟩, rfl, rfl⟩ := hr
    exact pathB d hc e
  · cases hr
theorem nilE {X : Ctx} : Evs X [] := trivial
theorem cP {X : Ctx} {q : Prop} {cs : List Fact} (h : q) (t : Evs X cs) : Evs X ((fun _ => q) :: cs) := ⟨Ev.pure h, t⟩
theorem cC {X : Ctx} {f : FuncId} {args : List V} {v : V} {cs : List Fact} (h : Ans X f args v) (t : Evs X cs) : Evs X ((fun call => call.p f args = some v) :: cs) := ⟨h, t⟩
theorem cE {X : Ctx} {c : Fact} {cs : List Fact} (h : Ev X c) (t : Evs X cs) : Evs X (c :: cs) := ⟨h, t⟩

theorem Ans.to {X : Ctx} {f : FuncId} {args : List V} {v v' : V} (h : Ans X f args v) (e : v = v') : Ans X f args v' := e ▸ h

/-- What an impure answer of a body is to a caller. -/
theorem AnsB.calli {X : Ctx} {f : FuncId} {args : List V} {h : List Ob} {v : V} {h' : List Ob} (hb : AnsB X f args h v h') (hp : args.all V.pure = false) : Ev X fun call => (args.all V.pure = true → call.p f args = none) ∧ call.i f args h = some (if v.pure then (v, h'.take h.length) else (v, h')) := by
  obtain ⟨K, hb⟩ := hb
  refine ⟨K + 1, fun k hk => ?_⟩
  obtain ⟨k, rfl⟩ : ∃ j, k = j + 1 := ⟨k - 1, by omega⟩
  exact ⟨fun h => (by rw [hp] at h; cases h), (callOf_succ X FUEL k).i _ _ _ _ _ hp (hb k (by omega))⟩

theorem AnsB.new {X : Ctx} {f : FuncId} {args : List V} {v : V} {h' : List Ob} (hb : AnsB X f args [] v h') (hp : args.all V.pure = true) (hv : v.pure = false) (h : List Ob) : Ev X fun call => (args.all V.pure = true → call.p f args = none) ∧ call.i f args h = some (v.shift h.length, h ++ h'.map (Ob.shift h.length)) := by
  obtain ⟨K, hb⟩ := hb
  refine ⟨K + 1, fun k hk => ?_⟩
  obtain ⟨k, rfl⟩ : ∃ j, k = j + 1 := ⟨k - 1, by omega⟩
  obtain ⟨h1, h2⟩ := (callOf_succ X FUEL k).q _ _ _ _ hp (hb k (by omega)) hv
  exact ⟨fun _ => h1, h2 h⟩

/- Loops. -/
/-- From this state on the loop ends so, within m rounds. -/
def Lp (X : Ctx) (base N : Nat) (keep : List Nat) (b : AC) (n m : Nat) (st : St) (r : Ex × St) : Prop := Ev X fun call => loopN (fun st => exec X call base N FUEL b st) keep n m st = some r
/-- One round of it. -/
def Rd (X : Ctx) (base N : Nat) (b : AC) (st : St) (r : Ex × St) : Prop := Ev X fun call => exec X call base N FUEL b st = some r

theorem pathR {X : Ctx} (d : Nat) {base N : Nat} {b : AC} {st : St} {r : Ex × St} (os : List (Nat × What)) {n : Nat} {ask : Bool} {cs : List Fact} (hc : Evs X cs) (hr : execG X (callG X FUEL d) base N FUEL b st ⟨0, false, os, []⟩ = .ok r ⟨n, ask, [], cs⟩) : Rd X base N b st r := by
  obtain ⟨K, hK⟩ := hc.all
  refine ⟨K + d + 1, fun k hk => ?_⟩
  obtain ⟨k, rfl⟩ : ∃ j, k = j + 1 := ⟨k - 1, by omega⟩
  have h1 : k = k - d + d := by omega
  refine (execG_sound (Q := fun c => ∀ k, K ≤ k → c (callN X FUEL k)) (fun c hq => hq _ (by omega)) (callOf_succ X FUEL k) (fun g args h t r t' e1 e2 => ?_) b st r _ _ hr hK).1
  rw [h1]
  exact callG_sound d (k - d) (K := K) (by omega) g args h t r t' e1 e2

theorem pR {X : Ctx} {base N : Nat} {b : AC} {st : St} {r : Ex × St} (d : Nat) (os : List (Nat × What)) {cs : List Fact} (hc : Evs X cs) (hr : outR (execG X (callG X FUEL d) base N FUEL b st ⟨0, false, os, []⟩) = some (r, [], cs)) : Rd X base N b st r := by
  unfold outR at hr
  split at hr
  · rename_i r t e
    obtain ⟨n, a, os', cs'⟩ := t
    simp only [Option.some.injEq, Prod.mk.injEq] at hr
    obtain ⟨rfl, rfl, rfl⟩ := hr
    exact pathR d os hc e
  · cases hr

/-- One round, and what is forgotten behind it. -/
def RdC (X : Ctx) (base N : Nat) (keep : List Nat) (b : AC) (n : Nat) (st st' : St) : Prop := Ev X fun call => ∃ st1, exec X call base N FUEL b st = some (.nrm, st1) ∧ clean keep n st1 = st'
/-- The loop from a state on of which all else is forgotten. -/
def LpC (X : Ctx) (base N : Nat) (keep : List Nat) (b : AC) (n m : Nat) (st : St) (r : Ex × St) : Prop := Ev X fun call => (match exec X call base N FUEL b st with | some (.nrm, st1) => loopN (fun st => exec X call base N FUEL b st) keep n m st1 | r => r) = some r

def outC (keep : List Nat) (n : Nat) (o : Out (Ex × St)) : Option (St × List (Nat × What) × List Fact) :=
  match o with
  | .ok (.nrm, st) t => some (clean keep n st, t.os, t.cs)
  | _ => none
theorem pC {X : Ctx} {base N : Nat} {keep : List Nat} {b : AC} {n : Nat} {st st' : St} (d : Nat) (os : List (Nat × What)) {cs : List Fact} (hc : Evs X cs) (hr : outC keep n (execG X (callG X FUEL d) base N FUEL b st ⟨0, false, os, []⟩) = some (st', [], cs)) : RdC X base N keep b n st st' := by
  unfold outC at hr
  split at hr
  · rename_i st1 t e
    obtain ⟨k, a, os', cs'⟩ := t
    simp only [Option.some.injEq, Prod.mk.injEq] at hr
    obtain ⟨h1, rfl, rfl⟩ := hr
    obtain ⟨K, h⟩ := pathR d os hc e
    exact ⟨K, fun k hk => ⟨st1, h k hk, h1⟩⟩
  · cases hr
theorem RdC.to {X : Ctx} {base N : Nat} {keep : List Nat} {b : AC} {n : Nat} {st st' st'' : St} (h : RdC X base N keep b n st st') (e : st' = st'') : RdC X base N keep b n st st'' := e ▸ h
theorem Rd.to {X : Ctx} {base N : Nat} {b : AC} {st : St} {r r' : Ex × St} (h : Rd X base N b st r) (e : r = r') : Rd X base N b st r' := e ▸ h

theorem LpC.next {X : Ctx} {base N : Nat} {keep : List Nat} {b : AC} {n m : Nat} {st st' : St} {r : Ex × St} (h1 : RdC X base N keep b n st st') (h2 : LpC X base N keep b n m st' r) : LpC X base N keep b n (m + 1) st r := by
  obtain ⟨K1, h1⟩ := h1
  obtain ⟨K2, h2⟩ := h2
  refine ⟨K1 + K2, fun k hk => ?_⟩
  obtain ⟨st1, e1, e2⟩ := h1 k (by omega)
  have := h2 k (by omega)
  simp only at this
  rw [← e2] at this
  simp only [e1]
  unfold loopN
  exact this
theorem LpC.last {X : Ctx} {base N : Nat} {keep : List Nat} {b : AC} {n m : Nat} {st st1 : St} {e : Ex} (h1 : Rd X base N b st (e, st1)) (he : e ≠ .nrm) : LpC X base N keep b n m st (e, st1) := by
  obtain ⟨K1, h1⟩ := h1
  refine ⟨K1, fun k hk => ?_⟩
  have := h1 k hk
  simp only at this
  simp only [this]
  cases e with
  | nrm => exact (he rfl).elim
  | _ => rfl
theorem LpC.start {X : Ctx} {base N : Nat} {keep : List Nat} {b : AC} {n m : Nat} {st st' : St} {r : Ex × St} (h : LpC X base N keep b n m st' r) (hc : clean keep n st = st') : Lp X base N keep b n (m + 1) st r := by
  obtain ⟨K, h⟩ := h
  refine ⟨K, fun k hk => ?_⟩
  have := h k hk
  simp only at this
  rw [← hc] at this
  unfold loopN
  exact this

/- A loop of a function, by its number among the function's loops. -/
def loopsOf : AC → List (List Nat × AC)
  | .seq a b => loopsOf a ++ loopsOf b
  | .cond _ a b => loopsOf a ++ loopsOf b
  | .block _ b => loopsOf b
  | .loop k b => (k, b) :: loopsOf b
  | _ => []
def acOf (X : Ctx) (f : FuncId) : AC :=
  match X.P.funcs[f]? with
  | some fn => match fn.body with
    | some c => annotFn fn c
    | none => .bad
  | none => .bad
def ntOf (X : Ctx) (f : FuncId) : Nat :=
  match X.P.funcs[f]? with
  | some fn => fn.ntmps
  | none => 0
def lpKeep (X : Ctx) (f i : Nat) : List Nat := ((loopsOf (acOf X f)).getD i ([], .bad)).1
def lpBody (X : Ctx) (f i : Nat) : AC := ((loopsOf (acOf X f)).getD i ([], .bad)).2

theorem Lp.next {X : Ctx} {base N : Nat} {keep : List Nat} {b : AC} {n m : Nat} {st st1 : St} {r : Ex × St} (h1 : Rd X base N b (clean keep n st) (.nrm, st1)) (h2 : Lp X base N keep b n m st1 r) : Lp X base N keep b n (m + 1) st r := by
  obtain ⟨K1, h1⟩ := h1
  obtain ⟨K2, h2⟩ := h2
  exact ⟨K1 + K2, fun k hk => by simp only [loopN, h1 k (by omega)]; exact h2 k (by omega)⟩

theorem Lp.last {X : Ctx} {base N : Nat} {keep : List Nat} {b : AC} {n m : Nat} {st st1 : St} {e : Ex} (h1 : Rd X base N b (clean keep n st) (e, st1)) (he : e ≠ .nrm) : Lp X base N keep b n (m + 1) st (e, st1) := by
  obtain ⟨K1, h1⟩ := h1
  refine ⟨K1, fun k hk => ?_⟩
  have := h1 k (by omega)
  simp only at this
  simp only [loopN, this]
  cases e with
  | nrm => exact (he rfl).elim
  | _ => rfl

/-- What a call on boxes answers and leaves. -/
def AnsI (X : Ctx) (f : FuncId) (args : List V) (h : List Ob) (v : V) (h' : List Ob) : Prop := Ev X fun call => (args.all V.pure = true → call.p f args = none) ∧ call.i f args h = some (v, h')
theorem AnsB.toI {X : Ctx} {f : FuncId} {args : List V} {h : List Ob} {v : V} {h' : List Ob} {v2 : V} {h2 : List Ob} (hb : AnsB X f args h v h') (hp : args.all V.pure = false) (e : (if v.pure then (v, h'.take h.length) else (v, h')) = (v2, h2)) : AnsI X f args h v2 h2 := by
  have := AnsB.calli hb hp
  rw [e] at this
  exact this
theorem AnsB.to {X : Ctx} {f : FuncId} {args : List V} {h : List Ob} {v : V} {h' : List Ob} {v2 : V} {h2 : List Ob} (hb : AnsB X f args h v h') (e : (v, h') = (v2, h2)) : AnsB X f args h v2 h2 := by
  cases e
  exact hb

theorem cleanAll {keep : List Nat} {n : Nat} {st : St} (hn : n = st.h.length) : clean keep n st = ⟨keepS keep st.s, st.h, []⟩ := by
  unfold clean
  simp only
  split
  · rw [hn, List.take_length]
  · rfl
theorem pC2 {X : Ctx} {base N : Nat} {keep : List Nat} {b : AC} {n : Nat} {st st1 st' : St} (d : Nat) (os : List (Nat × What)) {cs : List Fact} (hc : Evs X cs) (hr : outR (execG X (callG X FUEL d) base N FUEL b st ⟨0, false, os, []⟩) = some ((.nrm, st1), [], cs)) (hn : n = st1.h.length) (e : (⟨keepS keep st1.s, st1.h, []⟩ : St) = st') : RdC X base N keep b n st st' := by
  obtain ⟨K, hK⟩ := (pR d os hc hr : Rd X base N b st (.nrm, st1))
  exact ⟨K, fun k hk => ⟨st1, hK k hk, (cleanAll hn).trans e⟩⟩
end Go.Proofs.YtpbhfbphefmchaaDoor.Pv.G
/- Pv: the seat's program (Compare): the table of bounds is known; strings.genSplit answers by its contract. -/
set_option linter.unusedVariables false
set_option linter.unusedSimpArgs false
namespace Go.Proofs.YtpbhfbphefmchaaDoor.Pv
open Go Go.RowKit

def globMost : List Int := [127, 2047, 65535, 1114111]
def i32D (l : List Int) : List D := l.map fun z => .int .i32 z
/-- The pieces of a text, each with what ends it. -/
def piecesOf (s : List UInt8) (c : UInt8) : List (List UInt8) := (Lib.splitB ⟨#[c]⟩ 1 (Lib.countB ⟨s.toArray⟩ ⟨#[c]⟩) ⟨s.toArray⟩).map fun b => b.data.toList
def extSplit : List D → Option V
  | [.str s, .str [c], .int .i64 sv, .int .i64 n] => if s.length ≤ 1000000 ∧ sv = 1 ∧ n = -1 then some (.d (.sl ((piecesOf s c).map .str) (Lib.countB ⟨s.toArray⟩ ⟨#[c]⟩ + 1))) else none
  | _ => none
def ext0 (f : FuncId) : Option (List D → Option V) :=
  if f = 36 then some extSplit else none
def glob0 (k : Nat) : Option (List D) := if k = 0 then some (i32D globMost) else none
noncomputable def X0 : Ctx := ⟨Tryd.prog, glob0, ext0, fun _ => false, [1], fun _ => none⟩

theorem ext0_iok : ExtIOk X0 := fun f F h => by cases h
theorem ext0_pure : ExtPure X0 := by
  intro f F hF ds y hy
  simp only [X0, ext0] at hF
  split at hF
  · cases hF; unfold extSplit at hy; split at hy <;> try (cases hy; done)
    split at hy <;> cases hy; rfl
  · cases hF

theorem keep_below {g : Gh} {w w' : World} (hf : Fresh g w) (h : Below w.heap.size w w') : Keep g w g w' where
  os := h.os
  tape := h.tape
  output := h.output
  size := h.size
  block := h.block
  own := fun _ _ => rfl
  e := fun _ _ => rfl
  μ := fun _ _ k => k
  pin := rfl
  μeq := rfl
  fresh := fun b hb => hf b (Nat.le_trans h.size hb)

theorem ptd1 {w : World} {e : Nat → Nat} {vs : List Value} {a : D} (h : PtD w e vs [a]) : ∃ u, vs = [u] ∧ RepD w e u a := by
  obtain ⟨hl, hr⟩ := h
  match vs, hl with
  | [u], _ => exact ⟨u, rfl, hr 0 u a rfl rfl⟩
theorem ptd2 {w : World} {e : Nat → Nat} {vs : List Value} {a b : D} (h : PtD w e vs [a, b]) : ∃ u v, vs = [u, v] ∧ RepD w e u a ∧ RepD w e v b := by
  obtain ⟨hl, hr⟩ := h
  match vs, hl with
  | [u, v], _ => exact ⟨u, v, rfl, hr 0 u a rfl rfl, hr 1 v b rfl rfl⟩
theorem ptd3 {w : World} {e : Nat → Nat} {vs : List Value} {a b c : D} (h : PtD w e vs [a, b, c]) : ∃ u v x, vs = [u, v, x] ∧ RepD w e u a ∧ RepD w e v b ∧ RepD w e x c := by
  obtain ⟨hl, hr⟩ := h
  match vs, hl with
  | [u, v, x], _ => exact ⟨u, v, x, rfl, hr 0 u a rfl rfl, hr 1 v b rfl rfl, hr 2 x c rfl rfl⟩

theorem glob_int {w : World} {g : Gh} (hg : GlobOk X0 w g) : ∃ m : Int, w.cell? ⟨1, 0, none⟩ = some (.int .i64 m) := by
  obtain ⟨ms, h⟩ := hg.get
  obtain ⟨vals, h1, _, h3⟩ := h 1 [.int .i64 (ms 1)] (.inr ⟨by simp [X0], rfl⟩)
  obtain ⟨u, rfl, hu⟩ := ptd1 h1
  cases hu
  exact ⟨_, h3 0 _ rfl⟩
theorem run_of {f : FuncId} {fn : Func} (h1 : Tryd.prog.funcs[f]? = some fn) (h2 : (fn.name == "runtime.NumGoroutine") = false) {c : Code} (h3 : fn.body = some c) {Q : Prop} (q : Q) : ∃ fn, X0.P.funcs[f]? = some fn ∧ (fn.name == "runtime.NumGoroutine") = false ∧ ((∃ c, fn.body = some c) ∧ Q) := ⟨fn, h1, h2, ⟨c, h3⟩, q⟩

theorem ptd4 {w : World} {e : Nat → Nat} {vs : List Value} {a b c d : D} (h : PtD w e vs [a, b, c, d]) : ∃ u v x y, vs = [u, v, x, y] ∧ RepD w e u a ∧ RepD w e v b ∧ RepD w e x c ∧ RepD w e y d := by
  obtain ⟨hl, hr⟩ := h
  match vs, hl with
  | [u, v, x, y], _ => exact ⟨u, v, x, y, rfl, hr 0 u a rfl rfl, hr 1 v b rfl rfl, hr 2 x c rfl rfl, hr 3 y d rfl rfl⟩
theorem ext_split {w : World} {g : Gh} {vargs : List Value} {ds : List D} {y : V} (hy : extSplit ds = some y) (hf : Fresh g w) (hg : GlobOk X0 w g) (hp : PtD w g.e vargs ds) (p : Own) :
    Calls Tryd.prog 36 ⟨vargs⟩ w fun E w' => ∃ v g', E = .returned v ∧ Keep g w g' w' ∧ RepV X0 w' g' p v y := by
  unfold extSplit at hy
  split at hy
  · rename_i s c sv n
    split at hy
    · rename_i hl
      obtain ⟨hl, rfl, rfl⟩ := hl
      cases hy
      obtain ⟨u, v, x, y, rfl, hu, hv, hx, hy⟩ := ptd4 hp
      cases hu; cases hv; cases hx; cases hy
      obtain ⟨m, hm⟩ := glob_int hg
      have hs : (⟨s.toArray⟩ : ByteArray).size = s.length := by simp [ByteArray.size]
      have hle := Lib.countB_le (⟨#[c]⟩ : ByteArray) (by simp [ByteArray.size]) (⟨s.toArray⟩ : ByteArray).size ⟨s.toArray⟩ (Nat.le_refl _)
      have hlenB := Lib.splitB_all (⟨#[c]⟩ : ByteArray) (by simp [ByteArray.size]) 1 (Lib.countB ⟨s.toArray⟩ ⟨#[c]⟩) ⟨s.toArray⟩ rfl
      refine (Tryd.strings_genSplit ⟨s.toArray⟩ ⟨#[c]⟩ 1 (-1) (Lib.countB ⟨s.toArray⟩ ⟨#[c]⟩ + 1) m w (by rw [hs]; omega) hm (by simp [ByteArray.size]) (by simp [ByteArray.size]) (by decide) (by decide) (by rw [if_pos (by decide)]; omega)).mono fun E w' ⟨he, hw⟩ => ?_
      rw [Nat.add_sub_cancel, hlenB] at he
      rw [Nat.add_sub_cancel] at hw
      have e2 : Lib.cellsOf (Lib.splitB ⟨#[c]⟩ 1 (Lib.countB ⟨s.toArray⟩ ⟨#[c]⟩) ⟨s.toArray⟩) (Lib.countB ⟨s.toArray⟩ ⟨#[c]⟩ + 1) = ((Lib.splitB ⟨#[c]⟩ 1 (Lib.countB ⟨s.toArray⟩ ⟨#[c]⟩) ⟨s.toArray⟩).map Value.string).toArray := by
        have := Lib.cellsOf_full (Lib.splitB (⟨#[c]⟩ : ByteArray) 1 (Lib.countB ⟨s.toArray⟩ ⟨#[c]⟩) ⟨s.toArray⟩)
        rwa [hlenB] at this
      rw [e2] at hw
      subst hw
      have hlen : ((Lib.splitB ⟨#[c]⟩ 1 (Lib.countB ⟨s.toArray⟩ ⟨#[c]⟩) ⟨s.toArray⟩).map Value.string).length = (piecesOf s c).length := by simp [piecesOf]
      have hk := keep_row (w1 := w) (q := .free) hf rfl rfl rfl rfl (.cells ((Lib.splitB ⟨#[c]⟩ 1 (Lib.countB ⟨s.toArray⟩ ⟨#[c]⟩) ⟨s.toArray⟩).map Value.string).toArray 9) (piecesOf s c).length
      refine ⟨_, g.row w.heap.size (piecesOf s c).length .free, he, hk, .d _ _ _ (.sl _ 0 _ _ _ ((Lib.splitB ⟨#[c]⟩ 1 (Lib.countB ⟨s.toArray⟩ ⟨#[c]⟩) ⟨s.toArray⟩).map Value.string) (Nat.le_refl _) (by simpa using hlen) (by simp [Gh.row]) (fun j v hj => ?_) (fun j v d h1 h2 => ?_))⟩
      · rw [Nat.zero_add, cell_of_heap (heap_alloc_new w _)]
        simpa using hj
      · rw [List.getElem?_map] at h1
        simp only [piecesOf, List.map_map] at h2
        rw [List.getElem?_map] at h2
        cases hb : (Lib.splitB ⟨#[c]⟩ 1 (Lib.countB ⟨s.toArray⟩ ⟨#[c]⟩) ⟨s.toArray⟩)[j]? with
        | none => rw [hb] at h1; cases h1
        | some b => rw [hb] at h1 h2; cases h1; cases h2; exact .str b.data.toList
    · cases hy
  · cases hy
theorem ext0_ok : ExtOk X0 := by
  intro f F hF ds y hy w g vargs hf hg hp p hpos
  simp only [X0, ext0] at hF
  split at hF
  · rename_i hfe; subst hfe; cases hF; exact run_of Tryd.func36 (by kernel_rfl) rfl (ext_split hy hf hg hp p)
  · cases hF
end Go.Proofs.YtpbhfbphefmchaaDoor.Pv
/- Pv: from a run that answers true to what a statement asks of a call. -/
set_option linter.unusedSimpArgs false
set_option linter.unusedVariables false
namespace Go.Proofs.YtpbhfbphefmchaaDoor.Pv
open Go Go.ChangeShapes Go.WideShapes Go.RowKit

theorem Keep.below {g g' : Gh} {w w' : World} (k : Keep g w g' w') : Below w.heap.size w w' := ⟨k.os, k.tape, k.output, k.size, k.block⟩

/-- How much of each block there is. -/
def fullE (W : World) : Nat → Nat := fun b => match W.heap[b]? with
  | some (.cells c _ _) => c.size
  | _ => 0

def topG (W : World) : Gh := { μ := [], e := fullE W, own := fun b => if b < W.heap.size then .fgn else .free, pin := ⟨[], fun _ => False⟩ }

theorem law_calls {fuel k : Nat} {f : FuncId} {vs : List V} {vargs : List Value} {b : Bool} (run : (callN X0 fuel k).p f vs = some (.d (.bool b))) (hp : vs.all V.pure = true) {W : World} (hg : GlobOk X0 W (topG W)) (hr : PtV X0 W (topG W) vargs vs) :
    Calls Tryd.prog f ⟨vargs⟩ W fun E W' => E = .returned (.bool b) ∧ Below W.heap.size W W' := by
  have hf : Fresh (topG W) W := fun b hb => ⟨by simp only [topG]; rw [if_neg (by omega)], by simp only [topG, fullE]; rw [Array.getElem?_eq_none hb]⟩
  obtain ⟨fn, _, _, _, hc⟩ := (callN_ok (X := X0) (fun _ => rfl) ext0_ok ext0_pure ext0_iok fuel k).1 f vs _ run hp W (topG W) vargs hf hg hr (.slot 0) ⟨0, 0, 0, .inl rfl⟩
  refine hc.mono ?_
  rintro E w' ⟨v, g', rfl, hk, hv⟩
  refine ⟨?_, hk.below⟩
  cases hv with | d _ _ _ hv => cases hv; rfl

/-- 'post_of_same' where new blocks may have come. -/
theorem post_of_below {H : Type} {enc : TypeId × Value → H} {P : Program} {f : Func} {s : ChangeSpec} {apart fresh handsOn again : Bool} {W W' : World} {args : Array Value} {v : Value} {ds gs : List (DataW H)} {before pa pv : List MemPlace}
    (hW : DataW.Whole enc P f.params.toList s.vars apart W args.toList ds gs before)
    (hres : ∀ (b : Nat) (sp : Nat → Bool) (hd : Bool), DataW.TrodAll enc P W' b sp hd f.resultTypes.toList (v.resultList f.resultTypes.size) (s.fn H (ds ++ gs)).results [])
    (hargs : ∀ sp : Nat → Bool, (∀ p ∈ before, sp p.block = true) → DataW.TrodAll enc P W' 0 sp true f.params.toList args.toList (s.fn H (ds ++ gs)).args pa)
    (hvars : ∀ sp : Nat → Bool, (∀ p ∈ before, sp p.block = true) → DataW.TrodVars enc P W' sp s.vars (s.fn H (ds ++ gs)).vars pv)
    (hps : before = pa ++ pv) (hb : Below W.heap.size W W')
    (hok : ∀ (j : Nat) (t : TypeId) (r : Value), f.resultTypes[j]? = some t → (v.resultList f.resultTypes.size)[j]? = some r → Value.okWide P W' .any 0 t r) :
    s.post enc P f apart fresh handsOn again W args v W' := by
  have hold : ∀ p ∈ before, (fun b => decide (b < W.heap.size)) p.block = true := fun p hp => by simpa using hW.lt p hp
  have hlt := hW.lt
  refine ⟨ds, gs, before, [], pa, pv, hW, hres _ _ _, hargs _ hold, hvars _ hold, World.keptBut_mono (fun p hp => ⟨hp, ?_⟩) (hb.frame (· ∈ before)), fun _ => ?_⟩
  · rw [hps, List.mem_append] at hp
    exact Or.inr hp
  · obtain ⟨_, _, _, _, _, hz, hn⟩ := hW
    refine ⟨hok, _, _, ([] ++ pa) ++ pv, ⟨[] ++ pa, pv, trodAll_append (hargs _ (fun _ _ => rfl)) (hres _ _ _), hvars _ (fun _ _ => rfl), rfl, ?_, ?_⟩, ?_⟩
    · intro b off hp
      have hp' : MemPlace.cell b off ∈ before := by rw [hps]; simpa using hp
      rw [hb.frozen (p := ⟨b, off, none⟩) (hlt _ hp')]
      exact hz b off hp'
    · intro ha
      have := hn ha
      rw [hps] at this
      simpa using this
    · intro p hp _
      rw [hps]
      simpa using hp

end Go.Proofs.YtpbhfbphefmchaaDoor.Pv
/- Pv: arguments that are structs of whole numbers. -/
set_option linter.unusedSimpArgs false
set_option linter.unusedVariables false
namespace Go.Proofs.YtpbhfbphefmchaaDoor.Pv
open Go Go.ChangeShapes Go.WideShapes Go.RowKit

/-- Whole numbers side by side. -/
def intsV (ns : List Int) : Value := .agg (ns.map (Value.int .i64)).toArray
def intsD (ns : List Int) : V := .d (.agg (ns.map (D.int .i64)))
def in64 (n : Int) : Prop := -9223372036854775808 ≤ n ∧ n ≤ 9223372036854775807

theorem intsV_rep {X : Ctx} {W : World} {g : Gh} {q : Own} (ns : List Int) : RepV X W g q (intsV ns) (intsD ns) := by
  refine .d _ _ _ (.agg _ _ (by simp) fun j v d h1 h2 => ?_)
  simp only [List.getElem?_map] at h1 h2
  cases hn : ns[j]? with
  | none => rw [hn] at h1; cases h1
  | some n => rw [hn] at h1 h2; cases h1; cases h2; exact .int _ _

section
variable {H : Type} {enc : TypeId × Value → H} {P : Program} {w : World} {base b0 : Nat} {spare : Nat → Bool} {held : Bool}

/-- A struct whose fields are ints. -/
theorem open_ints {r : Reach} {t : TypeId} {fs : Array Field} {v : Value} {d : DataW H} {ps : List MemPlace} (ht : P.underlying t = some (.struct fs)) (hn : P.cellsOf t = fs.size)
    (hf : ∀ (i : Nat) (f : Field), fs[i]? = some f → f.offset = i ∧ P.underlying f.type = some (.int .i64) ∧ P.cellsOf f.type = 1)
    (hval : Value.okWide P w r b0 t v) (hd : DataW.Trod enc P w base spare held t v d ps) : ∃ ns : List Int, ns.length = fs.size ∧ v = intsV ns ∧ (∀ n ∈ ns, in64 n) := by
  obtain ⟨cs, rfl, hs⟩ := okWide_struct ht hval
  obtain ⟨fuel, h⟩ := hd
  obtain ⟨xs, n, _, _, hl, hlen, hx⟩ := DataW.trod_struct ht h
  have each : ∀ i, i < fs.size → ∃ z : Int, cs[i]? = some (.int .i64 z) ∧ in64 z := by
    intro i hi
    have hfi : fs[i]? = some fs[i] := Array.getElem?_eq_getElem hi
    obtain ⟨h1, h2, h3⟩ := hf i _ hfi
    have h4 := hx i _ hfi
    rw [h1, h3] at h4
    have hxi : xs[i]? = some (xs[i]'(by omega)) := List.getElem?_eq_getElem _
    rw [hxi] at h4
    obtain ⟨z, h5, _, h6⟩ := DataW.trod_int h2 h4
    have hci : i < cs.size := by omega
    refine ⟨z, ?_, bounds_i64 h6⟩
    have h7 : ((Value.agg cs).cells.toList.drop i).take 1 = [cs[i]] := by
      simp only [Value.cells]
      rw [List.drop_eq_getElem_cons (by simpa using hci)]
      simp
    rw [h7] at h5
    rw [Array.getElem?_eq_getElem hci]
    simpa using h5
  have all : ∀ k, k ≤ fs.size → ∃ ns : List Int, ns.length = k ∧ cs.toList.take k = ns.map (Value.int .i64) ∧ ∀ n ∈ ns, in64 n := by
    intro k
    induction k with
    | zero => intro _; exact ⟨[], rfl, by simp, by simp⟩
    | succ k ih =>
      intro hk
      obtain ⟨ns, h1, h2, h3⟩ := ih (by omega)
      obtain ⟨z, h4, h5⟩ := each k (by omega)
      refine ⟨ns ++ [z], by simp [h1], ?_, fun n hn => ?_⟩
      · rw [List.take_add_one, h2]
        simp [h4]
      · rw [List.mem_append] at hn
        rcases hn with hn | hn
        · exact h3 n hn
        · simp at hn; subst hn; exact h5
  obtain ⟨ns, h1, h2, h3⟩ := all fs.size (Nat.le_refl _)
  refine ⟨ns, h1, ?_, h3⟩
  rw [List.take_of_length_le (by simp; omega)] at h2
  unfold intsV
  rw [← h2]
/-- Is it a struct of n ints? -/
def intsT (P : Program) (t : TypeId) (n : Nat) : Bool :=
  match P.underlying t with
  | some (.struct fs) => fs.size == n && P.cellsOf t == n && fs.toList.zipIdx.all fun x => x.1.offset == x.2 && (match P.underlying x.1.type with | some (.int .i64) => true | _ => false) && P.cellsOf x.1.type == 1
  | _ => false

theorem open_intsT {r : Reach} {t : TypeId} {n : Nat} {v : Value} {d : DataW H} {ps : List MemPlace} (ht : intsT P t n = true)
    (hval : Value.okWide P w r b0 t v) (hd : DataW.Trod enc P w base spare held t v d ps) : ∃ ns : List Int, ns.length = n ∧ v = intsV ns ∧ (∀ n ∈ ns, in64 n) := by
  unfold intsT at ht
  split at ht
  · rename_i fs hu
    simp only [Bool.and_eq_true, beq_iff_eq] at ht
    obtain ⟨⟨h1, h2⟩, h3⟩ := ht
    subst h1
    refine open_ints hu h2 (fun i f hf => ?_) hval hd
    have hm : (f, i) ∈ fs.toList.zipIdx := by rw [List.mem_zipIdx_iff_getElem?]; simpa using hf
    have := List.all_eq_true.1 h3 _ hm
    simp only [Bool.and_eq_true, beq_iff_eq] at this
    refine ⟨this.1.1, ?_, this.2⟩
    have h4 := this.1.2
    split at h4
    · assumption
    · cases h4
  · cases ht
end

end Go.Proofs.YtpbhfbphefmchaaDoor.Pv
/- Pv: whole numbers of 64 bits; the end of a path. -/
set_option linter.unusedSimpArgs false
set_option linter.unusedVariables false
namespace Go.Proofs.YtpbhfbphefmchaaDoor.Pv
open Go G

abbrev bt : G.What := .b true
abbrev bf : G.What := .b false

theorem wrapI (n : Int) : IntKind.wrap .i64 n = (n + 9223372036854775808) % 18446744073709551616 - 9223372036854775808 := by
  simp [IntKind.wrap, IntKind.bits, IntKind.signed]
  split <;> omega
theorem wrapId (n : Int) (h1 : -9223372036854775808 ≤ n) (h2 : n ≤ 9223372036854775807) : IntKind.wrap .i64 n = n := by rw [wrapI]; omega
theorem tdivNn (n m : Int) (h : 0 ≤ n) : Int.tdiv n m = n / m := Int.tdiv_eq_ediv_of_nonneg h
theorem iteMax (a b : Int) : (if b > a then b else a) = max a b := by split <;> omega
theorem iteMin (a b : Int) : (if b < a then b else a) = min a b := by split <;> omega
theorem bEq {a b : Bool} (h : a = b) : V.d (.bool a) = V.d (.bool b) := by rw [h]
theorem quoV {X : Ctx} {t : TypeId} {k : IntKind} {a b : Int} (ht : X.P.underlying t = some (.int k)) (h : b ≠ 0) : binV X .quo t (.d (.int .i64 a)) (.d (.int .i64 b)) = some (.d (.int .i64 (IntKind.wrap .i64 (a.tdiv b)))) := by
  have e : pureRun X.P (execOp (fun z => (((two2 (.d (.int .i64 a)) (.d (.int .i64 b)) z).toD).bind D.toVal).getD undef) ⟨none, .binOp .quo t (.tmp 0) (.tmp 1) t, t, "", #[], none⟩) = some (.value (.int .i64 (IntKind.wrap .i64 (a.tdiv b)))) := by
    unfold execOp
    simp only [two2, V.toD, Option.bind_some, D.toVal, Option.getD_some]
    unfold eqGuard binOp
    simp only
    unfold Op.intDiv
    rw [if_neg h]
    rfl
  unfold binV valOp
  simp only [two2]
  have e1 : unlike X.P t (.d (.int .i64 a)) (.d (.int .i64 b)) = false := by unfold unlike; rw [ht]
  rw [e1]
  simp only [eqOp]
  unfold pureOp
  rw [e]
  rfl
theorem quoI {a b : Int} (h : b ≠ 0) : binV X0 .quo 3 (.d (.int .i64 a)) (.d (.int .i64 b)) = some (.d (.int .i64 (IntKind.wrap .i64 (a.tdiv b)))) := quoV (k := .i64) (by kernel_rfl) h
end Go.Proofs.YtpbhfbphefmchaaDoor.Pv
/- Pv: a context above another one: its functions answer what is known of them below, and some more are answered by contracts. -/
set_option linter.unusedSimpArgs false
set_option linter.unusedVariables false
namespace Go.Proofs.YtpbhfbphefmchaaDoor.Pv.G
open Go Pv

theorem Ans.uniq {X : Ctx} {f : FuncId} {a : List V} {v u : V} (h : Ans X f a v) (k : Ans X f a u) : v = u := by
  obtain ⟨K, h⟩ := h
  obtain ⟨L, k⟩ := k
  have h1 := h (K + L) (by omega)
  have h2 := k (K + L) (by omega)
  exact Option.some.inj (h1.symm.trans h2)

open Classical in
/-- What is known below. -/
noncomputable def upF (X : Ctx) (f : FuncId) (ds : List D) : Option V :=
  if h : ∃ y : V, y.pure = true ∧ Ans X f (ds.map V.d) y then some (Classical.choose h) else none

/-- 'off': functions that are run. -/
noncomputable def up (X : Ctx) (off : FuncId → Bool) (extra : FuncId → Option (List D → Option V)) : Ctx :=
  ⟨X.P, X.glob, fun f => if off f = true then none else match extra f with
    | some F => some F
    | none => some (upF X f), fun _ => false, X.ints, fun _ => none⟩

theorem toDs_map (ds : List D) : toDs (ds.map V.d) = some ds := by
  induction ds with
  | nil => rfl
  | cons d ds ih => simp only [List.map_cons, toDs, V.toD, ih]

theorem pure_map (ds : List D) : (ds.map V.d).all V.pure = true := by
  induction ds with
  | nil => rfl
  | cons d ds ih => simp only [List.map_cons, List.all_cons, ih]; rfl

theorem ansOfExt {X : Ctx} {f : FuncId} {F : List D → Option V} {ds : List D} {v : V} (hF : X.ext f = some F) (hv : F ds = some v) (hp : v.pure = true) : Ans X f (ds.map V.d) v :=
  ⟨1, fun k hk => by
    obtain ⟨k, rfl⟩ : ∃ x, k = x + 1 := ⟨k - 1, by omega⟩
    show (match runP X (callN X FUEL k) FUEL f (ds.map V.d) with | some (v, _) => if v.pure then some v else none | none => none) = some v
    unfold runP
    rw [hF]
    simp only [toDs_map, hv, Option.map_some, hp, if_true]⟩

theorem ansUp {X : Ctx} {off : FuncId → Bool} {extra : FuncId → Option (List D → Option V)} {f : FuncId} {ds : List D} {v : V} (ho : off f = false) (he : extra f = none) (hv : v.pure = true) (h : Ans X f (ds.map V.d) v) : Ans (up X off extra) f (ds.map V.d) v := by
  refine ansOfExt (F := upF X f) ?_ ?_ hv
  · simp only [up, ho, he, Bool.false_eq_true, if_false]
  · unfold upF
    have hx : ∃ y : V, y.pure = true ∧ Ans X f (ds.map V.d) y := ⟨v, hv, h⟩
    rw [dif_pos hx, (Classical.choose_spec hx).2.uniq h]

theorem RepV.ctx {X Y : Ctx} (hP : X.P = Y.P) {w : World} {g : Gh} {p : Own} {v : Value} {x : V} (r : RepV X w g p v x) : RepV Y w g p v x := by
  induction r with
  | d p v x r => exact .d p v x r
  | tail p E cells n b c cur z vals hz hz0 hb hn hm hcur hcl he ho hp hv hr => exact .tail p E cells n b c cur z vals (by rw [← hP]; exact hz) hz0 hb hn hm hcur hcl he ho hp hv hr
  | tail0 p E => exact .tail0 p E
  | full p b o cells n r => exact .full p b o cells n r
  | obj p id off b r => exact .obj p id off b r
  | osl p id off n c b r hn => exact .osl p id off n c b r hn
  | clo p fn va vb a b hla hlb _ _ iha ihb => exact .clo p fn va vb a b hla hlb iha ihb
  | agg p vals vs hl _ ih => exact .agg p vals vs hl ih
  | tup p vals vs hl _ ih => exact .tup p vals vs hl ih
  | mp p id b r => exact .mp p id b r
  | it p id b r => exact .it p id b r

theorem iaddrV_ctx {X Y : Ctx} (h : X.P = Y.P) (t : TypeId) (x i : V) : iaddrV X t x i = iaddrV Y t x i := by
  unfold iaddrV indexAddrOp
  rw [h]
theorem loadV_ctx {X Y : Ctx} (h : X.P = Y.P) (hp : List Ob) (t : TypeId) (p : V) : loadV X hp t p = loadV Y hp t p := by
  unfold loadV loadOp
  rw [h]
theorem binV_ctx {X Y : Ctx} (h : X.P = Y.P) (op : BinOp) (t : TypeId) (x y : V) : binV X op t x y = binV Y op t x y := by
  unfold binV valOp
  simp only
  unfold pureOp
  rw [h]

theorem ptv_of {X : Ctx} {w : World} {g : Gh} {vals : List Value} {ds : List D} (h : PtD w g.e vals ds) : PtV X w g vals (ds.map V.d) := by
  refine ⟨by simp [h.1], fun j v x h1 h2 => ?_⟩
  rw [List.getElem?_map] at h2
  cases hd : ds[j]? with
  | none => rw [hd] at h2; cases h2
  | some d => rw [hd] at h2; cases h2; exact .d _ _ _ (h.2 j v d h1 hd)

/-- What is asked of one such function. -/
def ExtOk1 (X : Ctx) (f : FuncId) (F : List D → Option V) : Prop :=
  ∀ ds y, F ds = some y → ∀ (w : World) (g : Gh) (vargs : List Value), Fresh g w → GlobOk X w g → PtD w g.e vargs ds → ∀ p, IsPos p →
    ∃ fn, X.P.funcs[f]? = some fn ∧ (fn.name == "runtime.NumGoroutine") = false ∧ ((∃ c, fn.body = some c) ∧ Calls X.P f ⟨vargs⟩ w fun E w' => ∃ v g', E = .returned v ∧ Keep g w g' w' ∧ RepV X w' g' p v y)

theorem extOk_up {X : Ctx} {off : FuncId → Bool} {extra : FuncId → Option (List D → Option V)} (hfz : ∀ t, X.frz t = X.frz t) (hx : ExtOk X) (hxp : ExtPure X) (hxi : ExtIOk X) (he : ∀ f F, extra f = some F → ExtOk1 X f F) : ExtOk (up X off extra) := by
  intro f F hF ds y hy w g vargs hf hg hp p hpos
  have hg' : GlobOk X w g := hg
  simp only [up] at hF
  split at hF
  · cases hF
  · split at hF
    · rename_i F' hF'
      cases hF
      obtain ⟨fn, k1, k2, k3, k4⟩ := he f _ hF' ds y hy w g vargs hf hg' hp p hpos
      exact ⟨fn, k1, k2, k3, k4.mono fun E w' ⟨v, g', a, b, c⟩ => ⟨v, g', a, b, RepV.ctx (X := X) (Y := up X off extra) rfl c⟩⟩
    · cases hF
      unfold upF at hy
      split at hy
      · rename_i h
        cases hy
        obtain ⟨h1, K, h2⟩ := Classical.choose_spec h
        obtain ⟨fn, k1, k2, k3, k4⟩ := (callN_ok hfz hx hxp hxi FUEL K).1 f (ds.map V.d) _ (h2 K (Nat.le_refl K)) (pure_map ds) w g vargs hf hg' (ptv_of hp) p hpos
        exact ⟨fn, k1, k2, k3, k4.mono fun E w' ⟨v, g', a, b, c⟩ => ⟨v, g', a, b, RepV.ctx (X := X) (Y := up X off extra) rfl c⟩⟩
      · cases hy

theorem extPure_up {X : Ctx} {off : FuncId → Bool} {extra : FuncId → Option (List D → Option V)} (he : ∀ f F, extra f = some F → ∀ ds y, F ds = some y → y.pure = true) : ExtPure (up X off extra) := by
  intro f F hF ds y hy
  simp only [up] at hF
  split at hF
  · cases hF
  · split at hF
    · rename_i F' hF'
      cases hF
      exact he f _ hF' ds y hy
    · cases hF
      unfold upF at hy
      split at hy
      · rename_i h
        cases hy
        exact (Classical.choose_spec h).1
      · cases hy

theorem extIOk_up {X : Ctx} {off : FuncId → Bool} {extra : FuncId → Option (List D → Option V)} : ExtIOk (up X off extra) := fun f F h => by cases h
end Go.Proofs.YtpbhfbphefmchaaDoor.Pv.G
/- Compare: the context in which tableOf answers too. -/
set_option linter.unusedVariables false
set_option linter.unusedSimpArgs false
namespace Go.Proofs.YtpbhfbphefmchaaDoor.Pv
open Go Go.RowKit Go.Proofs
def strsOf : List D → Option (List (List UInt8))
  | [] => some []
  | .str s :: ds => (strsOf ds).map (s :: ·)
  | _ => none
def cInts (l : List Int) : D := .sl (l.map fun z => .int .i64 z) l.length
def rowD (lb : Nat) (f : Nat → Int) : D := .sl ((List.range (lb + 1)).map fun j => .int .i64 (f j)) (lb + 1)
/-- The table of two texts' lines, as data. -/
def tableD (a b : List (List UInt8)) : D :=
  .ref [cInts (Cmp.numsK [] a), cInts (Cmp.numsK (Cmp.keysK [] a) b), .sl ((List.range (a.length + 1)).map fun i => rowD b.length fun j => (Cmp.cm a b i j : Int)) (a.length + 1)] 0
def okTexts (l : List (List UInt8)) (n : Nat) : Bool := l.length == n && decide (n ≤ 1000) && l.all fun s => decide (s.length ≤ 1000000)
def extTable : List D → Option V
  | [.sl ca na, .sl cb nb] => match strsOf ca, strsOf cb with
    | some a, some b => if okTexts a na && okTexts b nb then some (.d (tableD a b)) else none
    | _, _ => none
  | _ => none
abbrev fTable : FuncId := 24
noncomputable def X1 : Ctx := { X0 with ext := fun f => if f = fTable then some extTable else ext0 f }
theorem strsOf_map : ∀ {ds : List D} {l : List (List UInt8)}, strsOf ds = some l → ds = l.map D.str
  | [], l, h => by simp [strsOf] at h; subst h; rfl
  | .str s :: ds, l, h => by
    simp only [strsOf, Option.map_eq_some_iff] at h
    obtain ⟨l', h', rfl⟩ := h
    rw [strsOf_map h']; rfl
/-- All that is new is data from here on. -/
def Gh.full (g : Gh) (w W : World) : Gh := { g with e := fun b => if b < w.heap.size then g.e b else fullE W b }
theorem keep_full {g : Gh} {w W : World} (hf : Fresh g w) (h : Below w.heap.size w W) : Keep g w (g.full w W) W where
  os := h.os
  tape := h.tape
  output := h.output
  size := h.size
  block := h.block
  own := fun _ _ => rfl
  e := fun b hb => by simp only [Gh.full]; rw [if_pos hb]
  μ := fun _ _ k => k
  pin := rfl
  μeq := rfl
  fresh := fun b hb => ⟨(hf b (Nat.le_trans h.size hb)).1, by
    simp only [Gh.full]
    have := h.size
    rw [if_neg (by omega)]
    simp only [fullE]
    rw [Array.getElem?_eq_none hb]⟩
theorem full_e {g : Gh} {w W : World} {b : Nat} {cur : Array Value} {T : TypeId} {fz : Nat × Nat} (hb : W.heap[b]? = some (.cells cur T fz)) (h : w.heap.size ≤ b) : (g.full w W).e b = cur.size := by
  simp only [Gh.full]
  rw [if_neg (by omega)]
  simp only [fullE, hb]
theorem rep_ints {g : Gh} {w W : World} {v : Value} {zs : List Int} (h : W.ownsInts w.heap.size Cmp.tInt .i64 v zs) : RepD W (g.full w W).e v (cInts zs) := by
  rcases h.1.2 with ⟨e, h0⟩ | ⟨b, cap, cur, e, h1, h2, h3, h4, h5, h6⟩
  · subst e
    have : zs = [] := List.length_eq_zero_iff.1 h0
    subst this
    exact .sl0 none 0 fun _ => rfl
  · subst e
    refine .sl b 0 _ cap _ (zs.map (Value.int .i64)) h3 (by simp) ?_ ?_ ?_
    · rw [full_e h2 h1]; simp; omega
    · intro j v hj
      rw [Nat.zero_add, cell_of_heap h2]
      rw [← h6, List.getElem?_take] at hj
      split at hj
      · simpa using hj
      · cases hj
    · intro j v d q1 q2
      simp only [List.getElem?_map, Option.map_eq_some_iff] at q1 q2
      obtain ⟨z, hz, rfl⟩ := q1
      obtain ⟨z', hz', rfl⟩ := q2
      rw [hz] at hz'
      cases hz'
      exact .int _ _
theorem rep_row {g : Gh} {w W : World} {lb r : Nat} {f : Nat → Int} (h : W.heap[r]? = some (.cells (Cmp.rowCells lb f) Cmp.tInt)) (hr : w.heap.size ≤ r) : RepD W (g.full w W).e (Cmp.rowV lb r) (rowD lb f) := by
  refine .sl r 0 _ _ _ ((List.range (lb + 1)).map fun j => Value.int .i64 (f j)) (Nat.le_refl _) (by simp) ?_ ?_ ?_
  · rw [full_e h hr]; simp [Cmp.rowCells]
  · intro j v hj
    rw [Nat.zero_add, cell_of_heap h]
    simpa [Cmp.rowCells] using hj
  · intro j v d q1 q2
    simp only [List.getElem?_map, Option.map_eq_some_iff] at q1 q2
    obtain ⟨z, hz, rfl⟩ := q1
    obtain ⟨z', hz', rfl⟩ := q2
    rw [hz] at hz'
    cases hz'
    exact .int _ _
theorem strAt_of {w : World} {e : Nat → Nat} {v : Value} {ca : List D} {na : Nat} {a : List (List UInt8)} (h : RepD w e v (.sl ca na)) (hs : strsOf ca = some a) (hn : a.length = na) (he : ∀ b, w.heap.size ≤ b → e b = 0) :
    ∃ ad cap, v = .slice ad na cap ∧ Cmp.StrAt w ad w.heap.size a := by
  have hm := strsOf_map hs
  have hlen : ca.length = a.length := by rw [hm, List.length_map]
  cases h with
  | sl0 ad c hc =>
    refine ⟨ad, c, rfl, fun k hk => ?_⟩
    omega
  | sl b o _ c _ vals hnc hl hee hcc hr =>
    refine ⟨_, c, rfl, fun k hk => ⟨b, o, rfl, ?_, ?_, ?_⟩⟩
    · intro e0
      have := he b (by omega)
      rw [hlen] at hee
      omega
    · apply Classical.byContradiction
      intro h0
      have := he b (by omega)
      rw [hlen] at hee
      omega
    · have hk2 : k < vals.length := by rw [hl, hlen]; exact hk
      have hv : vals[k]? = some vals[k] := List.getElem?_eq_getElem hk2
      rw [hcc k _ hv]
      have := hr k vals[k] (.str (Cmp.ln a k)) hv (by
        rw [hm, List.getElem?_map, List.getElem?_eq_getElem hk]
        simp only [Option.map_some, Cmp.ln]
        rw [List.getD_eq_getElem?_getD, List.getElem?_eq_getElem hk]; rfl)
      generalize vals[k] = u at *
      cases this
      rfl
theorem ext1_pure : ExtPure X1 := by
  intro f F hF ds y hy
  simp only [X1] at hF
  split at hF
  · cases hF
    unfold extTable at hy
    split at hy <;> try (cases hy; done)
    split at hy <;> try (cases hy; done)
    split at hy <;> cases hy; rfl
  · exact ext0_pure f F hF ds y hy
theorem ext1_iok : ExtIOk X1 := fun f F h => by cases h
theorem ext_table {w : World} {g : Gh} {vargs : List Value} {ds : List D} {y : V} (hy : extTable ds = some y) (hf : Fresh g w) (hp : PtD w g.e vargs ds) (p : Own) :
    Calls Tryd.prog fTable ⟨vargs⟩ w fun E w' => ∃ v g', E = .returned v ∧ Keep g w g' w' ∧ RepV X1 w' g' p v y := by
  unfold extTable at hy
  split at hy <;> try (cases hy; done)
  rename_i ca na cb nb
  split at hy <;> try (cases hy; done)
  rename_i a b hsa hsb
  split at hy
  rotate_left
  · cases hy
  rename_i hok
  cases hy
  simp only [okTexts, Bool.and_eq_true, beq_iff_eq, decide_eq_true_eq, List.all_eq_true] at hok
  obtain ⟨⟨⟨ka1, ka2⟩, ka3⟩, ⟨kb1, kb2⟩, kb3⟩ := hok
  obtain ⟨u, v, rfl, hu, hv⟩ := ptd2 hp
  have he : ∀ b, w.heap.size ≤ b → g.e b = 0 := fun b hb => (hf b hb).2
  obtain ⟨ada, capa, rfl, sa⟩ := strAt_of hu hsa ka1 he
  obtain ⟨adb, capb, rfl, sb⟩ := strAt_of hv hsb kb1 he
  subst ka1
  subst kb1
  refine (Cmp.table_walk a.length b.length capa capb ada adb a b w rfl rfl ka2 kb2 ka3 kb3 (fun i j => Cmp.cm a b i j) (fun i j h => Cmp.cm_end a b i j h) (fun i j h1 h2 h3 => Cmp.cm_eq h1 h2 h3) (fun i j h1 h2 h3 => Cmp.cm_ne h1 h2 h3) (fun i j => by have := Cmp.cm_le a b i j; omega) sa sb).mono fun E W h => ?_
  obtain ⟨T, R, v1, v2, rfl, hb, hT, eT, eC, hR, hRge, rows, i1, i2⟩ := h
  refine ⟨_, g.full w W, rfl, keep_full hf hb, .d _ _ _ ?_⟩
  refine RepD.ref (w := W) T 0 0 _ [v1, v2, .slice (some ⟨T + 1, 0, none⟩) (a.length + 1) (a.length + 1)] rfl ?_ ?_ ?_
  · rw [full_e eT hT]; exact Nat.le_refl _
  · intro j x hj
    rw [Nat.zero_add, cell_of_heap eT]
    simpa using hj
  · intro j x d h1 h2
    match j, h1, h2 with
    | 0, h1, h2 => cases h1; cases h2; exact rep_ints i1
    | 1, h1, h2 => cases h1; cases h2; exact rep_ints i2
    | 2, h1, h2 =>
      cases h1; cases h2
      have hcc : Cmp.comCells a.length b.length R = ⟨R.map (Cmp.rowV b.length)⟩ := by
        unfold Cmp.comCells
        rw [hR]; simp
      refine .sl (T + 1) 0 _ _ _ (R.map (Cmp.rowV b.length)) (Nat.le_refl _) (by simp [hR]) ?_ ?_ ?_
      · rw [full_e eC (by omega), hcc]; simp [hR]
      · intro j x hj
        rw [Nat.zero_add, cell_of_heap eC, hcc]
        simpa using hj
      · intro j x d q1 q2
        simp only [List.getElem?_map, Option.map_eq_some_iff] at q1 q2
        obtain ⟨r, hr, rfl⟩ := q1
        obtain ⟨i, hi, rfl⟩ := q2
        have hij : i = j := by
          have h1 := (List.getElem?_eq_some_iff.1 hi).1
          rw [List.getElem?_eq_getElem h1] at hi
          simpa using hi.symm
        subst hij
        exact rep_row (rows i r hr) (hRge r (List.mem_of_getElem? hr))
theorem ext1_ok : ExtOk X1 := by
  intro f F hF ds y hy w g vargs hf hg hp p hpos
  have hg' : GlobOk X0 w g := hg
  simp only [X1] at hF
  split at hF
  · rename_i hfe
    subst hfe
    cases hF
    exact ⟨_, Tryd.func24, by kernel_rfl, ⟨_, rfl⟩, ext_table hy hf hp p⟩
  · obtain ⟨fn, k1, k2, k3, k4⟩ := ext0_ok f F hF ds y hy w g vargs hf hg' hp p hpos
    exact ⟨fn, k1, k2, k3, k4.mono fun E w' ⟨v, g', a, b, c⟩ => ⟨v, g', a, b, G.RepV.ctx (X := X0) (Y := X1) rfl c⟩⟩
theorem law_calls1 {f : FuncId} {vs : List V} {vargs : List Value} {b : Bool} (run : G.Ans X1 f vs (.d (.bool b))) (hp : vs.all V.pure = true) {W : World} (hg : GlobOk X0 W (topG W)) (hr : PtV X0 W (topG W) vargs vs) :
    Calls Tryd.prog f ⟨vargs⟩ W fun E W' => E = .returned (.bool b) ∧ Below W.heap.size W W' := by
  obtain ⟨K, hK⟩ := run
  have hf : Fresh (topG W) W := fun b hb => ⟨by simp only [topG]; rw [if_neg (by omega)], by simp only [topG, fullE]; rw [Array.getElem?_eq_none hb]⟩
  have hr' : PtV X1 W (topG W) vargs vs := ⟨hr.1, fun j v x a b => G.RepV.ctx (X := X0) (Y := X1) rfl (hr.2 j v x a b)⟩
  have hg2 : GlobOk X1 W (topG W) := hg
  obtain ⟨fn, _, _, _, hc⟩ := (callN_ok (X := X1) (fun _ => rfl) ext1_ok ext1_pure ext1_iok G.FUEL K).1 f vs _ (hK K (Nat.le_refl K)) hp W (topG W) vargs hf hg2 hr' (.slot 0) ⟨0, 0, 0, .inl rfl⟩
  refine hc.mono ?_
  rintro E w' ⟨v, g', rfl, hk, hv⟩
  refine ⟨?_, hk.below⟩
  cases hv with | d _ _ _ hv => cases hv; rfl
end Go.Proofs.YtpbhfbphefmchaaDoor.Pv
/- Pv: plain Go types, their values in Lean, and arguments of such types. -/
set_option linter.unusedSimpArgs false
set_option linter.unusedVariables false
namespace Go.Proofs.YtpbhfbphefmchaaDoor.Pv
open Go Go.ChangeShapes Go.WideShapes Go.RowKit

/-- 'st': a struct; its fields: 'cons' and 'nil'. -/
inductive Ty where
  | int (k : IntKind)
  | bool
  | str
  | sl (e : Ty)
  | st (b : Ty)
  | nil
  | cons (a b : Ty)

@[reducible] def Ty.ty : Ty → Type
  | .int _ => Int
  | .bool => Bool
  | .str => List UInt8
  | .sl e => List e.ty
  | .st b => b.ty
  | .nil => Unit
  | .cons a b => a.ty × b.ty

def Ty.size : Ty → Nat
  | .int _ | .bool | .str | .sl _ => 1
  | .st b => b.size
  | .nil => 0
  | .cons a b => a.size + b.size

def Ty.enc : (T : Ty) → T.ty → List D
  | .int k, n => [.int k n]
  | .bool, b => [.bool b]
  | .str, s => [.str s]
  | .sl e, l => [.sl (l.flatMap e.enc) l.length]
  | .st b, x => b.enc x
  | .nil, _ => []
  | .cons a b, x => a.enc x.1 ++ b.enc x.2

def Ty.ok : (T : Ty) → T.ty → Prop
  | .int k, n => (Lit.int k n).wf = true
  | .bool, _ => True
  | .str, s => s.length ≤ reachBytes
  | .sl e, l => l.length ≤ reachBytes ∧ ∀ x ∈ l, e.ok x
  | .st b, x => b.ok x
  | .nil, _ => True
  | .cons a b, x => a.ok x.1 ∧ b.ok x.2

/-- Is it such a type? Are these such fields, from an offset on? -/
def Ty.chk (P : Program) : Ty → (TypeId → Bool) × (List Field → Nat → Bool)
  | .int k => (fun t => (match P.underlying t with | some (.int k') => k' == k | _ => false) && P.cellsOf t == 1, fun _ _ => false)
  | .bool => (fun t => (match P.underlying t with | some .bool => true | _ => false) && P.cellsOf t == 1, fun _ _ => false)
  | .str => (fun t => (match P.underlying t with | some .string => true | _ => false) && P.cellsOf t == 1, fun _ _ => false)
  | .sl e => (fun t => (match P.underlying t with | some (.slice te) => (e.chk P).1 te && P.cellsOf te == e.size && e.size != 0 && P.bytesOf te != 0 | _ => false) && P.cellsOf t == 1, fun _ _ => false)
  | .st b => (fun t => (match P.underlying t with | some (.struct fs) => (b.chk P).2 fs.toList 0 | _ => false) && P.cellsOf t == b.size, fun _ _ => false)
  | .nil => (fun _ => false, fun fs _ => fs.isEmpty)
  | .cons a b => (fun _ => false, fun fs off => match fs with
    | f :: fs => f.offset == off && P.cellsOf f.type == a.size && (a.chk P).1 f.type && (b.chk P).2 fs (off + a.size)
    | [] => false)

theorem Ty.enc_length : ∀ (T : Ty) (x : T.ty), (T.enc x).length = T.size
  | .int _, _ | .bool, _ | .str, _ | .sl _, _ | .nil, _ => rfl
  | .st b, x => Ty.enc_length b x
  | .cons a b, x => by simp only [Ty.enc, Ty.size, List.length_append, Ty.enc_length a, Ty.enc_length b]

theorem flat_len {α : Type} (f : α → List D) (z : Nat) (h : ∀ x, (f x).length = z) : ∀ l : List α, (l.flatMap f).length = l.length * z
  | [] => by simp
  | x :: l => by rw [List.flatMap_cons, List.length_append, h, flat_len f z h l, List.length_cons, Nat.add_mul]; omega

theorem PtD.append' {w : World} {e : Nat → Nat} {a b : List Value} {x y : List D} (h1 : PtD w e a x) (h2 : PtD w e b y) : PtD w e (a ++ b) (x ++ y) := h1.append h2

section
variable {H : Type} {enc : TypeId × Value → H} {P : Program} {W : World} {spare : Nat → Bool} {held : Bool}

def OpenC (H : Type) (enc : TypeId × Value → H) (P : Program) (W : World) (spare : Nat → Bool) (held : Bool) (T : Ty) : Prop :=
  (∀ t, (T.chk P).1 t = true → ∀ fuel cs x, DataW.trod enc P W 0 spare held fuel t cs = some x → (∀ n ∈ x.1.weights P t, n ≤ reachBytes) → ∃ y : T.ty, T.ok y ∧ PtD W (fullE W) cs (T.enc y)) ∧
  (∀ fs off, (T.chk P).2 fs off = true → ∀ cs : List Value, off + T.size ≤ cs.length → (∀ f ∈ fs, ∃ n x, DataW.trod enc P W 0 spare held n f.type ((cs.drop f.offset).take (P.cellsOf f.type)) = some x ∧ ∀ n ∈ x.1.weights P f.type, n ≤ reachBytes) →
    ∃ y : T.ty, T.ok y ∧ PtD W (fullE W) ((cs.drop off).take T.size) (T.enc y))

theorem ptd_one {w : World} {e : Nat → Nat} {v : Value} {d : D} (h : RepD w e v d) : PtD w e [v] [d] := by
  refine ⟨rfl, fun j v' d' h1 h2 => ?_⟩
  match j with
  | 0 => simp at h1 h2; subst h1; subst h2; exact h
  | j + 1 => simp at h1

theorem weights_mem_all {P : Program} {e : TypeId} {d : DataW H} : ∀ {ds : List (DataW H)}, d ∈ ds → ∀ n ∈ d.weights P e, n ∈ DataW.weightsAll P e ds
  | x :: r, h, n, hn => by
    simp only [DataW.weightsAll, List.mem_append]
    rcases List.mem_cons.1 h with rfl | h
    · exact .inl hn
    · exact .inr (weights_mem_all h n hn)

theorem openC : ∀ T : Ty, OpenC H enc P W spare held T := by
  intro T
  induction T with
  | int k =>
    refine ⟨fun t ht fuel cs x h hw => ?_, fun fs off h => by simp [Ty.chk] at h⟩
    simp only [Ty.chk, Bool.and_eq_true] at ht
    obtain ⟨ht, _⟩ := ht
    split at ht
    · rename_i k' hu
      have : k' = k := by simpa using ht
      subst this
      obtain ⟨n, rfl, _, hwf⟩ := DataW.trod_int hu h
      exact ⟨n, hwf, ptd_one (.int _ _)⟩
    · cases ht
  | bool =>
    refine ⟨fun t ht fuel cs x h hw => ?_, fun fs off h => by simp [Ty.chk] at h⟩
    simp only [Ty.chk, Bool.and_eq_true] at ht
    obtain ⟨ht, _⟩ := ht
    split at ht
    · rename_i hu
      obtain ⟨b, rfl, _⟩ := DataW.trod_bool hu h
      exact ⟨b, trivial, ptd_one (.bool _)⟩
    · cases ht
  | str =>
    refine ⟨fun t ht fuel cs x h hw => ?_, fun fs off h => by simp [Ty.chk] at h⟩
    simp only [Ty.chk, Bool.and_eq_true] at ht
    obtain ⟨ht, _⟩ := ht
    split at ht
    · rename_i hu
      obtain ⟨s, rfl, rfl, _⟩ := DataW.trod_string hu h
      exact ⟨s.data.toList, hw _ (by simp [DataW.weights]), ptd_one (.str s.data.toList)⟩
    · cases ht
  | sl e ih =>
    refine ⟨fun t ht fuel cs x h hw => ?_, fun fs off h => by simp [Ty.chk] at h⟩
    simp only [Ty.chk, Bool.and_eq_true] at ht
    obtain ⟨ht, _⟩ := ht
    split at ht
    · rename_i te hu
      simp only [Bool.and_eq_true, beq_iff_eq, bne_iff_ne, ne_eq] at ht
      obtain ⟨⟨⟨hte, hsz⟩, hs0⟩, hby⟩ := ht
      rcases Go.Deep.open_slice hu h with ⟨rfl, _⟩ | ⟨a, len, cap, m, n, Df, Pl, rfl, _, hlc, hcm, hm, hxx, hx⟩
      · exact ⟨[], ⟨by simp, by simp⟩, ptd_one (.sl0 none 0 fun _ => rfl)⟩
      · have hlm : len ≤ m := by rw [hm]; split <;> omega
        have hwl : len ≤ reachBytes := by
          subst hxx
          have h1 := hw ((((List.range len).map Df).length + ((List.range (m - len)).map fun j => Df (len + j)).length) * P.bytesOf te) (by simp only [DataW.weights, hu]; exact List.mem_cons_self ..)
          simp only [List.length_map, List.length_range] at h1
          have h2 : len * 1 ≤ (len + (m - len)) * P.bytesOf te := Nat.mul_le_mul (Nat.le_add_right _ _) (Nat.pos_of_ne_zero hby)
          omega
        have hwe : ∀ i, i < len → ∀ n ∈ (Df i).weights P te, n ≤ reachBytes := by
          subst hxx
          intro i hi n hn
          refine hw n ?_
          simp only [DataW.weights, hu]
          refine List.mem_cons_of_mem _ (List.mem_append_left _ ?_)
          exact weights_mem_all (List.mem_map.2 ⟨i, List.mem_range.2 hi, rfl⟩) n hn
        rw [hsz] at hx
        have one : ∀ i, i < len → ∃ (cs' : List Value) (y : e.ty), e.ok y ∧ PtD W (fullE W) cs' (e.enc y) ∧ cs'.length = e.size ∧ ∀ j v, cs'[j]? = some v → W.cell? ((a.add (i * e.size)).add j) = some v := by
          intro i hi
          obtain ⟨cs', h1, h2⟩ := hx i (by omega)
          obtain ⟨y, h3, h4⟩ := ih.1 te hte n cs' _ h2 (hwe i hi)
          obtain ⟨_, h5, h6⟩ := World.cells?_some h1
          refine ⟨cs', y, h3, h4, h5, fun j v hj => ?_⟩
          have hlt : j < e.size := by rw [← h5]; exact (List.getElem?_eq_some_iff.1 hj).1
          rw [h6 j hlt, hj]
        by_cases h0 : len = 0
        · subst h0
          exact ⟨[], ⟨by simp, by simp⟩, ptd_one (.sl0 _ _ (by simp))⟩
        · have hspot : a.spot = none := by
            obtain ⟨cs', y, _, _, h3, h4⟩ := one 0 (by omega)
            have hc0 : ∃ v, cs'[0]? = some v := ⟨cs'[0]'(by omega), List.getElem?_eq_getElem _⟩
            obtain ⟨v, hv⟩ := hc0
            have := h4 0 v hv
            simp only [Nat.zero_mul, Addr.add, if_true] at this
            unfold World.cell? at this
            split at this
            · split at this
              · cases this
              · rename_i hs; simpa using hs
            · cases this
          obtain ⟨b, o, sp⟩ := a
          simp only at hspot
          subst hspot
          have all : ∀ k, k ≤ len → ∃ (l : List e.ty) (vals : List Value), l.length = k ∧ (∀ x ∈ l, e.ok x) ∧ PtD W (fullE W) vals (l.flatMap e.enc) ∧ vals.length = k * e.size ∧ ∀ j v, vals[j]? = some v → W.cell? ⟨b, o + j, none⟩ = some v := by
            intro k
            induction k with
            | zero => intro _; exact ⟨[], [], rfl, by simp, ⟨rfl, by simp⟩, by simp, by simp⟩
            | succ k ihk =>
              intro hk
              obtain ⟨l, vals, h1, h2, h3, h4, h5⟩ := ihk (by omega)
              obtain ⟨cs', y, k1, k2, k3, k4⟩ := one k (by omega)
              refine ⟨l ++ [y], vals ++ cs', by simp [h1], ?_, ?_, by rw [List.length_append, h4, k3, Nat.add_mul]; omega, fun j v hj => ?_⟩
              · intro x hx'
                rw [List.mem_append] at hx'
                rcases hx' with hx' | hx'
                · exact h2 x hx'
                · simp at hx'; subst hx'; exact k1
              · rw [List.flatMap_append]
                simp only [List.flatMap_cons, List.flatMap_nil, List.append_nil]
                exact h3.append k2
              · rw [List.getElem?_append] at hj
                split at hj
                · exact h5 j v hj
                · rename_i hlt
                  rw [h4] at hj hlt
                  have := k4 _ v hj
                  rw [Addr.add_lit, Addr.add_lit] at this
                  rw [show o + j = o + k * e.size + (j - k * e.size) by omega]
                  exact this
          obtain ⟨l, vals, h1, h2, h3, h4, h5⟩ := all len (Nat.le_refl _)
          have hpos : 0 < len * e.size := Nat.mul_pos (by omega) (by omega)
          refine ⟨l, ⟨by rw [h1]; exact hwl, h2⟩, ptd_one ?_⟩
          rw [h1]
          refine .sl b o len cap _ vals hlc h3.1 ?_ h5 h3.2
          rw [← h3.1, h4]
          have hl : ∃ v, vals[len * e.size - 1]? = some v := ⟨vals[len * e.size - 1]'(by omega), List.getElem?_eq_getElem _⟩
          obtain ⟨v, hv⟩ := hl
          have hc := h5 _ v hv
          unfold World.cell? at hc
          unfold fullE
          split at hc
          · rename_i c _ _ hb
            simp only [hb]
            simp at hc
            have := (Array.getElem?_eq_some_iff.1 hc).1
            omega
          · cases hc
    · cases ht
  | st b ih =>
    refine ⟨fun t ht fuel cs x h hw => ?_, fun fs off h => by simp [Ty.chk] at h⟩
    simp only [Ty.chk, Bool.and_eq_true, beq_iff_eq] at ht
    obtain ⟨ht, hsz⟩ := ht
    split at ht
    · rename_i fs hu
      obtain ⟨xs, n, _, hxx, hl, hlen, hx⟩ := DataW.trod_struct hu h
      obtain ⟨y, h1, h2⟩ := ih.2 fs.toList 0 ht cs (by omega) (fun f hf => by
        obtain ⟨i, hi, rfl⟩ := List.mem_iff_getElem.1 hf
        have hi' : i < fs.size := by simpa using hi
        have := hx i fs[i] (Array.getElem?_eq_getElem hi')
        rw [List.getElem?_eq_getElem (show i < xs.length by omega)] at this
        refine ⟨n, xs[i]'(by omega), by simpa using this, fun k hk => hw k ?_⟩
        rw [hxx]
        simp only [DataW.weights, hu]
        refine DataW.weights_mem_each (j := i) (t := (fs[i]).type) (d := (xs[i]'(by omega)).1) (by simp [hi']) (by simp [show i < xs.length by omega]) k ?_
        simpa using hk)
      refine ⟨y, h1, ?_⟩
      rw [List.drop_zero, List.take_of_length_le (by omega)] at h2
      exact h2
    · cases ht
  | nil =>
    refine ⟨fun t ht => by simp [Ty.chk] at ht, fun fs off h cs _ _ => ⟨(), trivial, ?_⟩⟩
    simp only [Ty.size, List.take_zero]
    exact ⟨rfl, by simp⟩
  | cons a b iha ihb =>
    refine ⟨fun t ht => by simp [Ty.chk] at ht, fun fs off h cs hcs hf => ?_⟩
    simp only [Ty.chk] at h
    split at h
    · rename_i f fs
      simp only [Bool.and_eq_true, beq_iff_eq] at h
      obtain ⟨⟨⟨h1, h2⟩, h3⟩, h4⟩ := h
      simp only [Ty.size] at hcs
      obtain ⟨n, x, hx, hxw⟩ := hf f (List.mem_cons_self ..)
      obtain ⟨y, k1, k2⟩ := iha.1 _ h3 _ _ _ hx hxw
      obtain ⟨z, k3, k4⟩ := ihb.2 fs (off + a.size) h4 cs (by omega) (fun g hg => hf g (List.mem_cons_of_mem _ hg))
      refine ⟨(y, z), ⟨k1, k3⟩, ?_⟩
      rw [h1, h2] at k2
      have : (cs.drop off).take (Ty.size (.cons a b)) = (cs.drop off).take a.size ++ (cs.drop (off + a.size)).take b.size := by
        simp only [Ty.size]
        rw [List.take_add, List.drop_drop]
      rw [this]
      exact k2.append k4
    · cases h

/-- An argument. -/
def Ty.argD : (T : Ty) → T.ty → D
  | .int k, n => .int k n
  | .bool, b => .bool b
  | .str, s => .str s
  | .sl e, l => .sl (l.flatMap e.enc) l.length
  | .st b, x => .agg (b.enc x)
  | .nil, _ => .und
  | .cons _ _, _ => .und

theorem ptd_head {w : World} {e : Nat → Nat} {v : Value} {d : D} (h : PtD w e [v] [d]) : RepD w e v d := h.2 0 v d rfl rfl

theorem open_arg {T : Ty} {t : TypeId} {r : Reach} {b0 : Nat} {v : Value} {d : DataW H} {ps : List MemPlace} (ht : (T.chk P).1 t = true) (hval : Value.okWide P W r b0 t v) (h : DataW.Trod enc P W 0 spare held t v d ps) (hwt : ∀ n ∈ d.weights P t, n ≤ reachBytes) :
    ∃ y : T.ty, T.ok y ∧ ∀ (X : Ctx) (q : Own), RepV X W (topG W) q v (.d (T.argD y)) := by
  obtain ⟨fuel, h⟩ := h
  obtain ⟨y, h1, h2⟩ := (openC T).1 t ht _ _ _ h hwt
  refine ⟨y, h1, fun X q => .d _ _ _ ?_⟩
  show RepD W (fullE W) v (T.argD y)
  cases T with
  | int k =>
    simp only [Ty.chk, Bool.and_eq_true] at ht
    obtain ⟨ht, _⟩ := ht
    split at ht
    · rename_i k' hu
      obtain ⟨n, rfl⟩ := okWide_int hu hval
      exact ptd_head h2
    · cases ht
  | bool =>
    simp only [Ty.chk, Bool.and_eq_true] at ht
    obtain ⟨ht, _⟩ := ht
    split at ht
    · rename_i hu
      obtain ⟨n, rfl⟩ := okWide_bool hu hval
      exact ptd_head h2
    · cases ht
  | str =>
    simp only [Ty.chk, Bool.and_eq_true] at ht
    obtain ⟨ht, _⟩ := ht
    split at ht
    · rename_i hu
      obtain ⟨n, rfl⟩ := okWide_string hu hval
      exact ptd_head h2
    · cases ht
  | sl e =>
    simp only [Ty.chk, Bool.and_eq_true] at ht
    obtain ⟨ht, _⟩ := ht
    split at ht
    · rename_i te hu
      obtain ⟨a, n, c, rfl⟩ := okWide_slice hu hval
      exact ptd_head h2
    · cases ht
  | st b =>
    simp only [Ty.chk, Bool.and_eq_true] at ht
    obtain ⟨ht, _⟩ := ht
    split at ht
    · rename_i fs hu
      obtain ⟨cs, rfl, _⟩ := okWide_struct hu hval
      exact .agg cs.toList _ h2.1 h2.2
    · cases ht
  | nil => simp [Ty.chk] at ht
  | cons a b => simp [Ty.chk] at ht
end

end Go.Proofs.YtpbhfbphefmchaaDoor.Pv
