/- Pv: what a run on data says of the program's function. -/
import Derived.Test.YtaobccodpdmieaaPvCall
set_option linter.unusedSimpArgs false
set_option linter.unusedVariables false
namespace Go.Proofs.Ytaobccodpdmieaa.Pv
open Go

section
variable {X : Ctx}

theorem runP_spec {call : CallF} {fuel : Nat} {f : FuncId} {args : List V} {y : V} {h' : List Ob} (hx : X.ext f = none) (h : runP X call fuel f args = some (y, h')) :
    ∃ fn c, X.P.funcs[f]? = some fn ∧ fn.body = some c ∧ (fn.name == "runtime.NumGoroutine") = false ∧ bodyOn X call fuel fn c (args.map V.copy) [] = some (y, h') := by
  unfold runP at h
  rw [hx] at h
  simp only at h
  split at h
  · cases h
  · rename_i fn hfn
    split at h
    · cases h
    · rename_i c hb
      split at h
      · cases h
      · rename_i hn
        exact ⟨fn, c, hfn, hb, by simpa using hn, h⟩

theorem pure_move {w : World} {g g2 : Gh} {q q2 : Own} {v : Value} {x : V} (r : RepV X w g q v x) (hx : x.pure = true) (he : g2.e = g.e) (h : IsPos q → IsPos q2 ∧ ∀ b, g.own b = q → g2.own b = q2) : RepV X w g2 q2 v x := by
  cases r with
  | d _ _ _ r => exact .d _ _ _ (by rw [he]; exact r)
  | tail _ E cells m b c cur z vals hz hz0 hb hn hm hcur hcl hee ho hp hv hr =>
    obtain ⟨h1, h2⟩ := h hp
    exact .tail _ E cells m b c cur z vals hz hz0 hb hn hm hcur hcl (by rw [he]; exact hee) (h2 b ho) h1 hv fun j v d k1 k2 => by rw [he]; exact hr j v d k1 k2
  | full _ b o cells n r => exact .full _ b o cells n (by rw [he]; exact r)
  | obj => simp [V.pure] at hx
  | osl => simp [V.pure] at hx
  | clo => simp [V.pure] at hx
  | agg => simp [V.pure] at hx
  | tup => simp [V.pure] at hx
  | mp => simp [V.pure] at hx
  | it => simp [V.pure] at hx

theorem RepOb.renumber {w : World} {g g2 : Gh} {n : Nat} (he : g2.e = g.e) (hμ : ∀ (id b : Nat), g.μ[id]? = some b → g2.μ[n + id]? = some b) (ho : ∀ (b id j : Nat), g.own b = .cell id j → g2.own b = .cell (n + id) j) {id b : Nat} {o : Ob} (r : RepOb X w g id b o) : RepOb X w g2 (n + id) b (o.shift n) := by
  cases o with
  | cells vs =>
    obtain ⟨vals, T, h1, h2, h3, h4⟩ := r
    refine ⟨vals, T, h1, by rw [shifts_length]; exact h2, by rw [he]; exact h3, fun j v x k1 k2 => ?_⟩
    rw [shifts_get] at k2
    cases hx : vs[j]? with
    | none => rw [hx] at k2; cases k2
    | some x0 => rw [hx] at k2; cases k2; exact (h4 j v x0 k1 hx).renumber he hμ _ fun _ => ⟨⟨0, n + id, j, .inr rfl⟩, fun b hb => ho b id j hb⟩
  | frozen ds => obtain ⟨vals, T, h1, h2, h3, h4⟩ := r; exact ⟨vals, T, h1, h2, by rw [he]; exact h3, fun j v x k1 k2 => by rw [he]; exact h4 j v x k1 k2⟩
  | map es ck => obtain ⟨en, h1, h2, h3, h4⟩ := r; exact ⟨en, h1, h2, by rw [he]; exact h3, fun j v x k1 k2 => by rw [he]; exact h4 j v x k1 k2⟩
  | iter s pos => exact ⟨r.1, by rw [he]; exact r.2⟩

/-- The place of a result is a slot. -/
theorem slot_of {q : Own} (h : q = .free ∨ ∃ t, q = .slot t) (hp : IsPos q) : ∃ t, q = .slot t := by
  rcases h with rfl | h
  · exact (IsPos.ne_free hp rfl).elim
  · exact h

theorem callP_step {call : CallF} (hc : CallPOk X call) (hci : CallIOk X call) (hfz : ∀ t, X.frz t = false) (hx : ∀ f, X.ext f = none) {fuel : Nat} {f : FuncId} {args : List V} {y : V} {h' : List Ob} (hrun : runP X call fuel f args = some (y, h')) (hpure : args.all V.pure = true)
    {w : World} {g : Gh} {vargs : List Value} (hf : Fresh g w) (hg : GlobOk X w g) (hp : PtV X w g vargs args) {p : Own} (hpos : IsPos p) (k : Nat) :
    ∃ fn, X.P.funcs[f]? = some fn ∧ (fn.name == "runtime.NumGoroutine") = false ∧ ((∃ c, fn.body = some c) ∧ Calls X.P f ⟨vargs⟩ w fun E w' => ∃ v g' q, E = .returned v ∧ Later (g.alone w.heap.size) w g' w' ∧ Sit X w' g' h' ∧ RepV X w' g' q v y ∧ (IsPos q → IsPos p ∧ ∀ b, g'.own b = q → (g.back g' w.heap.size k q p).own b = p)) := by
  obtain ⟨fn, c, h1, h2, h3, h4⟩ := runP_spec (hx f) hrun
  refine ⟨fn, h1, h3, ⟨c, h2⟩, body_sound (g := g.alone w.heap.size) hc hci hfz h1 h2 h4 (hp.pure hpure rfl) (alone_sit hf hg) alone_low fun v w' g' q l sit _ hr hq => ⟨v, g', q, rfl, l, sit, hr, fun hqp => ⟨hpos, fun b hb => ?_⟩⟩⟩
  obtain ⟨t, rfl⟩ := slot_of hq hqp
  have hnew : ¬ b < w.heap.size := fun hlt => by
    have := (alone_own l hlt).2.1
    rw [hb] at this
    cases this
  simp only [Gh.back]
  rw [if_neg hnew, hb]
  simp

theorem callN_ok (hfz : ∀ t, X.frz t = false) (hx : ∀ f, X.ext f = none) (fuel : Nat) : ∀ k, CallPOk X (callN X fuel k) ∧ CallIOk X (callN X fuel k) := by
  intro k
  induction k with
  | zero => exact ⟨fun f args x h => by simp [callN] at h, fun f args h y h' hh => by simp [callN] at hh⟩
  | succ k ih =>
    obtain ⟨hc, hci⟩ := ih
    constructor
    · intro f args x hcall hpure w g vargs hf hg hp p hpos
      simp only [callN] at hcall
      split at hcall
      · rename_i v h1 hrun
        split at hcall
        · rename_i hv
          simp at hcall
          subst hcall
          obtain ⟨fn, k1, k2, k3, k4⟩ := callP_step hc hci hfz hx hrun hpure hf hg hp hpos 0
          refine ⟨fn, k1, k2, k3, k4.mono ?_⟩
          rintro E w' ⟨u, g', q, rfl, l, sit, hr, hq⟩
          have gr := back_grow (k := 0) (q := q) (p := p) l sit.fresh
          refine ⟨u, { g.back g' w.heap.size 0 q p with μ := g.μ }, rfl, ⟨⟨gr.os, gr.tape, gr.output, gr.size, gr.block, gr.own, gr.e, fun _ _ h => h, rfl, gr.fresh⟩, rfl⟩, ?_⟩
          exact pure_move hr hv rfl fun hqp => ⟨(hq hqp).1, (hq hqp).2⟩
        · cases hcall
      · cases hcall
    · intro f args h y h' hcall w g vargs sit hp p hpos
      simp only [callN] at hcall
      split at hcall
      · rename_i hpure
        split at hcall
        · rename_i v h1 hrun
          simp at hcall
          obtain ⟨rfl, rfl⟩ := hcall
          obtain ⟨fn, k1, k2, k3, k4⟩ := callP_step hc hci hfz hx hrun hpure sit.fresh sit.glob hp hpos h.length
          refine ⟨fn, k1, k2, k3, k4.mono ?_⟩
          rintro E w' ⟨u, g', q, rfl, l, sit', hr, hq⟩
          have gr := back_grow (k := h.length) (q := q) (p := p) l sit'.fresh
          have hμ : ∀ (id b : Nat), g'.μ[id]? = some b → (g.back g' w.heap.size h.length q p).μ[h.length + id]? = some b := by
            intro id b hb
            simp only [Gh.back]
            rw [List.getElem?_append_right (by rw [sit.heap.len]; omega), sit.heap.len]
            rw [show h.length + id - h.length = id by omega]
            exact hb
          have hnew : ∀ b, g'.own b ≠ .fgn → ¬ b < w.heap.size := fun b hb hlt => hb (alone_own l hlt).2.1
          have hcell : ∀ (b id j : Nat), g'.own b = .cell id j → (g.back g' w.heap.size h.length q p).own b = .cell (h.length + id) j := by
            intro b id j hb
            simp only [Gh.back]
            rw [if_neg (hnew b (by rw [hb]; simp)), hb]
          have hsplit : ∀ (id : Nat) (b : Nat), (g.back g' w.heap.size h.length q p).μ[id]? = some b → (id < h.length ∧ g.μ[id]? = some b) ∨ ∃ i, id = h.length + i ∧ g'.μ[i]? = some b := by
            intro id b hb
            simp only [Gh.back] at hb
            by_cases hid : id < h.length
            · rw [List.getElem?_append_left (by rw [sit.heap.len]; exact hid)] at hb
              exact .inl ⟨hid, hb⟩
            · rw [List.getElem?_append_right (by rw [sit.heap.len]; omega), sit.heap.len] at hb
              exact .inr ⟨id - h.length, by omega, hb⟩
          refine ⟨u, g.back g' w.heap.size h.length q p, rfl, gr.later sit.fresh, ⟨gr.fresh, ⟨?_, fun id b hb => ?_, fun id b o hb ho => ?_⟩, sit.glob.grow gr sit.fresh⟩, hr.renumber (g := g') (g2 := g.back g' w.heap.size h.length q p) rfl hμ _ (fun hqp => ⟨(hq hqp).1, (hq hqp).2⟩), gr.μ, fun b t hb => ?_, fun base hlow => ?_⟩
          · simp [Gh.back, sit.heap.len, sit'.heap.len]
          · rcases hsplit id b hb with ⟨hid, hb⟩ | ⟨i, rfl, hb'⟩
            · rw [gr.own b (sit.heap.lt hb)]
              exact sit.heap.own id b hb
            · have ho := sit'.heap.own i b hb'
              simp only [Gh.back]
              rw [if_neg (hnew b (by rw [ho]; simp)), ho]
          · rcases hsplit id b hb with ⟨hid, hb⟩ | ⟨i, rfl, hb'⟩
            · rw [List.getElem?_append_left hid] at ho
              exact gr.repOb sit.fresh (sit.heap.ob id b o hb ho)
            · rw [List.getElem?_append_right (by omega), show h.length + i - h.length = i by omega, List.getElem?_map] at ho
              cases ho1 : h1[i]? with
              | none => rw [ho1] at ho; cases ho
              | some o1 =>
                rw [ho1] at ho
                cases ho
                exact (sit'.heap.ob i b o1 hb' ho1).renumber (g := g') (g2 := g.back g' w.heap.size h.length q p) rfl hμ hcell
          · have hlt : b < w.heap.size := by
              apply Classical.byContradiction; intro hn
              rw [(sit.fresh b (by omega)).1] at hb
              cases hb
            exact ⟨gr.block b hlt, (gr.own b hlt).trans hb, gr.e b hlt⟩
          · refine hlow.grow sit.fresh gr sit.heap.len (fun id o hid ho => ?_) (by simp)
            rw [List.getElem?_append_left (Nat.lt_of_lt_of_le hid hlow.1)] at ho
            exact ho
        · cases hcall
      · -- on the boxes that there are
        unfold runI at hcall
        split at hcall
        · cases hcall
        · rename_i fn hfn
          split at hcall
          · cases hcall
          · rename_i c hb
            split at hcall
            · cases hcall
            · rename_i hn
              simp only [Bool.or_eq_true, not_or, Bool.not_eq_true] at hn
              split at hcall
              · rename_i y1 h1 hbody
                let g0 : Gh := { g with own := fun b => match g.own b with | .slot _ => .fgn | o => o, pin := ⟨g.μ, fun n => Elder X w g n h⟩ }
                have o1 : ∀ b t, g.own b = .slot t → g0.own b = .fgn := fun b t hb => by simp only [g0, hb]
                have o2 : ∀ b, (∀ t, g.own b ≠ .slot t) → g0.own b = g.own b := fun b hb => by
                  show (match g.own b with | .slot _ => Own.fgn | o => o) = g.own b
                  split
                  · rename_i t ho; exact (hb t ho).elim
                  · rfl
                have o3 : ∀ (b id j : Nat), g.own b = .cell id j → g0.own b = .cell id j := fun b id j hb => (o2 b (by rw [hb]; simp)).trans hb
                have e0 : g0.e = g.e := rfl
                have μ0 : g0.μ = g.μ := rfl
                have hobs : ∀ (id b : Nat) (o : Ob), g.μ[id]? = some b → h[id]? = some o → RepOb X w g0 id b o := fun id b o hb ho => (sit.heap.ob id b o hb ho).reown (g2 := g0) e0 (fun _ _ h => h) o3
                have sit0 : Sit X w g0 h := by
                  refine ⟨fun b hb => ⟨?_, (sit.fresh b hb).2⟩, ⟨sit.heap.len, fun id b hb => ?_, fun id b o hb ho => hobs id b o hb ho⟩, sit.glob.same e0⟩
                  · rw [o2 b (by rw [(sit.fresh b hb).1]; simp)]; exact (sit.fresh b hb).1
                  · have := sit.heap.own id b hb
                    rw [o2 b (by rw [this]; simp)]; exact this
                have low0 : Low X w g0 h.length h := by
                  refine ⟨Nat.le_refl _, fun n hn hel id b o hid hb ho => ?_, fun id b hid hb => hb⟩
                  rcases hel with rfl | hel
                  · refine (hobs id b o hb ho).reown (g := g0) (g2 := g0.trunc h.length) rfl (fun i b' hi => ?_) (fun _ _ _ h => h)
                    refine trunc_put ?_ hi
                    have := (List.getElem?_eq_some_iff.1 hi).1
                    rw [μ0, sit.heap.len] at this
                    exact this
                  · exact (hel id b o hid hb ho).reown (g := g.trunc n) (g2 := g0.trunc n) rfl (fun _ _ h => h) o3
                have hp0 : PtV X w g0 vargs args := ⟨hp.1, fun j v x k1 k2 => (hp.2 j v x k1 k2).reownFree (g2 := g0) e0 fun _ _ h => h⟩
                refine ⟨fn, hfn, hn.1, ⟨c, hb⟩, body_sound hc hci hfz hfn hb hbody hp0 sit0 low0 fun v w' g' q l sit' low' hr hq => ?_⟩
                -- the owners behind it
                let g2 : Gh := { μ := g'.μ, e := g'.e, pin := g.pin, own := fun b => match g.own b with | .slot t => .slot t | _ => match g'.own b with | .slot t => if q = .slot t then p else .free | o => o }
                have hfgn : ∀ b t, g.own b = .slot t → w'.heap[b]? = w.heap[b]? ∧ g'.own b = .fgn ∧ g'.e b = g.e b := fun b t hb => l.fgn b (o1 b t hb)
                have s1 : ∀ b t, g.own b = .slot t → g2.own b = .slot t := fun b t hb => by simp only [g2, hb]
                have ns : ∀ b, g'.own b ≠ .fgn → ∀ t, g.own b ≠ .slot t := fun b hb t ht => hb (hfgn b t ht).2.1
                have s2 : ∀ b, (∀ t, g.own b ≠ .slot t) → (∀ t, g'.own b ≠ .slot t) → g2.own b = g'.own b := fun b h1 h2 => by
                  show (match g.own b with | .slot t => Own.slot t | _ => match g'.own b with | .slot t => if q = .slot t then p else .free | o => o) = g'.own b
                  split
                  · rename_i t ho; exact (h1 t ho).elim
                  · split
                    · rename_i t ho; exact (h2 t ho).elim
                    · rfl
                have hcell : ∀ (b id j : Nat), g'.own b = .cell id j → g2.own b = .cell id j := fun b id j hb => (s2 b (ns b (by rw [hb]; simp)) (by rw [hb]; simp)).trans hb
                have hq2 : IsPos q → IsPos p ∧ ∀ b, g'.own b = q → g2.own b = p := by
                  intro hqp
                  refine ⟨hpos, fun b hb => ?_⟩
                  obtain ⟨t, rfl⟩ := slot_of hq hqp
                  simp only [g2]
                  cases ho : g.own b with
                  | slot t' => exact (ns b (by rw [hb]; simp) t' ho).elim
                  | _ => simp [hb]
                have hfgn2 : ∀ b, g.own b = .fgn → w'.heap[b]? = w.heap[b]? ∧ g2.own b = .fgn ∧ g'.e b = g.e b := by
                  intro b hb
                  have h0 : g0.own b = .fgn := (o2 b (by rw [hb]; simp)).trans hb
                  obtain ⟨k1, k2, k3⟩ := l.fgn b h0
                  exact ⟨k1, (s2 b (by rw [hb]; simp) (by rw [k2]; simp)).trans k2, k3⟩
                have l2 : Later g w g2 w' := ⟨l.os, l.tape, l.output, l.size, l.cells, l.e, hfgn2, rfl⟩
                have hμ2 : ∀ (id b : Nat), g.μ[id]? = some b → g'.μ[id]? = some b := by
                  intro id b hb
                  refine low'.2.2 id b ?_ (by rw [l.pin]; exact hb)
                  have := (List.getElem?_eq_some_iff.1 hb).1
                  rw [sit.heap.len] at this
                  exact this
                have hobs2 : ∀ (id b : Nat) (o : Ob), g'.μ[id]? = some b → h1[id]? = some o → RepOb X w' g2 id b o := fun id b o hb ho => (sit'.heap.ob id b o hb ho).reown (g := g') (g2 := g2) rfl (fun _ _ h => h) hcell
                have fr2 : Fresh g2 w' := fun b hb => by
                  have k1 := sit'.fresh b hb
                  refine ⟨?_, k1.2⟩
                  have k2 := (sit.fresh b (by have := l.size; omega)).1
                  rw [s2 b (by rw [k2]; simp) (by rw [k1.1]; simp)]
                  exact k1.1
                have sit2 : Sit X w' g2 h1 := by
                  refine ⟨fr2, ⟨sit'.heap.len, fun id b hb => ?_, hobs2⟩, sit'.glob.same rfl⟩
                  have := sit'.heap.own id b hb
                  rw [s2 b (ns b (by rw [this]; simp)) (by rw [this]; simp)]
                  exact this
                have hr2 : RepV X w' g2 p v y1 := hr.reown (g := g') (g2 := g2) rfl (fun _ _ h => h) p hq2
                have hslots : ∀ (b t : Nat), g.own b = .slot t → w'.heap[b]? = w.heap[b]? ∧ g2.own b = .slot t ∧ g2.e b = g.e b := fun b t hb => ⟨(hfgn b t hb).1, s1 b t hb, (hfgn b t hb).2.2⟩
                have hlow2 : ∀ base, Low X w g base h → Low X w' g2 base h1 := by
                  intro base hl
                  refine ⟨Nat.le_trans hl.1 low'.1, fun n hn hel id b o hid hb ho => ?_, fun id b hid hb => hμ2 id b (hl.2.2 id b hid hb)⟩
                  have hold : Elder X w g n h := hl.2.1 n hn hel
                  have := low'.2.1 n (Nat.le_trans hn hl.1) (.inr (by rw [l.pin]; exact hold)) id b o hid hb ho
                  exact this.reown (g := g'.trunc n) (g2 := g2.trunc n) rfl (fun _ _ h => h) hcell
                split at hcall
                · rename_i hv
                  simp at hcall
                  obtain ⟨rfl, rfl⟩ := hcall
                  -- its own boxes are forgotten
                  have len' : (h1.take h.length).length = h.length := by rw [List.length_take]; have := low'.1; omega
                  refine ⟨v, g2.trunc h.length, rfl, ⟨l2.os, l2.tape, l2.output, l2.size, l2.cells, l2.e, l2.fgn, rfl⟩, ⟨fr2, ⟨?_, fun id b hb => sit2.heap.own id b (trunc_get hb).2, fun id b o hb ho => ?_⟩, sit2.glob⟩, pure_move hr2 hv rfl (fun hqp => ⟨hqp, fun _ h => h⟩), fun id b hb => ?_, hslots, fun base hl => ?_⟩
                  · simp only [Gh.trunc, List.length_take, sit2.heap.len]
                  · obtain ⟨k1, k2⟩ := trunc_get hb
                    rw [List.getElem?_take, if_pos k1] at ho
                    exact (low'.2.1 h.length (Nat.le_refl _) (.inl rfl) id b o k1 k2 ho).reown (g := g'.trunc h.length) (g2 := g2.trunc h.length) rfl (fun _ _ h => h) hcell
                  · refine trunc_put ?_ (hμ2 id b hb)
                    have := (List.getElem?_eq_some_iff.1 hb).1
                    rw [sit.heap.len] at this
                    exact this
                  · have hl2 := hlow2 base hl
                    refine ⟨by rw [len']; exact hl.1, fun n hn hel id b o hid hb ho => ?_, fun id b hid hb => trunc_put (Nat.lt_of_lt_of_le hid hl.1) (hl2.2.2 id b hid hb)⟩
                    have k1 : id < h.length := Nat.lt_of_lt_of_le (Nat.lt_of_lt_of_le hid hn) hl.1
                    rw [List.getElem?_take, if_pos k1] at ho
                    have := hl2.2.1 n hn hel id b o hid (trunc_get hb).2 ho
                    have he : (g2.trunc h.length).trunc n = g2.trunc n := by
                      simp only [Gh.trunc, List.take_take, Nat.min_eq_left (Nat.le_trans hn hl.1)]
                    rw [he]
                    exact this
                · simp at hcall
                  obtain ⟨rfl, rfl⟩ := hcall
                  exact ⟨v, g2, rfl, l2, sit2, hr2, hμ2, hslots, hlow2⟩
              · cases hcall
end

end Go.Proofs.Ytaobccodpdmieaa.Pv
