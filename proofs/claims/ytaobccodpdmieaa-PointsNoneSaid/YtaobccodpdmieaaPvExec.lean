/- Pv: code. -/
import Derived.Test.YtaobccodpdmieaaPvDraw3
import Derived.Deep.LoopGhost
import Derived.Scope
set_option linter.unusedSimpArgs false
set_option linter.unusedVariables false
namespace Go.Proofs.Ytaobccodpdmieaa.Pv
open Go

section
variable {X : Ctx} {base N : Nat} {st : St} {a : Act} {w : World} {g : Gh} {call : CallF}

theorem Rel.ogNil (r : Rel X base N st a w g) : Rel X base N { st with og := [] } a w g :=
  ⟨r.defers, r.size, r.slots, r.sit, r.low, fun _ _ h => by cases h⟩

theorem lookT_keepS (keep : List Nat) (s : List (Nat × V)) (t : Nat) : lookT t (keepS keep s) = lookT t s ∨ lookT t (keepS keep s) = und := by
  induction keep with
  | nil => exact .inr rfl
  | cons u l ih =>
    simp only [keepS, List.map_cons, lookT]
    by_cases h : (u == t) = true
    · rw [if_pos h]; simp only [beq_iff_eq] at h; subst h; exact .inl rfl
    · rw [if_neg h]; exact ih

/-- What is not read any more is forgotten. -/
theorem Rel.forget (r : Rel X base N st a w g) (keep : List Nat) : Rel X base N { s := keepS keep st.s, h := st.h, og := [] } a w g := by
  refine ⟨r.defers, r.size, fun t => ?_, r.sit, r.low, fun _ _ h => by cases h⟩
  rcases lookT_keepS keep st.s t with h | h
  · simp only [h]; exact r.slots t
  · simp only [h]; exact .d _ _ _ (.und _)

theorem RepV.toTrunc {n : Nat} {p : Own} {v : Value} {x : V} (r : RepV X w g p v x) (h : x.low n = true) : RepV X w (g.trunc n) p v x := by
  cases r with
  | d _ _ _ r => exact .d _ _ _ r
  | tail _ E cells m b' c cur z vals hz hz0 hb hn hm hcur hcl hee hoo hp hv hr => exact .tail _ E cells m b' c cur z vals hz hz0 hb hn hm hcur hcl hee hoo hp hv hr
  | full _ b' o cells n r => exact .full _ b' o cells n r
  | obj _ id off b' r => exact .obj _ id off b' (trunc_put (by simpa [V.low] using h) r)
  | osl _ id off n c b' r hn => exact .osl _ id off n c b' (trunc_put (by simpa [V.low] using h) r) hn
  | clo => simp [V.low] at h
  | agg => simp [V.low] at h
  | tup => simp [V.low] at h
  | mp _ id b' r => exact .mp _ id b' (trunc_put (by simpa [V.low] using h) r)
  | it _ id b' r => exact .it _ id b' (trunc_put (by simpa [V.low] using h) r)

theorem RepOb.toTrunc {n id b : Nat} {o : Ob} (r : RepOb X w g id b o) (h : o.low n = true) : RepOb X w (g.trunc n) id b o := by
  cases o with
  | cells vs =>
    obtain ⟨vals, T, h1, h2, h3, h4⟩ := r
    refine ⟨vals, T, h1, h2, h3, fun j v x k1 k2 => (h4 j v x k1 k2).toTrunc ?_⟩
    have := List.all_eq_true.1 (by simpa [Ob.low] using h : vs.all (V.low n) = true) x (List.mem_of_getElem? k2)
    exact this
  | frozen ds => obtain ⟨vals, T, h1, h2, h3, h4⟩ := r; exact ⟨vals, T, h1, h2, h3, h4⟩
  | map es ck => obtain ⟨en, h1, h2, h3, h4⟩ := r; exact ⟨en, h1, h2, h3, h4⟩
  | iter s pos => exact r

theorem later_trunc (n : Nat) : Later g w (g.trunc n) w := ⟨rfl, rfl, rfl, Nat.le_refl _, fun _ _ _ => rfl, fun _ => Nat.le_refl _, fun _ h => ⟨rfl, h, rfl⟩, rfl⟩

theorem GlobOk.trunc (h : GlobOk X w g) (n : Nat) : GlobOk X w (g.trunc n) := h

/-- Boxes that nothing points to any more are forgotten. -/
theorem Rel.trunc (r : Rel X base N st a w g) {n : Nat} (hb : base ≤ n) (hs : ∀ t, (lookT t st.s).low n = true) (hh : (st.h.take n).all (Ob.low n) = true) : Rel X base N { s := st.s, h := st.h.take n, og := [] } a w (g.trunc n) := by
  have old : ∀ (id : Nat) (o : Ob), (st.h.take n)[id]? = some o → id < n ∧ st.h[id]? = some o := by
    intro id o h
    rw [List.getElem?_take] at h
    split at h
    · exact ⟨‹_›, h⟩
    · cases h
  refine ⟨r.defers, r.size, fun t => (r.slots t).toTrunc (hs t), ⟨r.sit.fresh, ⟨?_, fun id b hb => ?_, fun id b o hb ho => ?_⟩, r.sit.glob⟩, ⟨?_, fun m hm hel id b o hid hbb ho => ?_, fun id b hid hbb => trunc_put (Nat.lt_of_lt_of_le hid hb) (r.low.2.2 id b hid hbb)⟩, fun _ _ h => by cases h⟩
  · simp only [Gh.trunc, List.length_take, r.sit.heap.len]
  · exact r.sit.heap.own id b (trunc_get hb).2
  · obtain ⟨h1, h2⟩ := old id o ho
    exact (r.sit.heap.ob id b o (trunc_get hb).2 h2).toTrunc (List.all_eq_true.1 hh o (List.mem_of_getElem? ho))
  · have := r.low.1
    simp only [List.length_take]
    omega
  · have h3 := r.low.2.1 m hm hel id b o hid (trunc_get hbb).2 (old id o ho).2
    have : (g.trunc n).trunc m = g.trunc m := by
      simp only [Gh.trunc, List.take_take, Nat.min_eq_left (Nat.le_trans hm hb)]
    rw [this]
    exact h3

theorem lookT_all {s : List (Nat × V)} {q : V → Bool} (h : s.all (fun x => q x.2) = true) (hu : q und = true) (t : Nat) : q (lookT t s) = true := by
  induction s with
  | nil => exact hu
  | cons x l ih =>
    obtain ⟨u, v⟩ := x
    simp only [List.all_cons, Bool.and_eq_true] at h
    simp only [lookT]
    split
    · exact h.1
    · exact ih h.2

theorem Rel.clean (r : Rel X base N st a w g) (keep : List Nat) {n : Nat} (hb : base ≤ n) : ∃ g', Later g w g' w ∧ Rel X base N (Pv.clean keep n st) a w g' := by
  unfold Pv.clean
  simp only
  split
  · rename_i h
    simp only [Bool.and_eq_true] at h
    exact ⟨g.trunc n, later_trunc n, (r.forget keep).trunc hb (fun t => lookT_all h.1 rfl t) h.2⟩
  · exact ⟨g, Later.refl g w, r.forget keep⟩

def exitOf : Ex → Exit
  | .nrm => .normal
  | .exit id => .exit id
  | .ret => .ret

theorem exec_sound (hc : CallPOk X call) (hci : CallIOk X call) {fuel n all rets : Nat} : ∀ (c : Code) (nx : Nat) (exs : List (Nat × Nat)) (st : St) (ex : Ex) (st' : St) (a : Act) (w : World) (g : Gh) (Q : Exit → Act → World → Prop),
    exec X call base N fuel (annot n all rets c nx exs).1 st = some (ex, st') → Rel X base N st a w g → Goes X base N st' g w (fun a w => Q (exitOf ex) a w) → c.wp X.P Q a w := by
  intro c
  induction c with
  | skip =>
    intro nx exs st ex st' a w g Q h r hK
    simp only [annot, exec, Option.some.injEq, Prod.mk.injEq] at h
    obtain ⟨rfl, rfl⟩ := h
    exact wp_skip (hK a w g (Later.refl g w) r)
  | region id ops draw =>
    intro nx exs st ex st' a w g Q h r hK
    cases draw with
    | false =>
      simp only [annot, exec] at h
      split at h
      · rename_i st1 hrun
        simp only [Option.some.injEq, Prod.mk.injEq] at h
        obtain ⟨rfl, rfl⟩ := h
        exact wp_region_list (runOps_sound hc hci _ _ _ _ _ _ hrun r.ogNil fun a' w' g' l r' => hK a' w' g' l (r'.forget _))
      · cases h
    | true =>
      simp only [annot] at h
      split at h
      · rename_i k hd
        simp only [exec] at h
        split at h
        · rename_i st1 hrun
          simp only [Option.some.injEq, Prod.mk.injEq] at h
          obtain ⟨rfl, rfl⟩ := h
          exact draw_sound hd hrun rfl hc hci r.ogNil fun a' w' g' l r' => hK a' w' g' l (r'.forget _)
        · cases h
      · simp [exec] at h
  | seq x y ihx ihy =>
    intro nx exs st ex st' a w g Q h r hK
    simp only [annot, exec] at h
    refine wp_seq ?_
    split at h
    · rename_i st1 hx
      exact ihx _ _ _ _ _ _ _ _ _ hx r fun a' w' g' l r' => ihy _ _ _ _ _ _ _ _ _ h r' (hK.trans l)
    · rename_i hne
      refine ihx _ _ _ _ _ _ _ _ _ h r fun a' w' g' l r' => ?_
      have := hK a' w' g' l r'
      cases ex with
      | nrm => exact (hne _ h).elim
      | exit i => exact this
      | ret => exact this
  | cond c x y ihx ihy =>
    intro nx exs st ex st' a w g Q h r hK
    simp only [annot, exec] at h
    obtain ⟨q, hq⟩ := r.get c
    split at h
    · rename_i hcc
      rw [hcc] at hq
      refine wp_cond_true ?_ (ihx _ _ _ _ _ _ _ _ _ h r hK)
      generalize a.eval c = v at hq
      cases hq with | d _ _ _ hq => cases hq; rfl
    · rename_i hcc
      rw [hcc] at hq
      refine wp_cond_false ?_ (ihy _ _ _ _ _ _ _ _ _ h r hK)
      generalize a.eval c = v at hq
      cases hq with | d _ _ _ hq => cases hq; rfl
    · cases h
  | block id b ih =>
    intro nx exs st ex st' a w g Q h r hK
    simp only [annot, exec] at h
    refine wp_block ?_
    split at h
    · rename_i i st1 hb
      simp only [Option.some.injEq, Prod.mk.injEq] at h
      obtain ⟨rfl, rfl⟩ := h
      refine ih _ _ _ _ _ _ _ _ _ hb r fun a' w' g' l r' => ?_
      have := hK a' w' g' l r'
      simp only [exitOf, Exit.inBlock]
      split
      · rename_i hid; rw [if_pos hid] at this; exact this
      · rename_i hid; rw [if_neg hid] at this; exact this
    · rename_i hne
      refine ih _ _ _ _ _ _ _ _ _ h r fun a' w' g' l r' => ?_
      have := hK a' w' g' l r'
      cases ex with
      | nrm => exact this
      | exit i => exact (hne _ _ h).elim
      | ret => exact this
  | loop b ih =>
    intro nx exs st ex st' a w g Q h r hK
    simp only [annot, exec] at h
    generalize hkeep : bitsOf n _ = keep at h
    generalize (annot n all rets b ((annot n all rets b 0 exs).2) exs).2 = m at h
    refine wp_loop_ghost (fun k a1 w1 => ∃ st1 g1, loopN (fun st => exec X call base N fuel (annot n all rets b m exs).1 st) keep st.h.length k st1 = some (ex, st') ∧ Rel X base N st1 a1 w1 g1 ∧ Later g w g1 w1) fuel ⟨st, g, h, r, Later.refl g w⟩ ?_
    rintro k a1 w1 ⟨st1, g1, hl, r1, l1⟩
    cases k with
    | zero => simp [loopN] at hl
    | succ k =>
      obtain ⟨g2, l2, r2⟩ := r1.clean keep (n := st.h.length) r.low.1
      simp only [loopN] at hl
      split at hl
      · rename_i st2 hb
        exact ih _ _ _ _ _ _ _ _ _ hb r2 fun a' w' g' l r' => ⟨k, Nat.lt_succ_self k, st2, g', hl, r', (l1.trans l2).trans l⟩
      · rename_i hne
        refine ih _ _ _ _ _ _ _ _ _ hl r2 fun a' w' g' l r' => ?_
        have := hK a' w' g' ((l1.trans l2).trans l) r'
        cases ex with
        | nrm => exact (hne _ hl).elim
        | exit i => exact this
        | ret => exact this
  | exit id =>
    intro nx exs st ex st' a w g Q h r hK
    simp only [annot, exec, Option.some.injEq, Prod.mk.injEq] at h
    obtain ⟨rfl, rfl⟩ := h
    exact wp_exit (hK a w g (Later.refl g w) r)
  | ret =>
    intro nx exs st ex st' a w g Q h r hK
    simp only [annot, exec, Option.some.injEq, Prod.mk.injEq] at h
    obtain ⟨rfl, rfl⟩ := h
    exact wp_ret (hK a w g (Later.refl g w) r)
  | label l =>
    intro nx exs st ex st' a w g Q h r hK
    simp only [annot, exec, Option.some.injEq, Prod.mk.injEq] at h
    obtain ⟨rfl, rfl⟩ := h
    exact wp_label (hK a w g (Later.refl g w) r)
  | scope b ih =>
    intro nx exs st ex st' a w g Q h r hK
    simp only [annot] at h
    refine wp_scope_straight (ih _ _ _ _ _ _ _ _ _ h r fun a' w' g' l r' => ?_)
    have := hK a' w' g' l r'
    cases ex <;> exact this
  | _ =>
    intro nx exs st ex st' a w g Q h r hK
    simp [annot, exec] at h
end

end Go.Proofs.Ytaobccodpdmieaa.Pv
