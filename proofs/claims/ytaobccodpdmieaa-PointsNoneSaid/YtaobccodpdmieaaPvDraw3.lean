/- Pv: a region whose operations come in any order. -/
import Derived.Test.YtaobccodpdmieaaPvDraw2
set_option linter.unusedSimpArgs false
set_option linter.unusedVariables false
namespace Go.Proofs.Ytaobccodpdmieaa.Pv
open Go

section
variable {X : Ctx} {base N k : Nat} {call : CallF} {ops : Array Oper} {h0 : List Ob}

theorem on_og_keep {r : Rec} {dst : Option Tmp} {st : St} {t : Nat} {l : Loc} (h : (t, l) ∈ st.og) (h1 : dst ≠ some t) (h2 : ∀ u, l = .slot u → dst ≠ some u) : (t, l) ∈ (r.on dst st).og := by
  have hput : (t, l) ∈ (({ st with h := st.h ++ r.ob } : St).put dst r.v).og := by
    cases dst with
    | none => exact h
    | some d =>
      simp only [St.put, List.mem_filter, Bool.and_eq_true, bne_iff_ne, ne_eq]
      exact ⟨h, fun hh => h1 (by rw [hh]), fun hh => h2 d hh rfl⟩
  unfold Rec.on
  split
  · cases dst with
    | none => exact hput
    | some d => exact List.mem_cons_of_mem _ hput
  · exact hput

theorem on_og_new {r : Rec} {st : St} {t : Nat} {l : Loc} (h : r.og = some l) : (t, l) ∈ (r.on (some t) st).og := by
  unfold Rec.on
  rw [h]
  exact List.mem_cons_self

theorem recA_og {o : Oper} {st : St} {r : Rec} {u : Nat} (h : recA X call ops h0 o st = some r) (hr : r.og = some (.slot u)) : u ∈ o.looksAt ops := by
  unfold recA at h
  split at h
  · simp at h; subst h; cases hr
  · split at h
    · split at h
      · rename_i t hop
        simp at h
        subst h
        simp at hr
        subst hr
        refine List.mem_append_left _ (List.mem_filterMap.2 ⟨.tmp t, ?_, rfl⟩)
        rw [hop]; simp [Op.operands]
      · split at h <;> simp at h <;> subst h <;> cases hr
      · simp at h; subst h; cases hr
    · split at h
      · split at h
        · split at h
          · simp at h; subst h; cases hr
          · cases h
        · cases h
      · cases h
  · cases h

/-- One of the first operations, where all that it looks at is as it was in the text's order. -/
theorem stepA_sound {o : Oper} {st sR : St} {r : Rec} {hs : List Ob} {a : Act} {w : World} {g : Gh} (h : recA X call ops h0 o st = some r) (hop : ∀ x ∈ o.op.operands, st.get X x = sR.get X x) (hg : guardOf X ops st o = guardOf X ops sR o)
    (hh : sR.h = h0 ++ hs) (hob : r.ob ≠ [] → hs = []) (hN : dstOk N o = true) (rl : Rel X base N sR a w g) (hc : CallPOk X call) {K : Act → World → Prop} {Q : Exit → Act → World → Prop}
    (hK : Goes X base N (r.on o.dst sR) g w K) : if Region.wanted o (yielded ops a.tmps) then o.wp X.P a w K Q ∨ (o.asks X.P a w ∧ LetsOut Q) else K (a.put o.dst undef) w := by
  have app : ({ sR with h := sR.h ++ [] } : St) = sR := by simp
  unfold recA at h
  rw [hg] at h
  split at h
  · rename_i hgf
    simp at h
    subst h
    rw [if_neg (by rw [guard_sound hgf rl]; simp)]
    refine hK _ w g (Later.refl g w) ?_
    simp only [Rec.on, app]
    exact rl.put hN fun d _ => .d _ _ _ (.tup [] [] rfl (by intro j v d hj; simp at hj))
  · rename_i hgt
    rw [if_pos (guard_sound hgt rl)]
    left
    split at h
    · rename_i v hv
      have hv' : valOp X call (st.get X) sR.h o = some v := by rw [hh]; exact valOp_more hs hv
      have plain : r = ⟨v, none, []⟩ → o.wp X.P a w K Q := by
        rintro rfl
        simp only [Rec.on, app] at hK
        refine val_sound hv' (fun y hy => by rw [hop y hy]; exact rl.get y) rl.sit hc (dstPos_pos o) (fun u w' g' k hr => ?_)
        refine hK _ w' g' (k.later rl.sit.fresh) ((rl.keep k).put hN fun d hd => ?_)
        rw [← dstPos_eq hd]
        exact hr
      split at h
      · rename_i t hopm
        simp at h
        subst h
        have hvv : v = (sR.get X (.tmp t)).copy := by
          have hx := hop (.tmp t) (by rw [hopm]; simp [Op.operands])
          unfold valOp at hv'; rw [hopm] at hv'; simp at hv'; rw [← hv', hx]
        subst hvv
        simp only [Rec.on, app] at hK
        exact step_move hopm hN rl hK
      · rename_i t p hopl
        have hx := hop p (by rw [hopl]; simp [Op.operands])
        split at h
        · rename_i id off hag hp
          simp at h
          subst h
          rw [hx] at hp
          simp only [Rec.on, app] at hK
          have hl : loadOp X (sR.get X) sR.h t p = some v := by
            unfold valOp at hv'; rw [hopl] at hv'
            unfold loadOp at hv' ⊢
            rw [← hx]; exact hv'
          exact step_load hopl hag hp hl hN rl hK
        · simp at h; exact plain h.symm
      · simp at h; exact plain h.symm
    · split at h
      · rename_i t hopa
        split at h
        · rename_i z hz
          split at h
          · simp at h
            subst h
            have : hs = [] := hob (by simp)
            subst this
            simp only [List.append_nil] at hh
            simp only [Rec.on] at hK
            rw [← hh] at hK
            exact step_alloc hopa hz hN rl hK
          · cases h
        · cases h
      · cases h
  · cases h

/-- What a state is, where what is listed is done. -/
structure InvA (ops : Array Oper) (k : Nat) (h0 : List Ob) (S : Nat → St) (R : Nat → Rec) (L : Array Bool) (sR : St) : Prop where
  c1 : ∀ (j : Nat) (o : Oper) (t : Nat), j < k → L[j]? = some true → ops[j]? = some o → o.dst = some t → lookT t sR.s = (R j).v
  c2 : ∀ t : Nat, (∀ (j : Nat) (o : Oper), j < k → L[j]? = some true → ops[j]? = some o → o.dst ≠ some t) → lookT t sR.s = lookT t (S 0).s
  c3 : (sR.h = h0 ∧ ∀ j, j < k → L[j]? = some true → (R j).ob = []) ∨ ∃ j, j < k ∧ L[j]? = some true ∧ (R j).ob ≠ [] ∧ sR.h = h0 ++ (R j).ob
  c4 : ∀ (j : Nat) (o : Oper) (t : Nat) (l : Loc), j < k → L[j]? = some true → ops[j]? = some o → o.dst = some t → (R j).og = some l → (t, l) ∈ sR.og

variable {S : Nat → St} {R : Nat → Rec} {L : Array Bool} {sR : St}

/-- At most one makes a box. -/
theorem RunA.one (d : DrawOk ops k) (ra : RunA X call N ops k h0 S R) (h00 : (S 0).h = h0) {i j : Nat} (hi : i < k) (hj : j < k) (hbi : (R i).ob ≠ []) (hbj : (R j).ob ≠ []) : i = j := by
  rcases ra.h d h00 k (Nat.le_refl _) with ⟨_, h⟩ | ⟨m, _, _, _, h⟩
  · exact (hbi (h i hi)).elim
  · by_cases him : i = m
    · by_cases hjm : j = m
      · rw [him, hjm]
      · exact (hbj (h j hj hjm)).elim
    · exact (hbi (h i hi him)).elim

theorem InvA.set (d : DrawOk ops k) (ra : RunA X call N ops k h0 S R) (h00 : (S 0).h = h0) (inv : InvA ops k h0 S R L sR) (hcl : Closed ops L) {i : Nat} {o : Oper} (hi : i < k) (ho : ops[i]? = some o) (hL : L[i]? = some false) :
    InvA ops k h0 S R (L.setIfInBounds i true) ((R i).on o.dst sR) where
  c1 := fun j p t hj hl hp hd => by
    rw [on_look]
    rw [listed_set hL] at hl
    by_cases hji : j = i
    · subst hji
      rw [ho] at hp
      cases hp
      rw [if_pos hd]
    · rw [if_neg fun hh => hji (d.dist j i p o t hp hj ho hi hd hh)]
      exact inv.c1 j p t hj (hl.resolve_left hji) hp hd
  c2 := fun t h => by
    rw [on_look, if_neg (h i o hi ((listed_set hL).2 (.inl rfl)) ho)]
    exact inv.c2 t fun j p hj hl hp => h j p hj ((listed_set hL).2 (.inr hl)) hp
  c3 := by
    rw [on_h]
    have nl : L[i]? ≠ some true := by rw [hL]; simp
    by_cases hb : (R i).ob = []
    · rw [hb, List.append_nil]
      rcases inv.c3 with ⟨h1, h2⟩ | ⟨j, h1, h2, h3⟩
      · refine .inl ⟨h1, fun j hj hl => ?_⟩
        rw [listed_set hL] at hl
        rcases hl with rfl | hl
        · exact hb
        · exact h2 j hj hl
      · exact .inr ⟨j, h1, (listed_set hL).2 (.inr h2), h3⟩
    · right
      refine ⟨i, hi, (listed_set hL).2 (.inl rfl), hb, ?_⟩
      rcases inv.c3 with ⟨h1, h2⟩ | ⟨j, h1, h2, h3, _⟩
      · rw [h1]
      · have := ra.one d h00 hi h1 hb h3
        subst this
        exact (nl h2).elim
  c4 := fun j p t l hj hl hp hd hog => by
    rw [listed_set hL] at hl
    by_cases hji : j = i
    · subst hji
      rw [ho] at hp
      cases hp
      rw [hd]
      exact on_og_new hog
    · have hlj := hl.resolve_left hji
      refine on_og_keep (inv.c4 j p t l hj hlj hp hd hog) (fun hh => hji (d.dist j i p o t hp hj ho hi hd hh)) fun u hu hh => ?_
      subst hu
      obtain ⟨_, h2, _⟩ := ra.step j p hp hj
      have hlook := recA_og h2 hog
      obtain ⟨_, hanc⟩ := d.look j i p o u hp hj hlook ho hi hh
      have := hcl.anc hanc fun q hq => hcl j q hq hlj
      rw [hL] at this
      simp at this

/-- What an operation that is ready looks at is as it was in the text's order. -/
theorem InvA.see (d : DrawOk ops k) (ra : RunA X call N ops k h0 S R) (inv : InvA ops k h0 S R L sR) (hcl : Closed ops L) {i : Nat} {o : Oper} (hi : i < k) (ho : ops[i]? = some o) (hr : ∀ p, ops[i]? = some p → ∀ j ∈ directs p, L[j]? = some true) {t : Nat} (ht : t ∈ o.looksAt ops) :
    lookT t (S i).s = lookT t sR.s := by
  by_cases h : ∃ (j : Nat) (p : Oper), j < k ∧ ops[j]? = some p ∧ p.dst = some t
  · obtain ⟨j, p, hj, hp, hd⟩ := h
    obtain ⟨h1, h2⟩ := d.look i j o p t ho hi ht hp hj hd
    have hl := hcl.anc h2 hr
    rw [ra.new d hp hd i (by omega) h1, inv.c1 j p t hj hl hp hd]
  · have hno : ∀ (j : Nat) (p : Oper), j < k → ops[j]? = some p → p.dst ≠ some t := fun j p hj hp hd => h ⟨j, p, hj, hp, hd⟩
    rw [ra.old d t i (by omega) fun j p hj hp => hno j p (by omega) hp, inv.c2 t fun j p hj _ hp => hno j p hj hp]

/-- Where all the first operations are done. -/
theorem InvA.done (d : DrawOk ops k) (ra : RunA X call N ops k h0 S R) (h00 : (S 0).h = h0) (hog : (S 0).og = []) (inv : InvA ops k h0 S R L sR) (hall : ∀ j, j < k → L[j]? = some true) {a : Act} {w : World} {g : Gh} (rl : Rel X base N sR a w g) : Rel X base N (S k) a w g := by
  have hh : sR.h = (S k).h := by
    rcases ra.h d h00 k (Nat.le_refl _) with ⟨h1, h2⟩ | ⟨m, h1, h2, h3, _⟩
    · rcases inv.c3 with ⟨k1, _⟩ | ⟨j, k1, _, k3, _⟩
      · rw [k1, h1]
      · exact (k3 (h2 j k1)).elim
    · rcases inv.c3 with ⟨_, k2⟩ | ⟨j, k1, _, k3, k4⟩
      · exact (h2 (k2 m h1 (hall m h1))).elim
      · have := ra.one d h00 h1 k1 h2 k3
        subst this
        rw [k4, h3]
  refine ⟨rl.defers, rl.size, fun t => ?_, ?_, ?_, fun t l hm => ?_⟩
  · have : lookT t (S k).s = lookT t sR.s := by
      by_cases h : ∃ (j : Nat) (p : Oper), j < k ∧ ops[j]? = some p ∧ p.dst = some t
      · obtain ⟨j, p, hj, hp, hd⟩ := h
        rw [ra.new d hp hd k (Nat.le_refl _) hj, inv.c1 j p t hj (hall j hj) hp hd]
      · have hno : ∀ (j : Nat) (p : Oper), j < k → ops[j]? = some p → p.dst ≠ some t := fun j p hj hp hd => h ⟨j, p, hj, hp, hd⟩
        rw [ra.old d t k (Nat.le_refl _) hno, inv.c2 t fun j p hj _ hp => hno j p hj hp]
    rw [this]
    exact rl.slots t
  · rw [← hh]; exact rl.sit
  · rw [← hh]; exact rl.low
  · obtain ⟨j, o, h1, h2, h3, h4⟩ := ra.og d hog k (Nat.le_refl _) t l hm
    exact rl.og t l (inv.c4 j o t l h1 (hall j h1) h2 h3 h4)

theorem guardOf_see {st sR : St} {o : Oper} (h : ∀ t, t ∈ o.looksAt ops → lookT t st.s = lookT t sR.s) : guardOf X ops st o = guardOf X ops sR o := by
  unfold guardOf
  cases hg : o.guard with
  | none => rfl
  | some jw =>
    obtain ⟨j, want⟩ := jw
    simp only
    cases ht : (ops[j]?).bind (·.dst) with
    | none => rfl
    | some t =>
      have : t ∈ o.looksAt ops := by
        refine List.mem_append_right _ ?_
        rw [hg]
        simp only [ht]
        simp
      simp only [St.get]
      rw [h t this]

/-- Where a run is. -/
def Phase (X : Ctx) (call : CallF) (base N : Nat) (ops : Array Oper) (k : Nat) (h0 : List Ob) (S : Nat → St) (R : Nat → Rec) (stE : St) (L : Array Bool) (a : Act) (w : World) (g : Gh) : Prop :=
  ((∀ i, k ≤ i → L[i]? ≠ some true) ∧ ∃ sR, InvA ops k h0 S R L sR ∧ Rel X base N sR a w g) ∨
  ∃ m st, k ≤ m ∧ m ≤ ops.size ∧ (∀ j, L[j]? = some true ↔ j < m) ∧ runOps X call base N ops (ops.toList.drop m) st = some stE ∧ Rel X base N st a w g

section
variable {stE : St} {a : Act} {w : World} {g : Gh}

theorem Phase.second (d : DrawOk ops k) (ra : RunA X call N ops k h0 S R) (h00 : (S 0).h = h0) (hog : (S 0).og = []) (hB : runOps X call base N ops (ops.toList.drop k) (S k) = some stE) (h : Phase X call base N ops k h0 S R stE L a w g) (hall : ∀ j, j < k → L[j]? = some true) :
    ∃ m st, k ≤ m ∧ m ≤ ops.size ∧ (∀ j, L[j]? = some true ↔ j < m) ∧ runOps X call base N ops (ops.toList.drop m) st = some stE ∧ Rel X base N st a w g := by
  rcases h with ⟨h1, sR, h2, h3⟩ | h
  · refine ⟨k, S k, Nat.le_refl _, d.hk, fun j => ⟨fun hj => ?_, hall j⟩, hB, h2.done d ra h00 hog hall h3⟩
    apply Classical.byContradiction
    intro hn
    exact h1 j (by omega) hj
  · exact h

theorem draw_any (d : DrawOk ops k) (hc : CallPOk X call) (hci : CallIOk X call) (ra : RunA X call N ops k h0 S R) (h00 : (S 0).h = h0) (hog : (S 0).og = []) (hB : runOps X call base N ops (ops.toList.drop k) (S k) = some stE) {Q : Exit → Act → World → Prop} {g0 : Gh} {w0 : World} (hK : Goes X base N stE g0 w0 (fun a w => Q .normal a w)) :
    ∀ (fuel : Nat) (L : Array Bool) (a : Act) (w : World) (g : Gh), unl L = fuel → L.size = ops.size → Closed ops L → Later g0 w0 g w → Phase X call base N ops k h0 S R stE L a w g → wpAny X.P .any ops Q fuel L a w := by
  have fin : ∀ (L : Array Bool) (a : Act) (w : World) (g : Gh), L.size = ops.size → Later g0 w0 g w → Phase X call base N ops k h0 S R stE L a w g → (∀ i, i < ops.size → L[i]? = some true) → Q .normal a w := by
    intro L a w g hs hl hp hall
    obtain ⟨m, st, h1, h2, h3, h4, h5⟩ := hp.second d ra h00 hog hB fun j hj => hall j (by have := d.hk; omega)
    have hm : m = ops.size := by
      apply Classical.byContradiction
      intro hn
      have := (h3 m).1 (hall m (by omega))
      omega
    subst hm
    rw [show ops.toList.drop ops.size = [] by simp] at h4
    simp [runOps] at h4
    subst h4
    exact hK a w g hl h5
  intro fuel
  induction fuel with
  | zero =>
    intro L a w g hu hs hcl hl hp
    have hall : ∀ i, i < ops.size → L[i]? = some true := fun i hi => unl_zero hu (by omega)
    refine ⟨?_, fin L a w g hs hl hp hall⟩
    apply List.eq_nil_iff_forall_not_mem.2
    intro i hi
    have h1 := ((ready_iff hs).1 hi).1
    have hlt := (Array.getElem?_eq_some_iff.1 h1).1
    rw [hall i (by omega)] at h1
    simp at h1
  | succ fuel ih =>
    intro L a w g hu hs hcl hl hp
    refine ⟨fun hr => fin L a w g hs hl hp (ready_ne d hs hr), fun i hi => ?_⟩
    obtain ⟨hi1, hi2⟩ := (ready_iff hs).1 hi
    have hlt : i < ops.size := by have := (Array.getElem?_eq_some_iff.1 hi1).1; omega
    have ho : ops[i]? = some ops[i] := Array.getElem?_eq_getElem hlt
    generalize ops[i] = o at ho
    have hcl' := hcl.set hi1 hi2
    have hs' : (L.setIfInBounds i true).size = ops.size := by simpa using hs
    have hu' : unl (L.setIfInBounds i true) = fuel := by have := unl_set hi1; omega
    have nl : L[i]? ≠ some true := by rw [hi1]; simp
    unfold wpOp
    simp only [ho]
    by_cases hik : i < k
    · rcases hp with ⟨h1, sR, inv, rl⟩ | ⟨m, st, h1, h2, h3, _⟩
      · obtain ⟨hN, hrec, hnext⟩ := ra.step i o ho hik
        have hsee : ∀ t, t ∈ o.looksAt ops → lookT t (S i).s = lookT t sR.s := fun t ht => inv.see d ra hcl hik ho hi2 ht
        have hhs : ∃ hs, sR.h = h0 ++ hs ∧ ((R i).ob ≠ [] → hs = []) := by
          rcases inv.c3 with ⟨k1, _⟩ | ⟨j, k1, k2, k3, k4⟩
          · exact ⟨[], by simpa using k1, fun _ => rfl⟩
          · refine ⟨_, k4, fun hb => ?_⟩
            have := ra.one d h00 hik k1 hb k3
            subst this
            exact (nl k2).elim
        obtain ⟨hs2, hh, hob⟩ := hhs
        refine stepA_sound hrec (fun x hx => ?_) (guardOf_see hsee) hh hob hN rl hc fun a' w' g' l' r' => ?_
        · cases x with
          | tmp t => exact hsee t (List.mem_append_left _ (List.mem_filterMap.2 ⟨.tmp t, by simpa using hx, rfl⟩))
          | _ => rfl
        · refine ih _ a' w' g' hu' hs' hcl' (hl.trans l') (.inl ⟨fun j hj hjl => ?_, _, inv.set d ra h00 hcl hik ho hi1, r'⟩)
          rw [listed_set hi1] at hjl
          rcases hjl with rfl | hjl
          · omega
          · exact h1 j hj hjl
      · exact (nl ((h3 i).2 (by omega))).elim
    · have hbelow : ∀ j, j < i → L[j]? = some true := fun j hj => hcl.anc (d.full i (by omega) hlt j hj) hi2
      obtain ⟨m, st, h1, h2, h3, h4, rl⟩ := hp.second d ra h00 hog hB fun j hj => hbelow j (by omega)
      have hmi : m = i := by
        have e1 : ¬ i < m := fun hh => nl ((h3 i).2 hh)
        have e2 : ¬ m < i := fun hh => by have := (h3 m).1 (hbelow m hh); omega
        omega
      subst hmi
      have hdrop : ops.toList.drop m = o :: ops.toList.drop (m + 1) := by
        rw [List.drop_eq_getElem_cons (by simpa using hlt)]
        congr 1
        have := Array.getElem?_eq_some_iff.1 ho
        simpa using this.2
      rw [hdrop] at h4
      simp only [runOps] at h4
      have ph : ∀ (st1 : St) (a' : Act) (w' : World) (g' : Gh), runOps X call base N ops (ops.toList.drop (m + 1)) st1 = some stE → Rel X base N st1 a' w' g' → Phase X call base N ops k h0 S R stE (L.setIfInBounds m true) a' w' g' := by
        intro st1 a' w' g' hrun r'
        refine .inr ⟨m + 1, st1, by omega, by omega, fun j => ?_, hrun, r'⟩
        rw [listed_set hi1, h3 j]
        omega
      split at h4
      · rename_i hN
        split at h4
        · rename_i hg
          rw [if_pos (guard_sound hg rl)]
          left
          split at h4
          · rename_i st1 hst
            exact step_sound hst hN rl hc hci fun a' w' g' l' r' => ih _ a' w' g' hu' hs' hcl' (hl.trans l') (ph st1 a' w' g' h4 r')
          · cases h4
        · rename_i hg
          rw [if_neg (by rw [guard_sound hg rl]; simp)]
          exact ih _ _ w g hu' hs' hcl' hl (ph _ _ w g h4 (rl.put hN fun d _ => .d _ _ _ (.tup [] [] rfl (by intro j v d hj; simp at hj))))
        · cases h4
      · cases h4

theorem draw_sound {id : Nat} {st st' : St} (hd : drawOk ops = some k) (h : runDraw X call base N ops k st = some st') (hog : st.og = []) (hc : CallPOk X call) (hci : CallIOk X call) (rl : Rel X base N st a w g) {Q : Exit → Act → World → Prop}
    (hK : Goes X base N st' g w (fun a w => Q .normal a w)) : (Code.region id ops true).wp X.P Q a w := by
  have d := drawOk_spec hd
  unfold runDraw at h
  split at h
  · rename_i hm
    split at h
    · rename_i st1 hA
      obtain ⟨S, R, ra, h0, h1⟩ := runA_run d.hk hA
      rw [← h1] at h
      have kp : Keep g w g { w with drawn := w.drawn + 1 } := ⟨⟨rfl, rfl, rfl, Nat.le_refl _, fun _ _ => rfl, fun _ _ => rfl, fun _ _ => rfl, fun _ _ h => h, rfl, rl.sit.fresh⟩, rfl⟩
      refine wp_region_any hm (draw_any (g0 := g) (w0 := w) d hc hci ra (by rw [h0]) (by rw [h0]; exact hog) h hK ops.size _ a _ g (unl_start _) (by simp) ?_ (kp.later rl.sit.fresh) (.inl ⟨?_, S 0, ⟨?_, ?_, ?_, ?_⟩, ?_⟩))
      · intro i o ho hl j hj
        rw [Array.getElem?_replicate] at hl
        split at hl <;> simp at hl
      · intro i _ hl
        rw [Array.getElem?_replicate] at hl
        split at hl <;> simp at hl
      · intro j o t _ hl
        rw [Array.getElem?_replicate] at hl
        split at hl <;> simp at hl
      · intro t _; rfl
      · refine .inl ⟨by rw [h0], fun j _ hl => ?_⟩
        rw [Array.getElem?_replicate] at hl
        split at hl <;> simp at hl
      · intro j o t l _ hl
        rw [Array.getElem?_replicate] at hl
        split at hl <;> simp at hl
      · rw [h0]; exact rl.keep kp
    · cases h
  · cases h
end
end

end Go.Proofs.Ytaobccodpdmieaa.Pv
