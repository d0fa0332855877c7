/- Pv: the first operations of a region whose operations come in any order. -/
import Derived.Test.YtaobccodpdmieaaPvDraw1
set_option linter.unusedSimpArgs false
set_option linter.unusedVariables false
namespace Go.Proofs.Ytaobccodpdmieaa.Pv
open Go

section
variable {X : Ctx} {base N k : Nat} {call : CallF} {ops : Array Oper} {h0 : List Ob}

/-- The run in the text's order, state by state. -/
structure RunA (X : Ctx) (call : CallF) (N : Nat) (ops : Array Oper) (k : Nat) (h0 : List Ob) (S : Nat → St) (R : Nat → Rec) : Prop where
  step : ∀ (i : Nat) (o : Oper), ops[i]? = some o → i < k → dstOk N o = true ∧ recA X call ops h0 o (S i) = some (R i) ∧ S (i + 1) = (R i).on o.dst (S i)

theorem runA_states (l : List Oper) : ∀ st st', runA X call N ops h0 l st = some st' → ∃ S : Nat → St, ∃ R : Nat → Rec, S 0 = st ∧ S l.length = st' ∧
    ∀ (i : Nat) (o : Oper), l[i]? = some o → dstOk N o = true ∧ recA X call ops h0 o (S i) = some (R i) ∧ S (i + 1) = (R i).on o.dst (S i) := by
  induction l with
  | nil =>
    intro st st' h
    simp [runA] at h
    exact ⟨fun _ => st, fun _ => ⟨und, none, []⟩, rfl, h, by intro i o hi; simp at hi⟩
  | cons o l ih =>
    intro st st' h
    simp only [runA] at h
    split at h
    · rename_i hN
      split at h
      · rename_i rc hrc
        obtain ⟨S, R, h1, h2, h3⟩ := ih _ _ h
        refine ⟨fun i => match i with | 0 => st | i + 1 => S i, fun i => match i with | 0 => rc | i + 1 => R i, rfl, h2, fun i p hi => ?_⟩
        cases i with
        | zero => simp at hi; subst hi; exact ⟨hN, hrc, h1⟩
        | succ i => simp at hi; exact h3 i p hi
      · cases h
    · cases h

theorem runA_run {st st' : St} (hk : k ≤ ops.size) (h : runA X call N ops h0 (ops.toList.take k) st = some st') : ∃ S R, RunA X call N ops k h0 S R ∧ S 0 = st ∧ S k = st' := by
  obtain ⟨S, R, h1, h2, h3⟩ := runA_states _ _ _ h
  refine ⟨S, R, ⟨fun i o ho hi => h3 i o (by rw [List.getElem?_take, if_pos hi]; simpa using ho)⟩, h1, ?_⟩
  rw [← h2, List.length_take, Array.length_toList, Nat.min_eq_left hk]

theorem lookT_put (st : St) (dst : Option Tmp) (v : V) (t : Nat) : lookT t (st.put dst v).s = if dst = some t then v else lookT t st.s := by
  cases dst with
  | none => simp [St.put]
  | some d =>
    simp only [St.put, lookT, Option.some.injEq]
    by_cases h : d = t
    · subst h; simp
    · rw [if_neg h]; simp [h]
theorem put_h (st : St) (dst : Option Tmp) (v : V) : (st.put dst v).h = st.h := by cases dst <;> rfl
theorem setOg_s (st : St) (dst : Option Tmp) (l : Loc) : (setOg st dst l).s = st.s := by cases dst <;> rfl
theorem setOg_h (st : St) (dst : Option Tmp) (l : Loc) : (setOg st dst l).h = st.h := by cases dst <;> rfl
theorem on_look (r : Rec) (dst : Option Tmp) (st : St) (t : Nat) : lookT t (r.on dst st).s = if dst = some t then r.v else lookT t st.s := by
  unfold Rec.on
  split
  · rw [setOg_s, lookT_put]
  · rw [lookT_put]
theorem on_h (r : Rec) (dst : Option Tmp) (st : St) : (r.on dst st).h = st.h ++ r.ob := by
  unfold Rec.on
  split
  · rw [setOg_h, put_h]
  · rw [put_h]
theorem on_og (r : Rec) (dst : Option Tmp) (st : St) {t : Nat} {l : Loc} (h : (t, l) ∈ (r.on dst st).og) : (t, l) ∈ st.og ∨ (dst = some t ∧ r.og = some l) := by
  have hput : ∀ (s1 : St), (t, l) ∈ (s1.put dst r.v).og → (t, l) ∈ s1.og := by
    intro s1 h
    cases dst with
    | none => exact h
    | some d => simp only [St.put, List.mem_filter] at h; exact h.1
  unfold Rec.on at h
  split at h
  · rename_i l' hl
    cases dst with
    | none => exact .inl (hput { st with h := st.h ++ r.ob } h)
    | some d =>
      simp only [setOg, List.mem_cons, Prod.mk.injEq] at h
      rcases h with ⟨rfl, rfl⟩ | h
      · exact .inr ⟨rfl, hl⟩
      · exact .inl (hput { st with h := st.h ++ r.ob } h)
  · exact .inl (hput { st with h := st.h ++ r.ob } h)

/-- At most one makes a box. -/
theorem recA_ob {o : Oper} {st : St} {r : Rec} (h : recA X call ops h0 o st = some r) : r.ob = [] ∨ (st.h.length = h0.length ∧ ∃ ob, r.ob = [ob]) := by
  unfold recA at h
  split at h
  · simp at h; subst h; exact .inl rfl
  · split at h
    · split at h
      · simp at h; subst h; exact .inl rfl
      · split at h <;> simp at h <;> subst h <;> exact .inl rfl
      · simp at h; subst h; exact .inl rfl
    · split at h
      · split at h
        · split at h
          · rename_i hc
            simp at h
            subst h
            simp only [Bool.and_eq_true, beq_iff_eq] at hc
            exact .inr ⟨hc.2, _, rfl⟩
          · cases h
        · cases h
      · cases h
  · cases h

section
variable {S : Nat → St} {R : Nat → Rec} (d : DrawOk ops k) (ra : RunA X call N ops k h0 S R)

theorem DrawOk.op (d : DrawOk ops k) (i : Nat) (hi : i < k) : ∃ o, ops[i]? = some o := ⟨ops[i]'(by have := d.hk; omega), Array.getElem?_eq_getElem _⟩

include d ra

/-- What no operation so far writes is as it was. -/
theorem RunA.old (t : Nat) : ∀ m, m ≤ k → (∀ (j : Nat) (o : Oper), j < m → ops[j]? = some o → o.dst ≠ some t) → lookT t (S m).s = lookT t (S 0).s := by
  intro m
  induction m with
  | zero => intro _ _; rfl
  | succ m ih =>
    intro hm h
    obtain ⟨o, ho⟩ := d.op m (by omega)
    obtain ⟨_, _, h3⟩ := ra.step m o ho (by omega)
    rw [h3, on_look, if_neg (h m o (by omega) ho)]
    exact ih (by omega) fun j p hj hp => h j p (by omega) hp

/-- What one of them writes is what it came to. -/
theorem RunA.new {j : Nat} {o : Oper} {t : Nat} (ho : ops[j]? = some o) (hd : o.dst = some t) : ∀ m, m ≤ k → j < m → lookT t (S m).s = (R j).v := by
  intro m
  induction m with
  | zero => intro _ h; omega
  | succ m ih =>
    intro hm hj
    obtain ⟨p, hp⟩ := d.op m (by omega)
    obtain ⟨_, _, h3⟩ := ra.step m p hp (by omega)
    rw [h3, on_look]
    by_cases hjm : j = m
    · subst hjm
      rw [ho] at hp
      cases hp
      rw [if_pos hd]
    · rw [if_neg fun hh => hjm (d.dist j m o p t ho (by omega) hp (by omega) hd hh)]
      exact ih (by omega) (by omega)

/-- Where something was read from. -/
theorem RunA.og (h00 : (S 0).og = []) : ∀ m, m ≤ k → ∀ (t : Nat) (l : Loc), (t, l) ∈ (S m).og → ∃ (j : Nat) (o : Oper), j < m ∧ ops[j]? = some o ∧ o.dst = some t ∧ (R j).og = some l := by
  intro m
  induction m with
  | zero => intro _ t l h; rw [h00] at h; cases h
  | succ m ih =>
    intro hm t l h
    obtain ⟨p, hp⟩ := d.op m (by omega)
    obtain ⟨_, _, h3⟩ := ra.step m p hp (by omega)
    rw [h3] at h
    rcases on_og _ _ _ h with h | ⟨h, h'⟩
    · obtain ⟨j, o, h1, h2⟩ := ih (by omega) t l h
      exact ⟨j, o, by omega, h2⟩
    · exact ⟨m, p, by omega, hp, h, h'⟩

theorem RunA.h (hh : (S 0).h = h0) : ∀ m, m ≤ k → ((S m).h = h0 ∧ ∀ j, j < m → (R j).ob = []) ∨ ∃ j, j < m ∧ (R j).ob ≠ [] ∧ (S m).h = h0 ++ (R j).ob ∧ ∀ i, i < m → i ≠ j → (R i).ob = [] := by
  intro m
  induction m with
  | zero => intro _; exact .inl ⟨hh, by intro j hj; omega⟩
  | succ m ih =>
    intro hm
    obtain ⟨p, hp⟩ := d.op m (by omega)
    obtain ⟨_, h2, h3⟩ := ra.step m p hp (by omega)
    have ho := recA_ob h2
    rw [h3, on_h]
    rcases ih (by omega) with ⟨k1, k2⟩ | ⟨j, k1, k2, k3, k4⟩
    · rcases ho with ho | ⟨_, ob, ho⟩
      · left
        refine ⟨by rw [k1, ho]; simp, fun j hj => ?_⟩
        by_cases hjm : j = m
        · rw [hjm]; exact ho
        · exact k2 j (by omega)
      · right
        exact ⟨m, by omega, by rw [ho]; simp, by rw [k1], fun i hi hne => k2 i (by omega)⟩
    · right
      rcases ho with ho | ⟨hl, _⟩
      · refine ⟨j, by omega, k2, by rw [k3, ho]; simp, fun i hi hne => ?_⟩
        by_cases him : i = m
        · rw [him]; exact ho
        · exact k4 i (by omega) hne
      · rw [k3] at hl
        simp at hl
        exact (k2 hl).elim
end
end

/-- A load from old boxes is the same where there are more. -/
theorem loadOp_more {X : Ctx} {ρ : Operand → V} {h : List Ob} {t : TypeId} {p : Operand} {v : V} (hs : List Ob) (hv : loadOp X ρ h t p = some v) : loadOp X ρ (h ++ hs) t p = some v := by
  unfold loadOp at hv ⊢
  split at hv
  · exact hv
  · rename_i id off hp
    cases hh : h[id]? with
    | none => rw [hh] at hv; cases hv
    | some o =>
      have : (h ++ hs)[id]? = some o := by rw [List.getElem?_append_left (List.getElem?_eq_some_iff.1 hh).1]; exact hh
      rw [hh] at hv
      simp only [this]
      exact hv
  · cases hv

theorem valOp_more {X : Ctx} {call : CallF} {ρ : Operand → V} {h : List Ob} {o : Oper} {v : V} (hs : List Ob) (hv : valOp X call ρ h o = some v) : valOp X call ρ (h ++ hs) o = some v := by
  unfold valOp at hv ⊢
  cases hop : o.op <;> simp only [hop] at hv ⊢ <;> first | exact hv | exact loadOp_more hs hv

end Go.Proofs.Ytaobccodpdmieaa.Pv
