/- Pv: what a function hands back. -/
import Derived.Test.YtaobccodpdmieaaPvExec
set_option linter.unusedSimpArgs false
set_option linter.unusedVariables false
namespace Go.Proofs.Ytaobccodpdmieaa.Pv
open Go

section
variable {X : Ctx} {base N : Nat} {st : St} {a : Act} {w : World} {g : Gh}

def resRun (tmps : Array Value) : ResultVar → Sem Value
  | .tmp t => pure (tmps.getD t undef)
  | .cell b t => do loadVar t (← asAddr (tmps.getD b undef))

theorem resultOf_sound {rv : ResultVar} {y : V} (h : resultOf X st rv = some y) (r : Rel X base N st a w g) :
    ∃ v q, (resRun a.tmps rv).run X.P w = .ok v w ∧ RepV X w g q v y ∧ (q = .free ∨ ∃ t, q = .slot t) := by
  cases rv with
  | tmp t =>
    simp only [resultOf, Option.some.injEq] at h
    subst h
    exact ⟨_, .slot t, rfl, r.slots t, .inr ⟨t, rfl⟩⟩
  | cell b t =>
    have hl : loadOp X (st.get X) st.h t (.tmp b) = some y := by
      simp only [resultOf] at h
      simp only [loadOp, St.get]
      split at h
      · rename_i id off hb
        rw [hb]
        simp only
        split at h
        · rename_i vs hh; rw [hh]; exact h
        · rename_i ds hh; rw [hh]; exact h
        · cases h
      · rename_i c off hb
        rw [hb]
        exact h
      · cases h
    obtain ⟨u, h1, h2⟩ := load_sound hl (r.slots b) r.sit.heap .free
    refine ⟨u, .free, ?_, h2, .inl rfl⟩
    unfold Instr.loadAt at h1
    cases hv : a.tmps.getD b undef with
    | pointer ad =>
      cases ad with
      | some ad =>
        rw [hv] at h1
        simp only [resRun, hv, asAddr, pure_bind]
        simpa [Instr.sureAddr] using h1
      | none => rw [hv] at h1; simp [Instr.sureAddr] at h1
    | _ => rw [hv] at h1; simp [Instr.sureAddr] at h1

def oneOf : List Value → Value
  | [v] => v
  | vals => .tuple ⟨vals⟩

theorem results_run {fn : Func} {vals : List Value} (h : (fn.results.toList.mapM (resRun a.tmps)).run X.P w = .ok vals w) :
    (Go.results fn a.tmps).run X.P w = .ok (oneOf vals) w := by
  have hres : Go.results fn a.tmps = (do let vs ← fn.results.mapM (resRun a.tmps); pure (if h : vs.size = 1 then vs[0] else .tuple vs)) := by
    unfold Go.results
    congr 1
  rw [hres, Array.mapM_eq_mapM_toList]
  simp only [map_eq_pure_bind, bind_assoc, pure_bind]
  rw [Sem.run_bind, h]
  simp only [Result.andThen_ok]
  match vals with
  | [] => simp [oneOf]
  | [v] => simp [oneOf]
  | v :: u :: l => simp [oneOf]

theorem resultsOf_sound {fn : Func} (r : Rel X base N st a w g) : ∀ (rs : List ResultVar) (ys : List V), resultsOf X st rs = some ys →
    ∃ vals, (rs.mapM (resRun a.tmps)).run X.P w = .ok vals w ∧ PtV X w g vals (ys.map V.copy) ∧ vals.length = rs.length := by
  intro rs
  induction rs with
  | nil =>
    intro ys h
    simp only [resultsOf, Option.some.injEq] at h
    subst h
    exact ⟨[], rfl, ⟨rfl, by intro j v x h; simp at h⟩, rfl⟩
  | cons rv rs ih =>
    intro ys h
    simp only [resultsOf] at h
    split at h
    · rename_i v vs h1 h2
      simp at h
      subst h
      obtain ⟨u, q, k1, k2, _⟩ := resultOf_sound h1 r
      obtain ⟨us, k3, k4, k5⟩ := ih _ h2
      refine ⟨u :: us, ?_, ⟨by simp [k4.1], fun j v' x hj hx => ?_⟩, by simp [k5]⟩
      · rw [List.mapM_cons, Sem.run_bind, k1]
        simp only [Result.andThen_ok]
        rw [Sem.run_bind, k3]
        simp
      · cases j with
        | zero => simp at hj hx; subst hj; subst hx; exact k2.copy
        | succ j => simp at hj hx; exact k4.2 j v' x hj (by simpa using hx)
    · cases h

theorem frzAll_none (hf : ∀ t, X.frz t = false) : ∀ (ts : List TypeId) (h : List Ob) (vs : List V) (r : List V × List Ob), frzAll X ts h vs = some r → r = (vs.map V.copy, h) := by
  intro ts
  induction ts with
  | nil => intro h vs r hr; cases vs <;> simp [frzAll] at hr; simp [← hr]
  | cons t ts ih =>
    intro h vs r hr
    cases vs with
    | nil => simp [frzAll] at hr; simp [← hr]
    | cons v vs =>
      simp only [frzAll, frzRes, hf, Bool.false_eq_true, if_false] at hr
      split at hr
      · rename_i vs' h' he
        have := ih _ _ _ he
        simp at hr this
        rw [← hr, this.1, this.2]
        simp
      · cases hr

theorem results_sound {fn : Func} {y : V} {h' : List Ob} (hf : ∀ t, X.frz t = false) (h : Pv.results X fn st = some (y, h')) (r : Rel X base N st a w g) :
    h' = st.h ∧ ∃ v q, (Go.results fn a.tmps).run X.P w = .ok v w ∧ RepV X w g q v y ∧ (q = .free ∨ ∃ t, q = .slot t) := by
  unfold Pv.results at h
  split at h
  · rename_i rv t hr ht
    split at h
    · rename_i v hv
      simp [frzRes, hf] at h
      obtain ⟨rfl, rfl⟩ := h
      obtain ⟨u, q, k1, k2, k3⟩ := resultOf_sound hv r
      refine ⟨rfl, u, q, ?_, k2, k3⟩
      exact results_run (vals := [u]) (by rw [hr, List.mapM_cons, Sem.run_bind, k1]; simp)
    · cases h
  · cases h
  · rename_i hne1 hne2
    split at h
    · rename_i vs hv
      cases hfz : frzAll X fn.resultTypes.toList st.h vs with
      | none => rw [hfz] at h; simp at h
      | some rr =>
        rw [hfz] at h
        have := frzAll_none hf _ _ _ _ hfz
        subst this
        simp only [Option.map_some, Option.some.injEq, Prod.mk.injEq] at h
        obtain ⟨h1, h2⟩ := h
        obtain ⟨vals, k1, k2, k3⟩ := resultsOf_sound (fn := fn) r _ _ hv
        refine ⟨h2.symm, _, .free, results_run k1, ?_, .inl rfl⟩
        have hl : vals.length ≠ 1 := by
          rw [k3]
          intro hl
          obtain ⟨rv, hrv⟩ := List.length_eq_one_iff.1 hl
          exact hne1 rv hrv
        have hm : oneOf vals = .tuple ⟨vals⟩ := by
          match vals with
          | [] => rfl
          | [v] => simp at hl
          | v :: u :: l => rfl
        rw [hm, ← h1]
        split
        · rename_i ds hds
          refine .d _ _ _ ?_
          have := k2.toDs hds
          exact .tup _ _ this.1 this.2
        · exact .tup _ _ _ k2.1 k2.2
    · cases h
end

end Go.Proofs.Ytaobccodpdmieaa.Pv
