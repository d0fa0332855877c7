/- Pv: operations one behind the other. -/
import Derived.Test.YtaobccodpdmieaaPvStep6
set_option linter.unusedSimpArgs false
set_option linter.unusedVariables false
namespace Go.Proofs.Ytaobccodpdmieaa.Pv
open Go

section
variable {X : Ctx} {base N : Nat} {st : St} {a : Act} {w : World} {g : Gh} {call : CallF} {o : Oper} {ops : Array Oper}

theorem Goes.trans {st' : St} {w1 : World} {g1 : Gh} {K : Act → World → Prop} (h : Goes X base N st' g w K) (l : Later g w g1 w1) : Goes X base N st' g1 w1 K :=
  fun a' w' g' k r => h a' w' g' (l.trans k) r

theorem tmp_some {a : Act} {t : Nat} {v : Value} (h : a.tmps.getD t undef = v) (hv : v ≠ undef) : a.tmps[t]? = some v := by
  rw [Array.getD_eq_getD_getElem?] at h
  cases hh : a.tmps[t]? with
  | none => rw [hh] at h; exact absurd h.symm hv
  | some u => rw [hh] at h; simpa using h

theorem guard_sound {b : Bool} (h : guardOf X ops st o = some b) (r : Rel X base N st a w g) : Region.wanted o (yielded ops a.tmps) = b := by
  unfold guardOf at h
  cases hg : o.guard with
  | none => simp [hg] at h; simp [Region.wanted, hg, h]
  | some jw =>
    obtain ⟨j, want⟩ := jw
    simp only [hg] at h
    cases ht : (ops[j]?).bind (·.dst) with
    | none => simp [ht] at h
    | some t =>
      simp only [ht] at h
      have hs := r.slots t
      simp only [Region.wanted, hg, yielded, ht, Option.bind_some]
      split at h
      · rename_i c hc
        simp only [St.get] at hc
        rw [hc] at hs
        generalize hv : a.tmps.getD t undef = v at hs
        cases hs with
        | d _ _ _ hd =>
          cases hd
          rw [tmp_some hv (by simp [undef])]
          simp at h
          rw [← h]
          cases c <;> cases want <;> rfl
      · rename_i hc
        simp only [St.get] at hc
        rw [hc] at hs
        generalize hv : a.tmps.getD t undef = v at hs
        simp at h
        subst h
        cases hs with
        | d _ _ _ hd =>
          cases hd with
          | tup vals cells hl _ =>
            cases hh : a.tmps[t]? with
            | none => rfl
            | some u =>
              rw [Array.getD_eq_getD_getElem?, hh] at hv
              simp at hv
              subst hv
              rfl
      · cases h

theorem runOps_sound (hc : CallPOk X call) (hci : CallIOk X call) {Q : Exit → Act → World → Prop} : ∀ (l : List Oper) (st st' : St) (a : Act) (w : World) (g : Gh), runOps X call base N ops l st = some st' → Rel X base N st a w g →
    Goes X base N st' g w (fun a w => Q .normal a w) → wpList X.P ops Q l a w := by
  intro l
  induction l with
  | nil =>
    intro st st' a w g h r hK
    simp [runOps] at h
    subst h
    exact hK a w g (Later.refl g w) r
  | cons o rest ih =>
    intro st st' a w g h r hK
    simp only [runOps] at h
    split at h
    · rename_i hN
      unfold wpList
      split at h
      · rename_i hg
        rw [if_pos (guard_sound hg r)]
        left
        split at h
        · rename_i st1 hs
          exact step_sound hs hN r hc hci fun a' w' g' l r' => ih st1 st' a' w' g' h r' (hK.trans l)
        · cases h
      · rename_i hg
        rw [if_neg (by rw [guard_sound hg r]; simp)]
        exact ih _ st' _ w g h (r.put hN fun d _ => .d _ _ _ (.tup [] [] rfl (by intro j v d hj; simp at hj))) hK
      · cases h
    · cases h
end

end Go.Proofs.Ytaobccodpdmieaa.Pv
