/- Pv: structs of plain fields, compared. -/
import Derived.Test.YtaobccodpdmieaaPvVal5
set_option linter.unusedSimpArgs false
set_option linter.unusedVariables false
namespace Go.Proofs.Ytaobccodpdmieaa.Pv
open Go

section
variable {P : Program} {w : World} {e : Nat → Nat}

theorem part_leaf {t : TypeId} {vals : List Value} {off : Nat} {v : Value} (hu : (∃ k, P.underlying t = some (.int k)) ∨ P.underlying t = some .bool ∨ P.underlying t = some .string) (hv : vals[off]? = some v) : (part t ⟨vals⟩ off).run P w = .ok v w := by
  have h : (⟨vals⟩ : Array Value)[off]? = some v := by simpa using hv
  rcases hu with ⟨k, hu⟩ | hu | hu <;> simp [part, isAgg, run_underlying hu, h]

theorem eqLeaf_run {t : TypeId} {xs ys : List D} {vs us : List Value} {off d : Nat} {b : Bool} (h : eqLeaf P t xs[off]? ys[off]? = some b) (hx : PtD w e vs xs) (hy : PtD w e us ys) :
    ∃ v u, (part t ⟨vs⟩ off).run P w = .ok v w ∧ (part t ⟨us⟩ off).run P w = .ok u w ∧ (Op.equalIn (d + 1) t v u).run P w = .ok b w := by
  have get : ∀ {vals : List Value} {ds : List D} {x : D}, PtD w e vals ds → ds[off]? = some x → ∃ v, vals[off]? = some v ∧ RepD w e v x := by
    intro vals ds x hp hd
    have hlt : off < vals.length := by rw [hp.1]; exact (List.getElem?_eq_some_iff.1 hd).1
    exact ⟨vals[off], List.getElem?_eq_getElem hlt, hp.2 off _ x (List.getElem?_eq_getElem hlt) hd⟩
  unfold eqLeaf at h
  split at h
  · rename_i k a k' c h1 h2
    obtain ⟨v, hv, rv⟩ := get hx h1
    obtain ⟨u, hu, ru⟩ := get hy h2
    split at h
    · rename_i kk hk
      split at h
      · rename_i hkk
        simp at h
        subst h; subst hkk
        cases rv; cases ru
        exact ⟨_, _, part_leaf (.inl ⟨_, hk⟩) hv, part_leaf (.inl ⟨_, hk⟩) hu, run_equalIn_int w d t _ _ _ _ hk⟩
      · cases h
    · cases h
  · rename_i a c h1 h2
    obtain ⟨v, hv, rv⟩ := get hx h1
    obtain ⟨u, hu, ru⟩ := get hy h2
    split at h
    · rename_i hk
      simp at h
      subst h
      cases rv; cases ru
      refine ⟨_, _, part_leaf (.inr (.inl hk)) hv, part_leaf (.inr (.inl hk)) hu, ?_⟩
      rw [run_equalIn_bool' w d t _ _ hk]
    · cases h
  · rename_i a c h1 h2
    obtain ⟨v, hv, rv⟩ := get hx h1
    obtain ⟨u, hu, ru⟩ := get hy h2
    split at h
    · rename_i hk
      simp at h
      subst h
      cases rv; cases ru
      refine ⟨_, _, part_leaf (.inr (.inr hk)) hv, part_leaf (.inr (.inr hk)) hu, ?_⟩
      rw [run_equalIn_string w d t _ _ hk]
      congr 1
      rw [Bool.eq_iff_iff]
      simp only [beq_iff_eq, ByteArray.toList_eq]
      all_goals simp
    · cases h
  · cases h

theorem eqFs_run {xs ys : List D} {vs us : List Value} {d : Nat} (hx : PtD w e vs xs) (hy : PtD w e us ys) : ∀ (fs : List Field) (b : Bool), eqFs P xs ys fs = some b → (Op.eqFields (d + 1) ⟨vs⟩ ⟨us⟩ fs).run P w = .ok b w := by
  intro fs
  induction fs with
  | nil => intro b h; simp [eqFs] at h; subst h; simp [Op.eqFields]
  | cons f fs ih =>
    intro b h
    simp only [eqFs] at h
    split at h
    · cases h
    · rename_i hn
      split at h
      · rename_i a c h1 h2
        simp at h
        subst h
        obtain ⟨v, u, k1, k2, k3⟩ := eqLeaf_run (d := d) h1 hx hy
        simp only [Op.eqFields, ne_eq, hn, not_false_eq_true, if_true, Sem.run_bind, k1, k2, k3, Result.andThen_ok]
        cases a
        · simp
        · simpa using ih c h2
      · cases h

theorem eqAgg_run {t : TypeId} {xs ys : List D} {vs us : List Value} {b : Bool} (h : eqAgg P t xs ys = some b) (hx : PtD w e vs xs) (hy : PtD w e us ys) :
    (Op.equalIn 10000 t (.agg ⟨vs⟩) (.agg ⟨us⟩)).run P w = .ok b w ∧ P.eqGuardType P.depth t = false := by
  unfold eqAgg at h
  split at h
  · rename_i fs hu
    split at h
    · cases h
    · rename_i hs
      simp only [Bool.or_eq_true, not_or, Bool.not_eq_true] at hs
      have hfs : P.fieldsOf t = fs := by simp [Program.fieldsOf, hu]
      refine ⟨?_, hs.2⟩
      rw [show (10000 : Nat) = 9999 + 1 from rfl, run_equalIn_struct w 9999 t _ _ (by rw [hfs]; exact hu) hs.1, hfs]
      exact eqFs_run (d := 9998) hx hy _ _ h
  · cases h
end

theorem eqOp_run {X : Ctx} {w : World} {g : Gh} {q1 q2 : Own} {op : BinOp} {t : TypeId} {v1 v2 : Value} {x y : V} {b : Bool} (h : eqOp X.P op t x y = some b) (h1 : RepV X w g q1 v1 x) (h2 : RepV X w g q2 v2 y) (o1 o2 : Operand) :
    (do eqGuard op t o1 o2 v1 v2; binOp op t v1 v2 : Sem Value).run X.P w = .ok (.bool b) w := by
  unfold eqOp at h
  split at h
  · rename_i xs ys
    cases h1 with | d _ _ _ h1 => cases h2 with | d _ _ _ h2 =>
    cases h1 with | agg vs _ l1 r1 => cases h2 with | agg us _ l2 r2 =>
    obtain ⟨k1, k2⟩ := eqAgg_run h ⟨l1, r1⟩ ⟨l2, r2⟩
    rw [Sem.run_bind, run_eqGuard_agg w _ _ _ _ _ _ k2]
    simp only [Result.andThen_ok]
    rw [run_eql_struct, k1]
    rfl
  · rename_i xs ys
    cases h1 with | d _ _ _ h1 => cases h2 with | d _ _ _ h2 =>
    cases h1 with | agg vs _ l1 r1 => cases h2 with | agg us _ l2 r2 =>
    cases he : eqAgg X.P t xs ys with
    | none => simp [he] at h
    | some c =>
      simp [he] at h
      subst h
      obtain ⟨k1, k2⟩ := eqAgg_run he ⟨l1, r1⟩ ⟨l2, r2⟩
      rw [Sem.run_bind, run_eqGuard_agg w _ _ _ _ _ _ k2]
      simp only [Result.andThen_ok]
      have : (binOp .neq t (.agg ⟨vs⟩) (.agg ⟨us⟩)).run X.P w = ((Op.equalIn 10000 t (.agg ⟨vs⟩) (.agg ⟨us⟩)).run X.P w).andThen fun b w' => .ok (.bool (!b)) w' := by
        simp [binOp, Op.equal, Op.maxDepth]
      rw [this, k1]
      simp
  · cases h

end Go.Proofs.Ytaobccodpdmieaa.Pv
