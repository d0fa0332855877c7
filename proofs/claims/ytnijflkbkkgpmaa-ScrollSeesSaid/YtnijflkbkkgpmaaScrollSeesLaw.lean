/- bodkin: the law ScrollSees, from its run to its statement: for every input it returns true and its arguments read as before. No conditions. -/
import Derived.Test.YtnijflkbkkgpmaaScrollA
import Derived.Test.YtnijflkbkkgpmaaRows
import Derived.WalkKit
import Derived.JoinedCond
import Derived.Carry
namespace Go.Proofs.Ytnijflkbkkgpmaa.scrollSees
open Go Go.ChangeShapes Go.WideShapes Go.ChangeAt Go.RowKit Pv G
set_option linter.unusedVariables false
def Law : Prop := ∀ x0_0 x0_1 x1 x2 : Int, in64 x0_0 → in64 x0_1 → in64 x1 → in64 x2 → Ans X0 5 [intsD [x0_0, x0_1], .d (.int .i64 x1), .d (.int .i64 x2)] (.d (.bool true))
theorem law : Law := fun t h r m a1 a2 a3 a4 => by by_cases hv : Scroll.right t h ∧ Scroll.num r ∧ Scroll.num m; exact Scroll.lawSees_ok t h r m hv.1 hv.2.1 hv.2.2; exact Scroll.lawSees_bad t h r m a1 a2 a3 a4 hv
theorem own : ownKnob Try.prog.godebug = none := by kernel_rfl
theorem contract (H : Type) (enc : TypeId × Value → H) (W : World) (base : Nat) (args : Array Value) (ds gs : List (DataW H)) (before : List MemPlace)
    (hval : ∀ (j : Nat) t v, Try.f5.params[j]? = some t → args[j]? = some v → Value.okWide Try.prog W .any base t v)
    (hW : DataW.Whole enc Try.prog Try.f5.params.toList Rows.scrollSeesSpec.vars false W args.toList ds gs before) :
    Calls Try.prog 5 args W fun e W' => ∃ v, e = .returned v ∧ Rows.scrollSeesSpec.post enc Try.prog Try.f5 false true false false W args v W' := by
  have hW' := hW
  have hlt := hW.lt
  obtain ⟨p, q, hA0, hV, rfl, hfz, hnd⟩ := hW
  have hA : DataW.TrodAll enc Try.prog W 0 (fun _ => true) true Try.f5.params.toList args.toList ds p := hA0
  rw [Try.params5] at hA hval
  obtain ⟨v0, vs0, d0, ds0, p0, q0, hargs, rfl, rfl, h0, r0⟩ := trodAll_cons hA
  obtain ⟨v1, vs1, d1, ds1, p1, q1, rfl, rfl, rfl, h1, r1⟩ := trodAll_cons r0
  obtain ⟨v2, vs2, d2, ds2, p2, q2, rfl, rfl, rfl, h2, r2⟩ := trodAll_cons r1
  obtain ⟨rfl, rfl, rfl⟩ := trodAll_nil r2
  obtain rfl : args = #[v0, v1, v2] := by cases args; simp_all
  obtain ⟨rfl, rfl⟩ := trodVars_none hV
  obtain ⟨x1, rfl, rfl, rfl, w1⟩ := open_int Try.underlying3 (hval 1 _ v1 rfl rfl) h1
  obtain ⟨x2, rfl, rfl, rfl, w2⟩ := open_int Try.underlying3 (hval 2 _ v2 rfl rfl) h2
  obtain ⟨ns0, n10, rfl, n30⟩ := open_intsT (n := 2) (by kernel_rfl) (hval 0 _ v0 rfl rfl) h0
  obtain ⟨x0_0, x0_1, rfl⟩ : ∃ x0_0 x0_1, ns0 = [x0_0, x0_1] := by
    match ns0, n10 with
    | [x0_0, x0_1], _ => exact ⟨x0_0, x0_1, rfl⟩
  obtain ⟨K, hK⟩ := law x0_0 x0_1 x1 x2 (n30 _ (by simp)) (n30 _ (by simp)) (bounds_i64 w1) (bounds_i64 w2)
  have run := hK K (Nat.le_refl K)
  have hp : PtV X0 W (topG W) [intsV [x0_0, x0_1], .int .i64 x1, .int .i64 x2] [intsD [x0_0, x0_1], .d (.int .i64 x1), .d (.int .i64 x2)] := by
    refine ⟨rfl, fun j v x k1 k2 => ?_⟩
    match j with
    | 0 => simp at k1 k2; subst k1; subst k2; exact intsV_rep _
    | 1 => simp at k1 k2; subst k1; subst k2; exact .d _ _ _ (.int _ _)
    | 2 => simp at k1 k2; subst k1; subst k2; exact .d _ _ _ (.int _ _)
    | j + 3 => simp at k1
  clear hA0
  simp only [List.append_nil] at hW'
  refine (law_calls run rfl hp).mono fun e W' ⟨he, hb⟩ => ?_
  subst he
  exact ⟨_, rfl, post_of_below (pa := _) (pv := []) hW' (fun _ _ _ => trodAll_cons_mk (shut_bool Try.underlying4 _) trodAll_mk0)
    (fun sp hsp => (trodAll_cons_mk (WideElems.Trod_stays (by kernel_rfl) (by kernel_rfl) (of_decide_eq_true (by kernel_rfl)) h0 (fun x hx => hb.same (hlt x (by simp [hx]))) (fun x hx => hsp x (by simp [hx]))) (trodAll_cons_mk (shut_int Try.underlying3 w1) (trodAll_cons_mk (shut_int Try.underlying3 w2) trodAll_mk0))))
    (fun _ _ => rfl) (by simp) hb (ok_one (by kernel_rfl) rfl (okWide_bool_mk Try.underlying4 _))⟩

set_option maxRecDepth 100000 in
theorem lifted (os : Os) (started : os.Started) (H : Type) (enc : TypeId × Value → H) :
    ReturnsInHanded {} Try.checked os 5 .any (Rows.scrollSeesSpec.pre6 enc Try.prog Try.f5 Rows.scrollSeesRow.domain false) (Rows.scrollSeesSpec.post enc Try.prog Try.f5 false true false false) := by
  refine returnsInHanded_of_change (C := Try.checked) own started (by kernel_rfl) Try.func5
    (ChangeSpec.witness6 (enc := enc) (C := Try.checked) false ⟨#[], #[.agg #[.int .i64 0, .int .i64 0], .int .i64 0, .int .i64 0], []⟩ 8 (by kernel_rfl) (by kernel_rfl) (by kernel_rfl) (by kernel_rfl)) ?_
  intro W base args ds gs before hval hW hcnd _
  exact contract H enc W base args ds gs before hval hW

/-- ScrollSees: for every input it returns true. -/
theorem holds : Rows.ScrollSeesSaid :=
  OpenClaim.holds_of_wide 5 Try.f5 rfl rfl rfl rfl rfl rfl rfl ⟨rfl, rfl, rfl, rfl, rfl⟩ rfl rfl rfl rfl rfl (by kernel_rfl) Try.func5 (by kernel_rfl)
    (of_decide_eq_true (by kernel_rfl)) (by unfold Func.isWrapper; first | (rw [if_pos (by decide +kernel)]; kernel_rfl) | (rw [if_neg (by decide +kernel)]; exact ⟨rfl, rfl⟩))
    (fun os started H enc _ => lifted os started H enc)
end Go.Proofs.Ytnijflkbkkgpmaa.scrollSees
