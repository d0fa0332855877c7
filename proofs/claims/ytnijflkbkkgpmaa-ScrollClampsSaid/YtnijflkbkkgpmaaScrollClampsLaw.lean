/- bodkin: the law ScrollClamps, from its run to its statement: for every input it returns true and its arguments read as before. No conditions. -/
import Derived.Test.YtnijflkbkkgpmaaScrollC
import Derived.Test.YtnijflkbkkgpmaaRows
import Derived.WalkKit
import Derived.JoinedCond
import Derived.Carry
namespace Go.Proofs.Ytnijflkbkkgpmaa.scrollClamps
open Go Go.ChangeShapes Go.WideShapes Go.ChangeAt Go.RowKit Pv G
set_option linter.unusedVariables false
def Law : Prop := ∀ x0_0 x0_1 x1 : Int, in64 x0_0 → in64 x0_1 → in64 x1 → Ans X0 6 [intsD [x0_0, x0_1], .d (.int .i64 x1)] (.d (.bool true))
theorem law : Law := Scroll.lawClamps
theorem own : ownKnob Try.prog.godebug = none := by kernel_rfl
theorem contract (H : Type) (enc : TypeId × Value → H) (W : World) (base : Nat) (args : Array Value) (ds gs : List (DataW H)) (before : List MemPlace)
    (hval : ∀ (j : Nat) t v, Try.f6.params[j]? = some t → args[j]? = some v → Value.okWide Try.prog W .any base t v)
    (hW : DataW.Whole enc Try.prog Try.f6.params.toList Rows.scrollClampsSpec.vars false W args.toList ds gs before) :
    Calls Try.prog 6 args W fun e W' => ∃ v, e = .returned v ∧ Rows.scrollClampsSpec.post enc Try.prog Try.f6 false true false false W args v W' := by
  have hW' := hW
  have hlt := hW.lt
  obtain ⟨p, q, hA0, hV, rfl, hfz, hnd⟩ := hW
  have hA : DataW.TrodAll enc Try.prog W 0 (fun _ => true) true Try.f6.params.toList args.toList ds p := hA0
  rw [Try.params6] at hA hval
  obtain ⟨v0, vs0, d0, ds0, p0, q0, hargs, rfl, rfl, h0, r0⟩ := trodAll_cons hA
  obtain ⟨v1, vs1, d1, ds1, p1, q1, rfl, rfl, rfl, h1, r1⟩ := trodAll_cons r0
  obtain ⟨rfl, rfl, rfl⟩ := trodAll_nil r1
  obtain rfl : args = #[v0, v1] := by cases args; simp_all
  obtain ⟨rfl, rfl⟩ := trodVars_none hV
  obtain ⟨x1, rfl, rfl, rfl, w1⟩ := open_int Try.underlying3 (hval 1 _ v1 rfl rfl) h1
  obtain ⟨ns0, n10, rfl, n30⟩ := open_intsT (n := 2) (by kernel_rfl) (hval 0 _ v0 rfl rfl) h0
  obtain ⟨x0_0, x0_1, rfl⟩ : ∃ x0_0 x0_1, ns0 = [x0_0, x0_1] := by
    match ns0, n10 with
    | [x0_0, x0_1], _ => exact ⟨x0_0, x0_1, rfl⟩
  obtain ⟨K, hK⟩ := law x0_0 x0_1 x1 (n30 _ (by simp)) (n30 _ (by simp)) (bounds_i64 w1)
  have run := hK K (Nat.le_refl K)
  have hp : PtV X0 W (topG W) [intsV [x0_0, x0_1], .int .i64 x1] [intsD [x0_0, x0_1], .d (.int .i64 x1)] := by
    refine ⟨rfl, fun j v x k1 k2 => ?_⟩
    match j with
    | 0 => simp at k1 k2; subst k1; subst k2; exact intsV_rep _
    | 1 => simp at k1 k2; subst k1; subst k2; exact .d _ _ _ (.int _ _)
    | j + 2 => simp at k1
  clear hA0
  simp only [List.append_nil] at hW'
  refine (law_calls run rfl hp).mono fun e W' ⟨he, hb⟩ => ?_
  subst he
  exact ⟨_, rfl, post_of_below (pa := _) (pv := []) hW' (fun _ _ _ => trodAll_cons_mk (shut_bool Try.underlying4 _) trodAll_mk0)
    (fun sp hsp => (trodAll_cons_mk (WideElems.Trod_stays (by kernel_rfl) (by kernel_rfl) (of_decide_eq_true (by kernel_rfl)) h0 (fun x hx => hb.same (hlt x (by simp [hx]))) (fun x hx => hsp x (by simp [hx]))) (trodAll_cons_mk (shut_int Try.underlying3 w1) trodAll_mk0)))
    (fun _ _ => rfl) (by simp) hb (ok_one (by kernel_rfl) rfl (okWide_bool_mk Try.underlying4 _))⟩

set_option maxRecDepth 100000 in
theorem lifted (os : Os) (started : os.Started) (H : Type) (enc : TypeId × Value → H) :
    ReturnsInHanded {} Try.checked os 6 .any (Rows.scrollClampsSpec.pre6 enc Try.prog Try.f6 Rows.scrollClampsRow.domain false) (Rows.scrollClampsSpec.post enc Try.prog Try.f6 false true false false) := by
  refine returnsInHanded_of_change (C := Try.checked) own started (by kernel_rfl) Try.func6
    (ChangeSpec.witness6 (enc := enc) (C := Try.checked) false ⟨#[], #[.agg #[.int .i64 0, .int .i64 0], .int .i64 0], []⟩ 8 (by kernel_rfl) (by kernel_rfl) (by kernel_rfl) (by kernel_rfl)) ?_
  intro W base args ds gs before hval hW hcnd _
  exact contract H enc W base args ds gs before hval hW

/-- ScrollClamps: for every input it returns true. -/
theorem holds : Rows.ScrollClampsSaid :=
  OpenClaim.holds_of_wide 6 Try.f6 rfl rfl rfl rfl rfl rfl rfl ⟨rfl, rfl, rfl, rfl, rfl⟩ rfl rfl rfl rfl rfl (by kernel_rfl) Try.func6 (by kernel_rfl)
    (of_decide_eq_true (by kernel_rfl)) (by unfold Func.isWrapper; first | (rw [if_pos (by decide +kernel)]; kernel_rfl) | (rw [if_neg (by decide +kernel)]; exact ⟨rfl, rfl⟩))
    (fun os started H enc _ => lifted os started H enc)
end Go.Proofs.Ytnijflkbkkgpmaa.scrollClamps
