/- Pv: from a run that answers true to what a statement asks of a call. -/
import Derived.Test.YtaobccodpdmieaaPvGo
import Derived.Test.YtaobccodpdmieaaChecked
import Derived.Below
import Derived.Carry
import Derived.ProofKit
import Derived.OpenShut
set_option linter.unusedSimpArgs false
set_option linter.unusedVariables false
namespace Go.Proofs.Ytaobccodpdmieaa.Pv
open Go Go.ChangeShapes Go.WideShapes Go.RowKit

/-- The seat's program; nothing is assumed of any other. -/
noncomputable def X0 : Ctx := ⟨Try.prog, fun _ => none, fun _ => none, fun _ => false⟩

theorem Keep.below {g g' : Gh} {w w' : World} (k : Keep g w g' w') : Below w.heap.size w w' := ⟨k.os, k.tape, k.output, k.size, k.block⟩

/-- How much of each block there is. -/
def fullE (W : World) : Nat → Nat := fun b => match W.heap[b]? with
  | some (.cells c _ _) => c.size
  | _ => 0

def topG (W : World) : Gh := { μ := [], e := fullE W, own := fun _ => .free, pin := ⟨[], fun _ => False⟩ }

theorem law_calls {fuel k : Nat} {f : FuncId} {vs : List V} {vargs : List Value} {b : Bool} (run : (callN X0 fuel k).p f vs = some (.d (.bool b))) (hp : vs.all V.pure = true) {W : World} (hr : PtV X0 W (topG W) vargs vs) :
    Calls Try.prog f ⟨vargs⟩ W fun E W' => E = .returned (.bool b) ∧ Below W.heap.size W W' := by
  have hf : Fresh (topG W) W := fun b hb => ⟨rfl, by simp only [topG, fullE]; rw [Array.getElem?_eq_none hb]⟩
  obtain ⟨fn, _, _, _, hc⟩ := (callN_ok (X := X0) (fun _ => rfl) (fun _ => rfl) fuel k).1 f vs _ run hp W (topG W) vargs hf (fun i cs hi => by cases hi) hr (.slot 0) ⟨0, 0, 0, .inl rfl⟩
  refine hc.mono ?_
  rintro E w' ⟨v, g', rfl, hk, hv⟩
  refine ⟨?_, hk.below⟩
  cases hv with | d _ _ _ hv => cases hv; rfl

/-- 'post_of_same' where new blocks may have come. -/
theorem post_of_below {H : Type} {enc : TypeId × Value → H} {P : Program} {f : Func} {s : ChangeSpec} {apart fresh handsOn again : Bool} {W W' : World} {args : Array Value} {v : Value} {ds gs : List (DataW H)} {before pa pv : List MemPlace}
    (hW : DataW.Whole enc P f.params.toList s.vars apart W args.toList ds gs before)
    (hres : ∀ (b : Nat) (sp : Nat → Bool) (hd : Bool), DataW.TrodAll enc P W' b sp hd f.resultTypes.toList (v.resultList f.resultTypes.size) (s.fn H (ds ++ gs)).results [])
    (hargs : ∀ sp : Nat → Bool, (∀ p ∈ before, sp p.block = true) → DataW.TrodAll enc P W' 0 sp true f.params.toList args.toList (s.fn H (ds ++ gs)).args pa)
    (hvars : ∀ sp : Nat → Bool, (∀ p ∈ before, sp p.block = true) → DataW.TrodVars enc P W' sp s.vars (s.fn H (ds ++ gs)).vars pv)
    (hps : before = pa ++ pv) (hb : Below W.heap.size W W')
    (hok : ∀ (j : Nat) (t : TypeId) (r : Value), f.resultTypes[j]? = some t → (v.resultList f.resultTypes.size)[j]? = some r → Value.okWide P W' .any 0 t r) :
    s.post enc P f apart fresh handsOn again W args v W' := by
  have hold : ∀ p ∈ before, (fun b => decide (b < W.heap.size)) p.block = true := fun p hp => by simpa using hW.lt p hp
  have hlt := hW.lt
  refine ⟨ds, gs, before, [], pa, pv, hW, hres _ _ _, hargs _ hold, hvars _ hold, World.keptBut_mono (fun p hp => ⟨hp, ?_⟩) (hb.frame (· ∈ before)), fun _ => ?_⟩
  · rw [hps, List.mem_append] at hp
    exact Or.inr hp
  · obtain ⟨_, _, _, _, _, hz, hn⟩ := hW
    refine ⟨hok, _, _, ([] ++ pa) ++ pv, ⟨[] ++ pa, pv, trodAll_append (hargs _ (fun _ _ => rfl)) (hres _ _ _), hvars _ (fun _ _ => rfl), rfl, ?_, ?_⟩, ?_⟩
    · intro b off hp
      have hp' : MemPlace.cell b off ∈ before := by rw [hps]; simpa using hp
      rw [hb.frozen (p := ⟨b, off, none⟩) (hlt _ hp')]
      exact hz b off hp'
    · intro ha
      have := hn ha
      rw [hps] at this
      simpa using this
    · intro p hp _
      rw [hps]
      simpa using hp

end Go.Proofs.Ytaobccodpdmieaa.Pv
