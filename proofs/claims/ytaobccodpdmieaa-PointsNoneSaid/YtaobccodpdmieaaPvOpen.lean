/- Pv: arguments that are structs of whole numbers. -/
import Derived.Test.YtaobccodpdmieaaPvTop
set_option linter.unusedSimpArgs false
set_option linter.unusedVariables false
namespace Go.Proofs.Ytaobccodpdmieaa.Pv
open Go Go.ChangeShapes Go.WideShapes Go.RowKit

/-- Whole numbers side by side. -/
def intsV (ns : List Int) : Value := .agg (ns.map (Value.int .i64)).toArray
def intsD (ns : List Int) : V := .d (.agg (ns.map (D.int .i64)))
def in64 (n : Int) : Prop := -9223372036854775808 ≤ n ∧ n ≤ 9223372036854775807

theorem intsV_rep {X : Ctx} {W : World} {g : Gh} {q : Own} (ns : List Int) : RepV X W g q (intsV ns) (intsD ns) := by
  refine .d _ _ _ (.agg _ _ (by simp) fun j v d h1 h2 => ?_)
  simp only [List.getElem?_map] at h1 h2
  cases hn : ns[j]? with
  | none => rw [hn] at h1; cases h1
  | some n => rw [hn] at h1 h2; cases h1; cases h2; exact .int _ _

section
variable {H : Type} {enc : TypeId × Value → H} {P : Program} {w : World} {base b0 : Nat} {spare : Nat → Bool} {held : Bool}

/-- A struct whose fields are ints. -/
theorem open_ints {r : Reach} {t : TypeId} {fs : Array Field} {v : Value} {d : DataW H} {ps : List MemPlace} (ht : P.underlying t = some (.struct fs)) (hn : P.cellsOf t = fs.size)
    (hf : ∀ (i : Nat) (f : Field), fs[i]? = some f → f.offset = i ∧ P.underlying f.type = some (.int .i64) ∧ P.cellsOf f.type = 1)
    (hval : Value.okWide P w r b0 t v) (hd : DataW.Trod enc P w base spare held t v d ps) : ∃ ns : List Int, ns.length = fs.size ∧ v = intsV ns ∧ (∀ n ∈ ns, in64 n) := by
  obtain ⟨cs, rfl, hs⟩ := okWide_struct ht hval
  obtain ⟨fuel, h⟩ := hd
  obtain ⟨xs, n, _, _, hl, hlen, hx⟩ := DataW.trod_struct ht h
  have each : ∀ i, i < fs.size → ∃ z : Int, cs[i]? = some (.int .i64 z) ∧ in64 z := by
    intro i hi
    have hfi : fs[i]? = some fs[i] := Array.getElem?_eq_getElem hi
    obtain ⟨h1, h2, h3⟩ := hf i _ hfi
    have h4 := hx i _ hfi
    rw [h1, h3] at h4
    have hxi : xs[i]? = some (xs[i]'(by omega)) := List.getElem?_eq_getElem _
    rw [hxi] at h4
    obtain ⟨z, h5, _, h6⟩ := DataW.trod_int h2 h4
    have hci : i < cs.size := by omega
    refine ⟨z, ?_, bounds_i64 h6⟩
    have h7 : ((Value.agg cs).cells.toList.drop i).take 1 = [cs[i]] := by
      simp only [Value.cells]
      rw [List.drop_eq_getElem_cons (by simpa using hci)]
      simp
    rw [h7] at h5
    rw [Array.getElem?_eq_getElem hci]
    simpa using h5
  have all : ∀ k, k ≤ fs.size → ∃ ns : List Int, ns.length = k ∧ cs.toList.take k = ns.map (Value.int .i64) ∧ ∀ n ∈ ns, in64 n := by
    intro k
    induction k with
    | zero => intro _; exact ⟨[], rfl, by simp, by simp⟩
    | succ k ih =>
      intro hk
      obtain ⟨ns, h1, h2, h3⟩ := ih (by omega)
      obtain ⟨z, h4, h5⟩ := each k (by omega)
      refine ⟨ns ++ [z], by simp [h1], ?_, fun n hn => ?_⟩
      · rw [List.take_add_one, h2]
        simp [h4]
      · rw [List.mem_append] at hn
        rcases hn with hn | hn
        · exact h3 n hn
        · simp at hn; subst hn; exact h5
  obtain ⟨ns, h1, h2, h3⟩ := all fs.size (Nat.le_refl _)
  refine ⟨ns, h1, ?_, h3⟩
  rw [List.take_of_length_le (by simp; omega)] at h2
  unfold intsV
  rw [← h2]
/-- Is it a struct of n ints? -/
def intsT (P : Program) (t : TypeId) (n : Nat) : Bool :=
  match P.underlying t with
  | some (.struct fs) => fs.size == n && P.cellsOf t == n && fs.toList.zipIdx.all fun x => x.1.offset == x.2 && (match P.underlying x.1.type with | some (.int .i64) => true | _ => false) && P.cellsOf x.1.type == 1
  | _ => false

theorem open_intsT {r : Reach} {t : TypeId} {n : Nat} {v : Value} {d : DataW H} {ps : List MemPlace} (ht : intsT P t n = true)
    (hval : Value.okWide P w r b0 t v) (hd : DataW.Trod enc P w base spare held t v d ps) : ∃ ns : List Int, ns.length = n ∧ v = intsV ns ∧ (∀ n ∈ ns, in64 n) := by
  unfold intsT at ht
  split at ht
  · rename_i fs hu
    simp only [Bool.and_eq_true, beq_iff_eq] at ht
    obtain ⟨⟨h1, h2⟩, h3⟩ := ht
    subst h1
    refine open_ints hu h2 (fun i f hf => ?_) hval hd
    have hm : (f, i) ∈ fs.toList.zipIdx := by rw [List.mem_zipIdx_iff_getElem?]; simpa using hf
    have := List.all_eq_true.1 h3 _ hm
    simp only [Bool.and_eq_true, beq_iff_eq] at this
    refine ⟨this.1.1, ?_, this.2⟩
    have h4 := this.1.2
    split at h4
    · assumption
    · cases h4
  · cases ht
end

end Go.Proofs.Ytaobccodpdmieaa.Pv
