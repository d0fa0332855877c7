/- Pv: a region whose operations come in any order: what its check says. -/
import Derived.Test.YtaobccodpdmieaaPvStep7
set_option linter.unusedSimpArgs false
set_option linter.unusedVariables false
namespace Go.Proofs.Ytaobccodpdmieaa.Pv
open Go

/-- 'i' waits for 'j'. -/
inductive Anc (ops : Array Oper) : Nat → Nat → Prop where
  | base (j i : Nat) (o : Oper) (ho : ops[i]? = some o) (h : j ∈ directs o) : Anc ops j i
  | step (j m i : Nat) (o : Oper) (ho : ops[i]? = some o) (h : m ∈ directs o) (k : Anc ops j m) : Anc ops j i

theorem maskOf_spec {ops : Array Oper} {ms : List Nat} {i : Nat} {o : Oper} (ho : ops[i]? = some o) (hms : ∀ m x, ms[m]? = some x → ∀ j, x.testBit j = true → Anc ops j m) (j : Nat) (h : (maskOf ms o).testBit j = true) : Anc ops j i := by
  have key : ∀ (l : List Nat) (m0 : Nat), (∀ x ∈ l, x ∈ directs o) → (∀ j, m0.testBit j = true → Anc ops j i) → ∀ j, (l.foldl (fun m j => m ||| (1 <<< j) ||| ms.getD j 0) m0).testBit j = true → Anc ops j i := by
    intro l
    induction l with
    | nil => intro m0 _ h0 j hj; exact h0 j hj
    | cons y l ih =>
      intro m0 hl h0 j hj
      simp only [List.foldl_cons] at hj
      refine ih _ (fun x hx => hl x (by simp [hx])) (fun j hj => ?_) j hj
      rw [Nat.testBit_or, Nat.testBit_or] at hj
      simp only [Bool.or_eq_true] at hj
      have hy : y ∈ directs o := hl y (by simp)
      rcases hj with (hj | hj) | hj
      · exact h0 j hj
      · have : y = j := by
          rw [Nat.one_shiftLeft, Nat.testBit_two_pow] at hj
          simpa using hj
        rw [← this]
        exact .base y i o ho hy
      · cases hm : ms[y]? with
        | none => simp [hm] at hj
        | some x =>
          simp [hm] at hj
          exact .step j y i o ho hy (hms y x hm j hj)
  exact key (directs o) 0 (fun _ h => h) (by simp) j h

theorem masks_length (l : List Oper) : ∀ ms, (masks l ms).length = ms.length + l.length := by
  induction l with
  | nil => simp [masks]
  | cons o l ih => intro ms; simp only [masks, ih, List.length_append, List.length_cons, List.length_nil]; omega

theorem masks_spec {ops : Array Oper} (l : List Oper) : ∀ ms, (∀ j, l[j]? = ops[ms.length + j]?) → (∀ m x, ms[m]? = some x → ∀ j, x.testBit j = true → Anc ops j m) → ∀ m x, (masks l ms)[m]? = some x → ∀ j, x.testBit j = true → Anc ops j m := by
  induction l with
  | nil => intro ms _ h; exact h
  | cons o l ih =>
    intro ms hl h
    have ho : ops[ms.length]? = some o := by simpa using (hl 0).symm
    refine ih (ms ++ [maskOf ms o]) (fun j => ?_) (fun m x hm j hj => ?_)
    · have := hl (j + 1)
      simp only [List.getElem?_cons_succ] at this
      rw [this]
      simp [Nat.add_assoc, Nat.add_comm 1 j]
    · rw [List.getElem?_append] at hm
      split at hm
      · exact h m x hm j hj
      · have : m = ms.length := by
          have := (List.getElem?_eq_some_iff.1 hm).1
          simp at this
          omega
        subst this
        simp at hm
        subst hm
        exact maskOf_spec ho h j hj

/-- What the check says. -/
structure DrawOk (ops : Array Oper) (k : Nat) : Prop where
  hk : k ≤ ops.size
  lt : ∀ (i : Nat) (o : Oper), ops[i]? = some o → ∀ j ∈ directs o, j < i
  look : ∀ (i j : Nat) (o p : Oper) (t : Tmp), ops[i]? = some o → i < k → t ∈ o.looksAt ops → ops[j]? = some p → j < k → p.dst = some t → j < i ∧ Anc ops j i
  dist : ∀ (i j : Nat) (o p : Oper) (t : Tmp), ops[i]? = some o → i < k → ops[j]? = some p → j < k → o.dst = some t → p.dst = some t → i = j
  full : ∀ i, k ≤ i → i < ops.size → ∀ j, j < i → Anc ops j i

theorem mem_take_zipIdx {ops : Array Oper} {k i : Nat} {o : Oper} (ho : ops[i]? = some o) (hi : i < k) : (o, i) ∈ (ops.toList.take k).zipIdx := by
  rw [List.mem_zipIdx_iff_getElem?]
  simp only
  rw [List.getElem?_take, if_pos hi]
  simpa using ho

theorem drawOk_spec {ops : Array Oper} {k : Nat} (h : drawOk ops = some k) : DrawOk ops k := by
  unfold drawOk at h
  simp only at h
  split at h
  · rename_i hc
    simp only [Option.some.injEq] at h
    simp only [Bool.and_eq_true] at hc
    rw [h] at hc
    obtain ⟨⟨h1, h2⟩, h3⟩ := hc
    have hms := masks_spec (ops := ops) ops.toList [] (by simp) (by simp)
    have hlen := masks_length ops.toList []
    have anc : ∀ i j, ((masks ops.toList []).getD i 0).testBit j = true → Anc ops j i := by
      intro i j hj
      cases hm : (masks ops.toList [])[i]? with
      | none => simp [hm] at hj
      | some x => simp [hm] at hj; exact hms i x hm j hj
    refine ⟨by omega, fun i o ho j hj => ?_, fun i j o p t ho hi ht hp hj hd => ?_, fun i j o p t ho hi hp hj hd hd' => ?_, fun i hi hn j hj => ?_⟩
    · have hm : (o, i) ∈ ops.toList.zipIdx := by
        rw [List.mem_zipIdx_iff_getElem?]; simpa using ho
      have := List.all_eq_true.1 h1 _ hm
      have := List.all_eq_true.1 this j hj
      simpa using this
    · have := List.all_eq_true.1 (List.all_eq_true.1 h2 _ (mem_take_zipIdx ho hi)) _ (mem_take_zipIdx hp hj)
      simp only [hd, Bool.and_eq_true, Bool.or_eq_true, Bool.not_eq_true', decide_eq_true_eq] at this
      rcases this.1 with hh | hh
      · simp at hh; exact (hh ht).elim
      · exact ⟨hh.1, anc i j hh.2⟩
    · have := List.all_eq_true.1 (List.all_eq_true.1 h2 _ (mem_take_zipIdx ho hi)) _ (mem_take_zipIdx hp hj)
      simp only [hd', Bool.and_eq_true, Bool.or_eq_true, beq_iff_eq, bne_iff_ne, ne_eq] at this
      rcases this.2 with hh | hh
      · exact hh
      · exact (hh hd).elim
    · have ho : ops[i]? = some ops[i] := Array.getElem?_eq_getElem hn
      have hm : (ops[i], i) ∈ ops.toList.zipIdx.drop k := by
        rw [List.mem_iff_getElem?]
        refine ⟨i - k, ?_⟩
        rw [List.getElem?_drop, show k + (i - k) = i by omega]
        simp [List.getElem?_zipIdx, ho]
      have := List.all_eq_true.1 h3 _ hm
      simp only [beq_iff_eq] at this
      refine anc i j ?_
      rw [this, Nat.one_shiftLeft, Nat.testBit_two_pow_sub_one]
      simpa using hj
  · cases h

/-- What is listed waits for nothing that is not. -/
def Closed (ops : Array Oper) (L : Array Bool) : Prop := ∀ (i : Nat) (o : Oper), ops[i]? = some o → L[i]? = some true → ∀ j ∈ directs o, L[j]? = some true

theorem Closed.anc {ops : Array Oper} {L : Array Bool} (h : Closed ops L) {j i : Nat} (k : Anc ops j i) : (∀ o, ops[i]? = some o → ∀ m ∈ directs o, L[m]? = some true) → L[j]? = some true := by
  induction k with
  | base i o ho hj => intro hi; exact hi o ho j hj
  | step m i o ho hm _ ih => intro hi; exact ih fun p hp => h m p hp (hi o ho m hm)

theorem ready_iff {ops : Array Oper} {L : Array Bool} (hL : L.size = ops.size) {i : Nat} :
    i ∈ Region.ready .any ops L ↔ L[i]? = some false ∧ ∀ o, ops[i]? = some o → ∀ j ∈ directs o, L[j]? = some true := by
  unfold Region.ready
  rw [List.mem_filter, List.mem_range]
  constructor
  · rintro ⟨h1, h2⟩
    have ho : ops[i]? = some ops[i] := Array.getElem?_eq_getElem h1
    simp only [ho, Option.map_some, Option.getD_some, Bool.and_eq_true, Bool.not_eq_true'] at h2
    refine ⟨?_, fun o hoo j hj => ?_⟩
    · have hlt : i < L.size := by omega
      rw [Array.getElem?_eq_getElem hlt]
      have := h2.1
      rw [Array.getD_eq_getD_getElem?, Array.getElem?_eq_getElem hlt] at this
      simpa using this
    · rw [ho] at hoo
      cases hoo
      simp only [directs, List.mem_filterMap] at hj
      obtain ⟨e, he, hh⟩ := hj
      split at hh
      · rename_i hb
        simp at hh
        subst hh
        have := Array.all_eq_true'.1 h2.2 e (by simpa using he)
        simp only [hb, Bool.not_true, Bool.false_or] at this
        cases hj : L[e.on]? with
        | none => rw [Array.getD_eq_getD_getElem?, hj] at this; simp at this
        | some b => rw [Array.getD_eq_getD_getElem?, hj] at this; simp at this; rw [this]
      · cases hh
  · rintro ⟨h1, h2⟩
    have hlt : i < ops.size := by rw [← hL]; exact (Array.getElem?_eq_some_iff.1 h1).1
    have ho : ops[i]? = some ops[i] := Array.getElem?_eq_getElem hlt
    refine ⟨hlt, ?_⟩
    simp only [ho, Option.map_some, Option.getD_some, Bool.and_eq_true, Bool.not_eq_true']
    refine ⟨by rw [Array.getD_eq_getD_getElem?, h1]; rfl, Array.all_eq_true'.2 fun e he => ?_⟩
    by_cases hb : Region.binds .any e = true
    · have := h2 _ ho e.on (List.mem_filterMap.2 ⟨e, by simpa using he, by simp [hb]⟩)
      rw [Array.getD_eq_getD_getElem?, this]
      simp
    · simp [hb]

/-- How many are not listed. -/
def unl (L : Array Bool) : Nat := L.toList.countP fun b => !b

theorem unl_zero {L : Array Bool} (h : unl L = 0) {i : Nat} (hi : i < L.size) : L[i]? = some true := by
  unfold unl at h
  rw [List.countP_eq_zero] at h
  have := h L[i] (by simp)
  rw [Array.getElem?_eq_getElem hi]
  simpa using this

theorem countP_set {l : List Bool} {i : Nat} (h : l[i]? = some false) : (l.set i true).countP (fun b => !b) + 1 = l.countP fun b => !b := by
  induction l generalizing i with
  | nil => simp at h
  | cons b l ih =>
    cases i with
    | zero => simp at h; subst h; simp
    | succ i =>
      simp only [List.getElem?_cons_succ] at h
      have := ih h
      simp only [List.set_cons_succ, List.countP_cons]
      omega

theorem unl_set {L : Array Bool} {i : Nat} (h : L[i]? = some false) : unl (L.setIfInBounds i true) + 1 = unl L := by
  unfold unl
  rw [Array.toList_setIfInBounds]
  exact countP_set (by simpa using h)

theorem unl_start (n : Nat) : unl (Array.replicate n false) = n := by
  simp [unl, List.countP_replicate]

/-- While something is not listed something is ready. -/
theorem ready_ne {ops : Array Oper} {k : Nat} (d : DrawOk ops k) {L : Array Bool} (hL : L.size = ops.size) (h : Region.ready .any ops L = []) : ∀ i, i < ops.size → L[i]? = some true := by
  intro i
  induction i using Nat.strongRecOn with
  | ind i ih =>
    intro hi
    have hlt : i < L.size := by omega
    cases hb : L[i] with
    | true => rw [Array.getElem?_eq_getElem hlt, hb]
    | false =>
      have : i ∈ Region.ready .any ops L := (ready_iff hL).2 ⟨by rw [Array.getElem?_eq_getElem hlt, hb], fun o ho j hj => ih j (d.lt i o ho j hj) (by have := d.lt i o ho j hj; omega)⟩
      rw [h] at this
      cases this

theorem listed_set {L : Array Bool} {i j : Nat} (hi : L[i]? = some false) : (L.setIfInBounds i true)[j]? = some true ↔ j = i ∨ L[j]? = some true := by
  rw [Array.getElem?_setIfInBounds]
  have hlt := (Array.getElem?_eq_some_iff.1 hi).1
  by_cases h : i = j
  · subst h; simp [hlt]
  · rw [if_neg h]
    constructor
    · exact .inr
    · rintro (rfl | h')
      · exact (h rfl).elim
      · exact h'

theorem Closed.set {ops : Array Oper} {L : Array Bool} (hc : Closed ops L) {i : Nat} (hi : L[i]? = some false) (hd : ∀ o, ops[i]? = some o → ∀ j ∈ directs o, L[j]? = some true) : Closed ops (L.setIfInBounds i true) := by
  intro m o ho hm j hj
  rw [listed_set hi] at hm ⊢
  rcases hm with rfl | hm
  · exact .inr (hd o ho j hj)
  · exact .inr (hc m o ho hm j hj)

end Go.Proofs.Ytaobccodpdmieaa.Pv
