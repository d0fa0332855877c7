/- bodkin: the law KeysParse, from its run to its card: for every input it returns true and its arguments read as before. -/
import Derived.Test.YtnmabjamkpmkcaaDoorRows
import Derived.Lib.LaidTab
import Derived.FnData
import Derived.Test.YtnmabjamkpmkcaaDoorCards
import Derived.Test.YtnmabjamkpmkcaaDoorTie
import Derived.WalkKit
import Derived.ProofKit
import Derived.OpenShut
import Derived.JoinedCond
import Derived.Carry
import Derived.SizedLaws
import Derived.Deep.DeepHandedRow
import Derived.Deep.DeepLaidRun
import Derived.Test.YtnmabjamkpmkcaaDoorMKeysParseLaw5
/- Keys: keys.Parse answers as the reference; the statements of the law's runs. -/
set_option linter.unusedVariables false
set_option linter.unusedSimpArgs false
namespace Go.Proofs.YtnmabjamkpmkcaaDoor.Keys
open Go Pv G
theorem refAll_eq (line : Str) : refAll line = if 1 ≤ wh line then (restOne (behindOf line) (restC line) (wh line)).map fun r => (wh line, r.1, r.2) else none := refFrom_eq line 10 1 (by omega) (by omega)
theorem restC_len (line : Str) (hl : line.length ≤ 1000000) : (restC line).length ≤ 1000000 := by
  unfold restC
  split
  · simp; omega
  · simp
theorem restC_nil (line : Str) (h : behindOf line = false) : restC line = [] := by
  unfold behindOf at h
  unfold restC
  rw [if_neg (by simpa using h)]
theorem numB_iff (r : Str) : numB r = true ↔ (1 ≤ r.length ∧ r.length ≤ 12 ∧ numOk r = true ∧ decW (numR r) = r) := by
  unfold numB
  constructor
  · intro h
    simp only [Bool.and_eq_true, Bool.not_eq_true', decide_eq_true_eq, Bool.or_eq_true, beq_iff_eq, beq_eq_false_iff_ne, ne_eq] at h
    obtain ⟨⟨⟨h1, h2⟩, h3⟩, h4⟩ := h
    have hl : 1 ≤ r.length := by
      cases r with
      | nil => exact absurd rfl h1
      | cons a l => simp
    exact ⟨hl, h2, h4, (decW_iff r hl h2 h4).2 h3⟩
  · intro ⟨h1, h2, h3, h4⟩
    have h5 := (decW_iff r h1 h2 h3).1 h4
    have h6 : ¬ r = [] := by intro e; rw [e] at h1; simp at h1
    simp only [Bool.and_eq_true, Bool.not_eq_true', decide_eq_true_eq, Bool.or_eq_true, beq_iff_eq, beq_eq_false_iff_ne, ne_eq]
    exact ⟨⟨⟨h6, h2⟩, h5⟩, h3⟩
theorem valR_ok (r : Str) (h : 0 ≤ valR r) : 1 ≤ r.length ∧ r.length ≤ 12 ∧ numOk r = true ∧ valR r = numR r := by
  unfold valR at h ⊢
  split at h
  · rename_i hc; rw [if_pos hc]; exact ⟨hc.1, hc.2.1, hc.2.2, rfl⟩
  · omega
theorem numB_val (r : Str) : numB r = true ↔ (0 ≤ valR r ∧ decW (valR r) = r) := by
  constructor
  · intro h
    obtain ⟨h1, h2, h3, h4⟩ := (numB_iff r).1 h
    have e : valR r = numR r := by unfold valR; rw [if_pos ⟨h1, h2, h3⟩]
    rw [e]
    have hd := (numOk_iff r).1 h3
    have := fold_ge r hd 0 (by omega)
    rw [← numR_fold r hd] at this
    exact ⟨this, h4⟩
  · intro ⟨h1, h2⟩
    obtain ⟨a, b, c, d⟩ := valR_ok r h1
    rw [d] at h2
    exact (numB_iff r).2 ⟨a, b, c, h2⟩
theorem numV_val (r : Str) (h : numB r = true) : numV r = valR r := by
  obtain ⟨h1, h2, h3, h4⟩ := (numB_iff r).1 h
  unfold numV valR
  rw [if_pos h, if_pos ⟨h1, h2, h3⟩]
theorem numB_nil : numB [] = false := rfl
theorem plainOk_nil : plainOk [] = true := rfl
def parseNl_T : Prop := ∀ (line : Str) (hl : line.length ≤ 1000000) (hn : hasNl line = true), Ans X0 FP0 [.d (.str line)] (.d (.tup [.agg [.int .i64 0, .int .i64 0, .str []], .int .i64 4]))
theorem parseNl : parseNl_T := fun line hl hn => kpNl line (whatOf (nameOf line)) hl (restC_len line hl) rfl (whatOf_ok _).1 hn
def parseNo_T : Prop := ∀ (line : Str) (hl : line.length ≤ 1000000) (hn : hasNl line = false) (h : refOk line = false), Ans X0 FP0 [.d (.str line)] (.d (.tup [.agg [.int .i64 0, .int .i64 0, .str []], .int .i64 4]))
def parseYes_T : Prop := ∀ (line : Str) (hl : line.length ≤ 1000000) (hn : hasNl line = false) (h : refOk line = true), Ans X0 FP0 [.d (.str line)] (.d (.tup [.agg [.int .i64 (refW line), .int .i64 (refN line), .str (refT line)], .int .i64 0]))
/-- What the two have in common. -/
theorem parse_cases (line : Str) (hl : line.length ≤ 1000000) (hn : hasNl line = false) :
    match refAll line with
    | none => Ans X0 FP0 [.d (.str line)] (.d (.tup [.agg [.int .i64 0, .int .i64 0, .str []], .int .i64 4]))
    | some (w, n, t) => 1 ≤ w ∧ Ans X0 FP0 [.d (.str line)] (.d (.tup [.agg [.int .i64 w, .int .i64 n, .str t], .int .i64 0])) := by
  have hr := restC_len line hl
  have hw := whatOf_ok (nameOf line)
  have hv := valR_lt (restC line)
  rw [refAll_eq]
  by_cases h1 : 1 ≤ wh line
  · rw [if_pos h1]
    unfold wh at h1 ⊢
    generalize hk : whatOf (nameOf line) = k at h1 hw ⊢
    unfold restOne
    cases hb : behindOf line with
    | false =>
      rw [if_pos rfl]
      have hnil := restC_nil line hb
      by_cases hq : 1 < k ∧ ¬ (k = 3 ∨ k = 4 ∨ k = 9 ∨ k = 10)
      · rw [if_pos hq]
        exact ⟨h1, kpW1 line k hl hr hk (by omega) hn hb⟩
      · rw [if_neg hq]
        by_cases hk1 : k = 1
        · exact kpT2 line k hl hr hk hk1 hn hb (by rw [hnil]; rfl)
        · by_cases h34 : k = 3 ∨ k = 4
          · exact kpM4 line k hl hr hk h34 hn (by rw [hnil]; rfl)
          · exact kpA2 line k hl hr hk (by omega) hn (by rw [hnil]; rfl)
    | true =>
      rw [if_neg (by simp)]
      by_cases hk1 : k = 1
      · rw [if_pos hk1]
        cases ho : plainOk (restC line) with
        | true =>
          rw [if_pos rfl]
          exact ⟨h1, kpT1 line k hl hr hk hk1 hn hb ho⟩
        | false =>
          rw [if_neg (by simp)]
          exact kpT3 line k hl hr hk hk1 hn ho
      · rw [if_neg hk1]
        by_cases h34 : k = 3 ∨ k = 4
        · rw [if_pos h34]
          cases ho : numB (restC line) with
          | true =>
            have hc := (numB_val _).1 ho
            have hvv := numV_val _ ho
            by_cases hlo : valR (restC line) < 1
            · rw [if_neg (by omega)]
              exact kpM2 line k hl hr hk h34 hn ho (by omega)
            · by_cases hhi : 10 < valR (restC line)
              · rw [if_neg (by omega)]
                exact kpM3 line k hl hr hk h34 hn ho (by omega)
              · rw [if_pos ⟨by omega, by omega, hc.2⟩, ← hvv]
                exact ⟨h1, kpM1 line k hl hr hk h34 hn ho (by omega) (by omega)⟩
          | false =>
            rw [if_neg (fun hc => by
              have := (numB_val _).2 ⟨by omega, hc.2.2⟩
              rw [ho] at this
              cases this)]
            exact kpM4 line k hl hr hk h34 hn ho
        · rw [if_neg h34]
          by_cases h910 : k = 9 ∨ k = 10
          · rw [if_pos h910]
            cases ho : numB (restC line) with
            | true =>
              have hc := (numB_val _).1 ho
              have hvv := numV_val _ ho
              rw [if_pos hc, ← hvv]
              exact ⟨h1, kpA1 line k hl hr hk h910 hn ho⟩
            | false =>
              rw [if_neg (fun hc => by
                have := (numB_val _).2 hc
                rw [ho] at this
                cases this)]
              exact kpA2 line k hl hr hk h910 hn ho
          · rw [if_neg h910]
            exact kpW2 line k hl hr hk (by omega) hn hb
  · rw [if_neg h1]
    unfold wh at h1
    exact kp0 line (whatOf (nameOf line)) hl hr rfl (by omega)
theorem parseNo : parseNo_T := fun line hl hn h => by
  have := parse_cases line hl hn
  rw [show refAll line = none from Option.not_isSome_iff_eq_none.1 (by show ¬ refOk line = true; rw [h]; simp)] at this
  exact this
theorem parseYes : parseYes_T := fun line hl hn h => by
  have := parse_cases line hl hn
  unfold refOk at h
  obtain ⟨⟨w, n, t⟩, e⟩ := Option.isSome_iff_exists.1 h
  have e1 : refW line = w := by unfold refW; rw [e]; rfl
  have e2 : refN line = n := by unfold refN; rw [e]; rfl
  have e3 : refT line = t := by unfold refT; rw [e]; rfl
  rw [e] at this
  rw [e1, e2, e3]
  exact this.2
theorem refW_pos (line : Str) (hl : line.length ≤ 1000000) (hn : hasNl line = false) (h : refOk line = true) : 1 ≤ refW line := by
  have := parse_cases line hl hn
  unfold refOk at h
  obtain ⟨⟨w, n, t⟩, e⟩ := Option.isSome_iff_exists.1 h
  have e1 : refW line = w := by unfold refW; rw [e]; rfl
  rw [e] at this
  rw [e1]
  exact this.1
/- the law -/
abbrev FKP : Nat := 3
def lawLong_T : Prop := ∀ (line : Str) (hl : 500 < line.length), Ans X0 FKP [.d (.str line)] (.d (.bool true))
def lawNl_T : Prop := ∀ (line : Str) (hl : line.length ≤ 500) (hn : hasNl line = true), Ans X0 FKP [.d (.str line)] (.d (.bool true))
def lawNo_T : Prop := ∀ (line : Str) (hl : line.length ≤ 500) (hn : hasNl line = false) (h : refOk line = false), Ans X0 FKP [.d (.str line)] (.d (.bool true))
def lawYes_T : Prop := ∀ (line : Str) (hl : line.length ≤ 500) (hn : hasNl line = false) (h : refOk line = true) (hw : 1 ≤ refW line), Ans X0 FKP [.d (.str line)] (.d (.bool true))
end Go.Proofs.YtnmabjamkpmkcaaDoor.Keys
/- Keys: paths, printed by a program of mine. -/
set_option maxRecDepth 100000
set_option linter.unusedSimpArgs false
set_option linter.unusedVariables false
namespace Go.Proofs.YtnmabjamkpmkcaaDoor.Keys
open Go Pv G
set_option maxHeartbeats 4000000 in
theorem lawLong : lawLong_T := by
  intro line hl
  have h0 : (decide ((↑(ByteArray.size { data := (List.toArray line) }) : Int) > (500 : Int))) = true := by (first | assumption | (((try simp only [eq_self, and_true, true_and, Bool.and_true, Bool.true_and, Bool.not_eq_true', Bool.not_eq_false', Bool.and_eq_true, Bool.and_eq_false_iff, decide_eq_true_eq, decide_eq_false_iff_not, beq_iff_eq, beq_eq_false_iff_ne, bne_iff_ne, bne_eq_false_iff_eq, ne_eq, not_and, Int.toNat_natCast] at *); (try simp (disch := omega) only [wrapId, sizeOne, sizeStr, List.length_cons, List.length_nil, wrapU8, toNatAdd, toNatSucc, reduceCtorEq, or_false, and_true, Bool.and_true, Bool.and_eq_true, Bool.and_eq_false_iff, beq_iff_eq, beq_eq_false_iff_ne, ne_eq, Int.toNat_natCast] at *)) <;> first | omega | assumption | (refine ⟨?_, ?_⟩ <;> assumption)))
  exact pV 12 [(2, bt), (3, .v (V.d (D.bool true)))] (cC (@types ) (cP h0 nilE)) (by kernel_rfl) rfl rfl
set_option maxHeartbeats 4000000 in
theorem lawNl : lawNl_T := by
  intro line hl hn
  have h0 : (decide ((↑(ByteArray.size { data := (List.toArray line) }) : Int) > (500 : Int))) = false := by (first | assumption | (((try simp only [eq_self, and_true, true_and, Bool.and_true, Bool.true_and, Bool.not_eq_true', Bool.not_eq_false', Bool.and_eq_true, Bool.and_eq_false_iff, decide_eq_true_eq, decide_eq_false_iff_not, beq_iff_eq, beq_eq_false_iff_ne, bne_iff_ne, bne_eq_false_iff_eq, ne_eq, not_and, Int.toNat_natCast] at *); (try simp (disch := omega) only [wrapId, sizeOne, sizeStr, List.length_cons, List.length_nil, wrapU8, toNatAdd, toNatSucc, reduceCtorEq, or_false, and_true, Bool.and_true, Bool.and_eq_true, Bool.and_eq_false_iff, beq_iff_eq, beq_eq_false_iff_ne, ne_eq, Int.toNat_natCast] at *)) <;> first | omega | assumption | (refine ⟨?_, ?_⟩ <;> assumption)))
  exact pV 12 [(2, bf), (3, .v (V.d (D.tup [(D.agg [(D.int IntKind.i64 (0 : Int)), (D.int IntKind.i64 (0 : Int)), (D.str [])]), (D.int IntKind.i64 (4 : Int))]))), (4, .v (V.d (D.agg [(D.int IntKind.i64 (0 : Int)), (D.int IntKind.i64 (0 : Int)), (D.str [])]))), (16, .v (V.d (D.bool true)))] (cC (@types ) (cC (@refNl (line) (by (first | assumption | (((try simp only [eq_self, and_true, true_and, Bool.and_true, Bool.true_and, Bool.not_eq_true', Bool.not_eq_false', Bool.and_eq_true, Bool.and_eq_false_iff, decide_eq_true_eq, decide_eq_false_iff_not, beq_iff_eq, beq_eq_false_iff_ne, bne_iff_ne, bne_eq_false_iff_eq, ne_eq, not_and, Int.toNat_natCast] at *); (try simp (disch := omega) only [wrapId, sizeOne, sizeStr, List.length_cons, List.length_nil, wrapU8, toNatAdd, toNatSucc, reduceCtorEq, or_false, and_true, Bool.and_true, Bool.and_eq_true, Bool.and_eq_false_iff, beq_iff_eq, beq_eq_false_iff_ne, ne_eq, Int.toNat_natCast] at *)) <;> first | omega | assumption | (refine ⟨?_, ?_⟩ <;> assumption)))) hn) (cC (@parseNl (line) (by (first | assumption | (((try simp only [eq_self, and_true, true_and, Bool.and_true, Bool.true_and, Bool.not_eq_true', Bool.not_eq_false', Bool.and_eq_true, Bool.and_eq_false_iff, decide_eq_true_eq, decide_eq_false_iff_not, beq_iff_eq, beq_eq_false_iff_ne, bne_iff_ne, bne_eq_false_iff_eq, ne_eq, not_and, Int.toNat_natCast] at *); (try simp (disch := omega) only [wrapId, sizeOne, sizeStr, List.length_cons, List.length_nil, wrapU8, toNatAdd, toNatSucc, reduceCtorEq, or_false, and_true, Bool.and_true, Bool.and_eq_true, Bool.and_eq_false_iff, beq_iff_eq, beq_eq_false_iff_ne, ne_eq, Int.toNat_natCast] at *)) <;> first | omega | assumption | (refine ⟨?_, ?_⟩ <;> assumption)))) hn) (cP h0 nilE)))) (by kernel_rfl) rfl rfl
set_option maxHeartbeats 4000000 in
theorem lawNo : lawNo_T := by
  intro line hl hn h
  have h0 : (decide ((↑(ByteArray.size { data := (List.toArray line) }) : Int) > (500 : Int))) = false := by (first | assumption | (((try simp only [eq_self, and_true, true_and, Bool.and_true, Bool.true_and, Bool.not_eq_true', Bool.not_eq_false', Bool.and_eq_true, Bool.and_eq_false_iff, decide_eq_true_eq, decide_eq_false_iff_not, beq_iff_eq, beq_eq_false_iff_ne, bne_iff_ne, bne_eq_false_iff_eq, ne_eq, not_and, Int.toNat_natCast] at *); (try simp (disch := omega) only [wrapId, sizeOne, sizeStr, List.length_cons, List.length_nil, wrapU8, toNatAdd, toNatSucc, reduceCtorEq, or_false, and_true, Bool.and_true, Bool.and_eq_true, Bool.and_eq_false_iff, beq_iff_eq, beq_eq_false_iff_ne, ne_eq, Int.toNat_natCast] at *)) <;> first | omega | assumption | (refine ⟨?_, ?_⟩ <;> assumption)))
  exact pV 12 [(2, bf), (3, .v (V.d (D.tup [(D.agg [(D.int IntKind.i64 (0 : Int)), (D.int IntKind.i64 (0 : Int)), (D.str [])]), (D.int IntKind.i64 (4 : Int))]))), (4, .v (V.d (D.agg [(D.int IntKind.i64 (0 : Int)), (D.int IntKind.i64 (0 : Int)), (D.str [])]))), (16, .v (V.d (D.bool true)))] (cC (@types ) (cC (@refNo (line) (by (first | assumption | (((try simp only [eq_self, and_true, true_and, Bool.and_true, Bool.true_and, Bool.not_eq_true', Bool.not_eq_false', Bool.and_eq_true, Bool.and_eq_false_iff, decide_eq_true_eq, decide_eq_false_iff_not, beq_iff_eq, beq_eq_false_iff_ne, bne_iff_ne, bne_eq_false_iff_eq, ne_eq, not_and, Int.toNat_natCast] at *); (try simp (disch := omega) only [wrapId, sizeOne, sizeStr, List.length_cons, List.length_nil, wrapU8, toNatAdd, toNatSucc, reduceCtorEq, or_false, and_true, Bool.and_true, Bool.and_eq_true, Bool.and_eq_false_iff, beq_iff_eq, beq_eq_false_iff_ne, ne_eq, Int.toNat_natCast] at *)) <;> first | omega | assumption | (refine ⟨?_, ?_⟩ <;> assumption)))) hn h) (cC (@parseNo (line) (by (first | assumption | (((try simp only [eq_self, and_true, true_and, Bool.and_true, Bool.true_and, Bool.not_eq_true', Bool.not_eq_false', Bool.and_eq_true, Bool.and_eq_false_iff, decide_eq_true_eq, decide_eq_false_iff_not, beq_iff_eq, beq_eq_false_iff_ne, bne_iff_ne, bne_eq_false_iff_eq, ne_eq, not_and, Int.toNat_natCast] at *); (try simp (disch := omega) only [wrapId, sizeOne, sizeStr, List.length_cons, List.length_nil, wrapU8, toNatAdd, toNatSucc, reduceCtorEq, or_false, and_true, Bool.and_true, Bool.and_eq_true, Bool.and_eq_false_iff, beq_iff_eq, beq_eq_false_iff_ne, ne_eq, Int.toNat_natCast] at *)) <;> first | omega | assumption | (refine ⟨?_, ?_⟩ <;> assumption)))) hn h) (cP h0 nilE)))) (by kernel_rfl) rfl rfl
set_option maxHeartbeats 4000000 in
theorem lawYes : lawYes_T := by
  intro line hl hn h hw
  have h0 : (decide ((↑(ByteArray.size { data := (List.toArray line) }) : Int) > (500 : Int))) = false := by (first | assumption | (((try simp only [eq_self, and_true, true_and, Bool.and_true, Bool.true_and, Bool.not_eq_true', Bool.not_eq_false', Bool.and_eq_true, Bool.and_eq_false_iff, decide_eq_true_eq, decide_eq_false_iff_not, beq_iff_eq, beq_eq_false_iff_ne, bne_iff_ne, bne_eq_false_iff_eq, ne_eq, not_and, Int.toNat_natCast] at *); (try simp (disch := omega) only [wrapId, sizeOne, sizeStr, List.length_cons, List.length_nil, wrapU8, toNatAdd, toNatSucc, reduceCtorEq, or_false, and_true, Bool.and_true, Bool.and_eq_true, Bool.and_eq_false_iff, beq_iff_eq, beq_eq_false_iff_ne, ne_eq, Int.toNat_natCast] at *)) <;> first | omega | assumption | (refine ⟨?_, ?_⟩ <;> assumption)))
  have h1 : ((refW line) == (0 : Int)) = false := by (first | assumption | (((try simp only [eq_self, and_true, true_and, Bool.and_true, Bool.true_and, Bool.not_eq_true', Bool.not_eq_false', Bool.and_eq_true, Bool.and_eq_false_iff, decide_eq_true_eq, decide_eq_false_iff_not, beq_iff_eq, beq_eq_false_iff_ne, bne_iff_ne, bne_eq_false_iff_eq, ne_eq, not_and, Int.toNat_natCast] at *); (try simp (disch := omega) only [wrapId, sizeOne, sizeStr, List.length_cons, List.length_nil, wrapU8, toNatAdd, toNatSucc, reduceCtorEq, or_false, and_true, Bool.and_true, Bool.and_eq_true, Bool.and_eq_false_iff, beq_iff_eq, beq_eq_false_iff_ne, ne_eq, Int.toNat_natCast] at *)) <;> first | omega | assumption | (refine ⟨?_, ?_⟩ <;> assumption)))
  have h2 : (((refW line) == (refW line)) && (((refN line) == (refN line)) && (((refT line) == (refT line)) && true))) = true := by (first | assumption | (((try simp only [eq_self, and_true, true_and, Bool.and_true, Bool.true_and, Bool.not_eq_true', Bool.not_eq_false', Bool.and_eq_true, Bool.and_eq_false_iff, decide_eq_true_eq, decide_eq_false_iff_not, beq_iff_eq, beq_eq_false_iff_ne, bne_iff_ne, bne_eq_false_iff_eq, ne_eq, not_and, Int.toNat_natCast] at *); (try simp (disch := omega) only [wrapId, sizeOne, sizeStr, List.length_cons, List.length_nil, wrapU8, toNatAdd, toNatSucc, reduceCtorEq, or_false, and_true, Bool.and_true, Bool.and_eq_true, Bool.and_eq_false_iff, beq_iff_eq, beq_eq_false_iff_ne, ne_eq, Int.toNat_natCast] at *)) <;> first | omega | assumption | (refine ⟨?_, ?_⟩ <;> assumption)))
  exact pV 12 [(2, bf), (3, .v (V.d (D.tup [(D.agg [(D.int IntKind.i64 (refW line)), (D.int IntKind.i64 (refN line)), (D.str (refT line))]), (D.int IntKind.i64 (0 : Int))]))), (4, .v (V.d (D.agg [(D.int IntKind.i64 (refW line)), (D.int IntKind.i64 (refN line)), (D.str (refT line))]))), (7, bf), (21, bt), (22, .v (V.d (D.bool true))), (23, bt)] (cP h2 (cC (@types ) (cP h2 (cP h1 (cC (@refYes (line) (by (first | assumption | (((try simp only [eq_self, and_true, true_and, Bool.and_true, Bool.true_and, Bool.not_eq_true', Bool.not_eq_false', Bool.and_eq_true, Bool.and_eq_false_iff, decide_eq_true_eq, decide_eq_false_iff_not, beq_iff_eq, beq_eq_false_iff_ne, bne_iff_ne, bne_eq_false_iff_eq, ne_eq, not_and, Int.toNat_natCast] at *); (try simp (disch := omega) only [wrapId, sizeOne, sizeStr, List.length_cons, List.length_nil, wrapU8, toNatAdd, toNatSucc, reduceCtorEq, or_false, and_true, Bool.and_true, Bool.and_eq_true, Bool.and_eq_false_iff, beq_iff_eq, beq_eq_false_iff_ne, ne_eq, Int.toNat_natCast] at *)) <;> first | omega | assumption | (refine ⟨?_, ?_⟩ <;> assumption)))) hn h) (cC (@parseYes (line) (by (first | assumption | (((try simp only [eq_self, and_true, true_and, Bool.and_true, Bool.true_and, Bool.not_eq_true', Bool.not_eq_false', Bool.and_eq_true, Bool.and_eq_false_iff, decide_eq_true_eq, decide_eq_false_iff_not, beq_iff_eq, beq_eq_false_iff_ne, bne_iff_ne, bne_eq_false_iff_eq, ne_eq, not_and, Int.toNat_natCast] at *); (try simp (disch := omega) only [wrapId, sizeOne, sizeStr, List.length_cons, List.length_nil, wrapU8, toNatAdd, toNatSucc, reduceCtorEq, or_false, and_true, Bool.and_true, Bool.and_eq_true, Bool.and_eq_false_iff, beq_iff_eq, beq_eq_false_iff_ne, ne_eq, Int.toNat_natCast] at *)) <;> first | omega | assumption | (refine ⟨?_, ?_⟩ <;> assumption)))) hn h) (cP h0 nilE))))))) (by kernel_rfl) rfl rfl
end Go.Proofs.YtnmabjamkpmkcaaDoor.Keys
/- Keys: what the row's list gives: the package-level variables that are known. -/
set_option linter.unusedSimpArgs false
set_option linter.unusedVariables false
namespace Go.Proofs.YtnmabjamkpmkcaaDoor.Keys
open Go Pv
theorem strs_of_tab {H : Type} {enc : TypeId × Value → H} {P : Program} {w : World} {base : Nat} {sp : Nat → Bool} {held : Bool} {fuel : Nat} {t e : TypeId} {n : Nat} {cs : List Value} {ss : List (List UInt8)} {p : List MemPlace}
    (ht : P.underlying t = some (.array n e)) (he : P.underlying e = some .string) (hce : P.cellsOf e = 1) (hct : P.cellsOf t = n)
    (h : DataW.trod enc P w base sp held fuel t cs = some (.agg (ss.map fun s => .lit (.string s)), p)) : cs = ss.map fun s => Value.string ⟨s.toArray⟩ := by
  cases fuel with
  | zero => simp [DataW.trod] at h
  | succ fuel =>
    simp only [DataW.trod, ht, hce, hct, Nat.mul_one] at h
    split at h
    · rename_i hl
      obtain ⟨xs, hm, hx⟩ := Option.map_eq_some_iff.1 h
      have hxs : xs.map (·.1) = ss.map fun z => (DataW.lit (.string z) : DataW H) := by
        have := congrArg Prod.fst hx
        simpa using this
      have hxl : xs.length = n := by simpa using Lib.mapM_length hm
      have hzl : ss.length = n := by
        have := congrArg List.length hxs
        simp at this
        omega
      apply List.ext_getElem?
      intro i
      by_cases hi : i < n
      · obtain ⟨b, hb, hf⟩ := Lib.mapM_at hm i i (by simp [hi])
        obtain ⟨z, hc, rfl, _⟩ := DataW.trod_string he hf
        have h1 : cs[i]? = some (.string z) := by
          have := congrArg (·[0]?) hc
          simpa [List.getElem?_take, List.getElem?_drop] using this
        have h2 : (xs.map (·.1))[i]? = some (DataW.lit (.string z.data.toList) : DataW H) := by simp [hb]
        rw [hxs] at h2
        simp only [List.getElem?_map, Option.map_eq_some_iff, DataW.lit.injEq, Lit.string.injEq] at h2
        obtain ⟨z', hz', e'⟩ := h2
        subst e'
        simp [h1, hz']
      · rw [List.getElem?_eq_none (by omega), List.getElem?_eq_none (by simp; omega)]
    · cases h
theorem full_var {P : Program} {W : World} {n : String} {g : Nat} {cs : Array Value} (hg : P.globalNamed n = some g) (h : W.var? P n = some cs) : fullE W g = cs.size := by
  unfold World.var? at h
  rw [hg] at h
  simp only [Option.bind_some] at h
  unfold fullE
  split at h
  · rename_i c _ _ e
    rw [e]
    cases h
    rfl
  · cases h
theorem ptd_strs (w : World) (e : Nat → Nat) (ss : List (List UInt8)) : PtD w e (ss.map fun s => .string ⟨s.toArray⟩) (ss.map D.str) := by
  refine ⟨by simp, fun j v d h1 h2 => ?_⟩
  simp only [List.getElem?_map, Option.map_eq_some_iff] at h1 h2
  obtain ⟨s, hs, rfl⟩ := h1
  obtain ⟨s', hs', rfl⟩ := h2
  rw [hs] at hs'
  cases hs'
  exact .str s
theorem ptd_ints (w : World) (e : Nat → Nat) (k : IntKind) (zs : List Int) : PtD w e (zs.map fun z => .int k z) (zs.map fun z => .int k z) := by
  refine ⟨by simp, fun j v d h1 h2 => ?_⟩
  simp only [List.getElem?_map, Option.map_eq_some_iff] at h1 h2
  obtain ⟨s, hs, rfl⟩ := h1
  obtain ⟨s', hs', rfl⟩ := h2
  rw [hs] at hs'
  cases hs'
  exact .int k s
abbrev nameStrs : List (List UInt8) := [[], [116, 121, 112, 101], [98, 97, 99, 107], [109, 111, 118, 101], [101, 120, 116, 101, 110, 100], [102, 111, 108, 100], [117, 110, 102, 111, 108, 100], [117, 110, 100, 111], [114, 101, 100, 111], [97, 100, 100], [119, 105, 100, 116, 104]]
theorem gNames : Tryd.prog.globalNamed "bodkin/keys.names" = some 0 := by kernel_rfl
theorem gPow : Tryd.prog.globalNamed "internal/strconv.uint64pow10" = some 2 := by kernel_rfl
theorem laidFacts {W : World} (h : laidMetH Tryd.prog Rows.keysParseRow.laid W) :
    W.var? Tryd.prog "bodkin/keys.names" = some (nameStrs.map fun s => Value.string ⟨s.toArray⟩).toArray ∧ W.var? Tryd.prog "internal/strconv.uint64pow10" = some (Lib.pow10Tab.map fun z => Value.int .u64 z).toArray := by
  have h' : laidMet Tryd.prog Rows.keysParseRow.laid W := h
  obtain ⟨ps, ⟨g1, t1, c1, f1, p1, q1, _, _, _, _, ⟨g2, t2, c2, f2, p2, q2, _, _, _, _, ⟨g3, t3, c3, f3, p3, q3, a3, b3, d3, e3, ⟨g4, t4, c4, f4, p4, q4, _, _, _, _, ⟨g5, t5, c5, f5, p5, q5, a5, b5, d5, e5, _, _⟩, _⟩, _⟩, _⟩, _⟩, _⟩ := h'
  refine ⟨?_, ?_⟩
  · obtain rfl := Option.some.inj (gNames.symm.trans a5)
    obtain rfl := Option.some.inj ((show (Tryd.prog.globals[0]?).map (·.type) = some 58 by kernel_rfl).symm.trans b5)
    rw [d5]
    have := strs_of_tab (ss := nameStrs) (n := 11) (e := 9) (by kernel_rfl) (by kernel_rfl) (by kernel_rfl) (by kernel_rfl) e5
    rw [← this]
  · obtain rfl := Option.some.inj (gPow.symm.trans a3)
    obtain rfl := Option.some.inj ((show (Tryd.prog.globals[2]?).map (·.type) = some 96 by kernel_rfl).symm.trans b3)
    rw [d3]
    have := Lib.cells_of_tab (k := .u64) (zs := Lib.pow10Tab) (n := 20) (e := 87) (by kernel_rfl) (by kernel_rfl) (by kernel_rfl) (by kernel_rfl) e3
    rw [← this]
set_option maxRecDepth 100000 in
theorem maxLenIs {W : World} (h : W.ShapedOpen Tryd.prog) : ∃ z : Int, W.cell? ⟨1, 0, none⟩ = some (.int .i64 z) ∧ 1 ≤ fullE W 1 := by
  obtain ⟨cs, e1, e2, e3⟩ := h.1 1 #[.int .i64 0] 3 (of_decide_eq_true (by kernel_rfl)) (by kernel_rfl)
  obtain ⟨ts, k1, _, k3⟩ := e3 (by kernel_rfl)
  have hts : ts = [3] := Option.some.inj (k1.symm.trans (by kernel_rfl))
  have hsz : cs.size = 1 := e2
  have hc : cs[0]? = some cs[0] := Array.getElem?_eq_getElem (by omega)
  obtain ⟨u, hu, hok⟩ := k3 0 cs[0] hc
  rw [hts] at hu
  have hu' : u = 3 := by
    simp only [List.length_singleton, Nat.mod_one, List.getElem?_cons_zero, Option.some.injEq] at hu
    exact hu.symm
  subst hu'
  have hz : ∃ z : Int, cs[0] = .int .i64 z := by
    have hund : Tryd.prog.underlying 3 = some (.int .i64) := by kernel_rfl
    unfold Cell.ok at hok
    rw [hund] at hok
    clear hund h e1 k1 k3 e3
    revert hok
    generalize cs[0] = v
    intro hok
    cases v with
    | int k n => exact ⟨n, by rw [hok.1]⟩
    | _ => exact False.elim hok
  obtain ⟨z, hz⟩ := hz
  refine ⟨z, ?_, ?_⟩
  · simp only [World.cell?, e1]
    rw [hc, hz]
    rfl
  · unfold fullE
    rw [e1]
    simp only
    omega
theorem globAll {W : World} (hL : laidMetH Tryd.prog Rows.keysParseRow.laid W) (hS : W.ShapedOpen Tryd.prog) : GlobOk X0 W (topG W) := by
  obtain ⟨hN, hP⟩ := laidFacts hL
  obtain ⟨z, hz, hz1⟩ := maxLenIs hS
  refine ⟨fun _ => z, fun k cs hk => ?_⟩
  rcases hk with hk | ⟨hk, rfl⟩
  · simp only [X0] at hk
    split at hk
    · rename_i e
      subst e
      cases hk
      refine ⟨_, ptd_strs W (topG W).e nameStrs, ?_, fun j v hj => ?_⟩
      · show _ ≤ fullE W _
        rw [full_var gNames hN]
        decide
      · rw [World.var?_cell gNames hN j]
        simpa using hj
    · split at hk
      · rename_i e
        subst e
        cases hk
        refine ⟨_, ptd_ints W (topG W).e .u64 Lib.pow10Tab, ?_, fun j v hj => ?_⟩
        · show _ ≤ fullE W _
          rw [full_var gPow hP]
          simp [globPow]
        · rw [World.var?_cell gPow hP j]
          simpa using hj
      · cases hk
  · simp only [X0, List.mem_singleton] at hk
    subst hk
    refine ⟨[.int .i64 z], ptd_ints W (topG W).e .i64 [z], hz1, fun j v hj => ?_⟩
    match j with
    | 0 => simp at hj; subst hj; exact hz
    | j + 1 => simp at hj
end Go.Proofs.YtnmabjamkpmkcaaDoor.Keys
/- bodkin: the law KeysParse, from its run to its card: for every input it returns true and its arguments read as before. -/
set_option linter.unusedSimpArgs false
set_option linter.unusedVariables false
namespace Go.Proofs.YtnmabjamkpmkcaaDoor.keysParse
open Go Go.ChangeShapes Go.WideShapes Go.ChangeAt Go.RowKit Pv G
abbrev T0 : Ty := .str
def Law : Prop := ∀ (y0 : T0.ty), Ans X0 3 [.d (T0.argD y0)] (.d (.bool true))
theorem law : Law := fun y0 => by
  show Ans X0 3 [.d (.str y0)] (.d (.bool true))
  by_cases hl : 500 < List.length (α := UInt8) y0
  · exact Keys.lawLong y0 hl
  · have hl' : List.length (α := UInt8) y0 ≤ 500 := by omega
    cases hn : Keys.hasNl y0 with
    | true => exact Keys.lawNl y0 hl' hn
    | false =>
      cases ho : Keys.refOk y0 with
      | true => exact Keys.lawYes y0 hl' hn ho (Keys.refW_pos y0 (by omega) hn ho)
      | false => exact Keys.lawNo y0 hl' hn ho
theorem own : ownKnob Tryd.prog.godebug = none := by kernel_rfl
set_option maxRecDepth 100000 in
theorem contract (H : Type) (enc : TypeId × Value → H) (W : World) (base : Nat) (args : Array Value) (ds gs : List (DataW H)) (before : List MemPlace)
    (hval : ∀ (j : Nat) t v, Tryd.f3.params[j]? = some t → args[j]? = some v → Value.okWide Tryd.prog W .any base t v)
    (hW : DataW.Whole enc Tryd.prog Tryd.f3.params.toList Rows.keysParseSpec.vars false W args.toList ds gs before)
    (hsz : (DataW.weightsEach Tryd.prog (Tryd.f3.params.toList ++ Rows.keysParseSpec.plain.varTypes Tryd.prog) (ds ++ gs)).all (· ≤ reachBytes) = true)
    (hL : laidMetH Tryd.prog Rows.keysParseRow.laid W) (hS : W.ShapedOpen Tryd.prog) :
    Calls Tryd.prog 3 args W fun e W' => ∃ v, e = .returned v ∧ Rows.keysParseSpec.post enc Tryd.prog Tryd.f3 false true false false W args v W' := by
  have hW' := hW
  have hlt := hW.lt
  obtain ⟨p, q, hA0, hV, rfl, hfz, hnd⟩ := hW
  have hA : DataW.TrodAll enc Tryd.prog W 0 (fun _ => true) true Tryd.f3.params.toList args.toList ds p := hA0
  rw [Tryd.params3] at hA hval hsz
  obtain ⟨v0, vs0, d0, ds0, p0, q0, hargs, rfl, rfl, h0, r0⟩ := trodAll_cons hA
  obtain ⟨rfl, rfl, rfl⟩ := trodAll_nil r0
  obtain rfl : args = #[v0] := by cases args; simp_all
  obtain ⟨rfl, rfl⟩ := trodVars_none hV
  obtain ⟨y0, o0, e0⟩ := open_arg (T := T0) (by kernel_rfl) (hval 0 _ v0 rfl rfl) h0 (fun n hn => of_decide_eq_true (List.all_eq_true.1 hsz n (DataW.weights_mem_each (j := 0) rfl rfl n hn)))
  obtain ⟨K, hK⟩ := law y0
  have run := hK K (Nat.le_refl K)
  have hp : PtV X0 W (topG W) [v0] [.d (T0.argD y0)] := by
    refine ⟨rfl, fun j v x k1 k2 => ?_⟩
    match j with
    | 0 => simp at k1 k2; subst k1; subst k2; exact e0 _ _
    | j + 1 => simp at k1
  clear hA0
  simp only [List.append_nil] at hW'
  refine (law_calls run rfl (Keys.globAll hL hS) hp).mono fun e W' ⟨he, hb⟩ => ?_
  subst he
  exact ⟨_, rfl, post_of_below (pa := _) (pv := []) hW' (fun _ _ _ => trodAll_cons_mk (shut_bool Tryd.underlying4 _) trodAll_mk0)
    (fun sp hsp => (trodAll_cons_mk (WideElems.Trod_stays (by kernel_rfl) (by kernel_rfl) (of_decide_eq_true (by kernel_rfl)) h0 (fun x hx => hb.same (hlt x (by simp [hx]))) (fun x hx => hsp x (by simp [hx]))) trodAll_mk0))
    (fun _ _ => rfl) (by simp) hb (ok_one (by kernel_rfl) rfl (okWide_bool_mk Tryd.underlying4 _))⟩

/-- A datum's cells. -/
def flatW : Nat → DataW Unit → List Value
  | _, .lit (.int k n) => [.int k n]
  | _, .lit (.string s) => [.string ⟨s.toArray⟩]
  | f + 1, .agg ds => ds.flatMap (flatW f)
  | _, _ => []
/-- A variable's cells, laid. -/
def layAt (h : Array Obj) (g : Option Nat) (cs : Array Value) : Array Obj :=
  match g with
  | some g => h.modify g (fun o => match o with
    | .cells _ t frozen => .cells cs t frozen
    | o => o)
  | none => h
/-- A world for the witness: each listed variable holds what is listed. -/
noncomputable def laidWorld (os : Os) : World :=
  { World.holding Tryd.prog os ⟨#[], #[], []⟩ with heap := Rows.keysParseRow.laid.foldl (fun h x => layAt h (Tryd.prog.globalNamed x.1) (flatW 3 x.2).toArray) (World.holding Tryd.prog os ⟨#[], #[], []⟩).heap }
abbrev argW : Array Value := #[.string ⟨#[]⟩]
theorem laid_met (os : Os) : laidMet Tryd.prog Rows.keysParseRow.laid ((laidWorld os).forCall (fun _ _ => 0) ⟨#[], argW, []⟩).memory :=
  laidMet_of_run3 8 (by kernel_rfl) (by kernel_rfl) (by kernel_rfl)
theorem reads (os : Os) {H : Type} (enc : TypeId × Value → H) : ∃ places, DataW.whole enc Tryd.prog ((laidWorld os).forCall (fun _ _ => 0) ⟨#[], argW, []⟩).memory Tryd.f3.params.toList Rows.keysParseSpec.vars false argW.toList 8 = some ([.lit (.string [])], [], places) :=
  ⟨[], by kernel_rfl⟩
set_option maxRecDepth 100000 in
theorem lifted (os : Os) (started : os.Started) (H : Type) (enc : TypeId × Value → H) (F : Stop.Interp) :
    ReturnsInHanded {} Tryd.checked os 3 .any ((OpenSpec.ofChange Rows.keysParseSpec).preRow enc Tryd.prog Tryd.f3 Rows.keysParseRow.domain false Rows.keysParseRow.laid) (((OpenSpec.ofChange Rows.keysParseSpec).at F).post enc Tryd.prog Tryd.f3 false true false false) := by
  obtain ⟨places, hx⟩ := reads os enc
  refine returnsInHanded_of_row (C := Tryd.checked) (s := OpenSpec.ofChange Rows.keysParseSpec) own started (by kernel_rfl) Tryd.func3
    (witness_row_at (enc := enc) (C := Tryd.checked) false (laidWorld os) argW rfl (by kernel_rfl) (by kernel_rfl) (by kernel_rfl)
      (OpenSpec.preRow_of_cond 8 hx (by kernel_rfl) (fun k hk => by cases hk) (by kernel_rfl) (laid_met os))) ?_
  intro W base args ds gs before hval hW _ _ hsz hL hS _
  exact contract H enc W base args ds gs before hval hW hsz hL hS
theorem said : Rows.KeysParseSaid :=
  OpenClaim.holds_of_cond 3 Tryd.f3 rfl rfl rfl rfl rfl rfl rfl ⟨rfl, rfl, rfl, rfl, rfl⟩ rfl rfl rfl rfl rfl (by kernel_rfl) Tryd.func3 (by kernel_rfl)
    (of_decide_eq_true (by kernel_rfl)) (by unfold Func.isWrapper; first | (rw [if_pos (by decide +kernel)]; kernel_rfl) | (rw [if_neg (by decide +kernel)]; exact ⟨rfl, rfl⟩))
    (fun os started H enc _ F => by rw [OpenClaim.pre_eq_preRow]; exact lifted os started H enc F)
theorem plain (f : FuncId) (fn : Func) (hf : Tryd.pinned.checked.prog.funcNamed "bodkin/bodkinlaw46.KeysParse" = some f) (hfn : Tryd.pinned.checked.prog.funcs[f]? = some fn) :
    false = Tryd.pinned.checked.prog.looks [] ∧ ∀ (j : Nat) t, fn.params[j]? = some t → Tryd.pinned.checked.prog.wantsStandIn t = false := by
  obtain rfl : f = 3 := Option.some.inj ((show Tryd.prog.funcNamed "bodkin/bodkinlaw46.KeysParse" = some 3 by kernel_rfl).symm.trans hf) |>.symm
  obtain rfl : fn = Tryd.f3 := (Option.some.inj (Tryd.func3.symm.trans hfn)).symm
  refine ⟨by kernel_rfl, fun j t ht => ?_⟩
  rw [Tryd.params3] at ht
  obtain rfl : t = 9 := by simpa using Array.mem_of_getElem? ht
  exact (show Tryd.prog.wantsStandIn 9 = false by kernel_rfl)
/-- KeysParse: for every input it returns true. -/
theorem holds : Rows.KeysParseCardSaid :=
  Claim7.holds_tied_plain_at .later [] _ _ _ _ said (fun _ h => by cases h) (by kernel_rfl) (fun _ h => by cases h) keysParse_row_tie rfl ⟨rfl, rfl⟩ (by kernel_rfl) rfl plain (by kernel_rfl)
end Go.Proofs.YtnmabjamkpmkcaaDoor.keysParse
