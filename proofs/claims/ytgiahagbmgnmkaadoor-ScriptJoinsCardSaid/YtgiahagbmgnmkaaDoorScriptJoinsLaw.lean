/- bodkin: the law ScriptJoins, from its run to its card: for every input it returns true and its arguments read as before. -/
import Derived.Test.YtgiahagbmgnmkaaDoorRows
import Derived.Lib.LaidTab
import Derived.FnData
import Derived.Test.YtgiahagbmgnmkaaDoorCards
import Derived.Test.YtgiahagbmgnmkaaDoorTie
import Derived.WalkKit
import Derived.ProofKit
import Derived.OpenShut
import Derived.JoinedCond
import Derived.Carry
import Derived.SizedLaws
import Derived.Deep.DeepHandedRow
import Derived.Deep.DeepLaidRun
import Derived.Test.YtgiahagbmgnmkaaDoorMScriptJoinsLaw4
/- Script: paths, printed by a program of mine. -/
set_option maxRecDepth 100000
set_option linter.unusedSimpArgs false
set_option linter.unusedVariables false
namespace Go.Proofs.YtgiahagbmgnmkaaDoor.Script
open Go Pv G
set_option maxHeartbeats 4000000 in
theorem reY : reY_T := by
  intro l es hl hs e
  exact pV 12 [(0, .l (Ex.exit (0 : Nat)) (stREx [] es))] (cE (@reYesL (l) (es) hl hs e) nilE) (by kernel_rfl) rfl rfl
set_option maxHeartbeats 4000000 in
theorem reN : reN_T := by
  intro l es z hl hs e ez
  exact pV 12 [(0, .l (Ex.ret) (stREr es z))] (cE (@reNoL (l) (es) (z) hl hs e ez) nilE) (by kernel_rfl) rfl rfl
set_option maxHeartbeats 4000000 in
theorem riY : riY_T := by
  intro l m rs ns hl hs e hl2 hs2 e2
  exact pV 12 [(0, .l (Ex.exit (0 : Nat)) (stRIx m rs [])), (1, .l (Ex.exit (2 : Nat)) (stRIy [] rs ns))] (cE (@rbYesL (m) (rs) (ns) hl2 hs2 e2) (cE (@raYesL (l) (m) (rs) hl hs e) nilE)) (by kernel_rfl) rfl rfl
set_option maxHeartbeats 4000000 in
theorem riN1 : riN1_T := by
  intro l m rs hl hs e
  exact pV 12 [(0, .l (Ex.ret) (stRIr rs [] []))] (cE (@raNoL (l) (m) (rs) hl hs e) nilE) (by kernel_rfl) rfl rfl
set_option maxHeartbeats 4000000 in
theorem riN2 : riN2_T := by
  intro l m rs ns z hl hs e hl2 hs2 e2 ez
  exact pV 12 [(0, .l (Ex.exit (0 : Nat)) (stRIx m rs [])), (1, .l (Ex.ret) (stRIr rs ns z))] (cE (@rbNoL (m) (rs) (ns) (z) hl2 hs2 e2 ez) (cE (@raYesL (l) (m) (rs) hl hs e) nilE)) (by kernel_rfl) rfl rfl
set_option maxHeartbeats 4000000 in
theorem rz2Y : rz2Y_T := by
  intro k l ns hs hl ho en hn
  have hx0 : ((↑(List.length l) : Int) != (2 : Int)) = false := by simp [*]
  have hx1 : ((↑(List.length ns) : Int) != (2 : Int)) = false := by simp [*]
  exact pV 12 [(0, .v (V.d (Ty.slD i64 ns))), (3, bf), (4, bf), (6, bf), (7, bf), (9, bf), (10, bf), (13, .v (V.d (D.ref (List.flatMap (Ty.enc i64) ns) ((Int.toNat (0 : Int)) * (1 : Nat))))), (14, .v (V.d (D.int IntKind.i64 (intAt ns (nat_lit 0))))), (17, .v (V.d (D.ref (List.flatMap (Ty.enc i64) ns) ((Int.toNat (1 : Int)) * (1 : Nat))))), (18, .v (V.d (D.int IntKind.i64 (intAt ns (nat_lit 1)))))] (cP (@loadIntK (ns) ([(Ob.cells [(V.d (D.int IntKind.i64 (0 : Int))), (V.d (D.int IntKind.i64 (0 : Int))), (V.d (D.int IntKind.i64 (0 : Int))), (V.tail (nat_lit 48) [] (nat_lit 0)), (V.tail (nat_lit 3) [] (nat_lit 0)), (V.tail (nat_lit 60) [] (nat_lit 0))]), (Ob.cells [(V.d (D.int IntKind.i64 k)), (V.d (D.int IntKind.i64 (intAt ns (nat_lit 0)))), (V.d (D.int IntKind.i64 (0 : Int))), (V.tail (nat_lit 48) [] (nat_lit 0)), (V.tail (nat_lit 3) [] (nat_lit 0)), (V.tail (nat_lit 60) [] (nat_lit 0))])]) (nat_lit 1) (by simp [*])) (cP (@iaddrInt (ns) ((1 : Int)) (by omega) (by omega)) (cP (@loadIntK (ns) ([(Ob.cells [(V.d (D.int IntKind.i64 (0 : Int))), (V.d (D.int IntKind.i64 (0 : Int))), (V.d (D.int IntKind.i64 (0 : Int))), (V.tail (nat_lit 48) [] (nat_lit 0)), (V.tail (nat_lit 3) [] (nat_lit 0)), (V.tail (nat_lit 60) [] (nat_lit 0))]), (Ob.cells [(V.d (D.int IntKind.i64 k)), (V.d (D.int IntKind.i64 (0 : Int))), (V.d (D.int IntKind.i64 (0 : Int))), (V.tail (nat_lit 48) [] (nat_lit 0)), (V.tail (nat_lit 3) [] (nat_lit 0)), (V.tail (nat_lit 60) [] (nat_lit 0))])]) (nat_lit 0) (by simp [*])) (cP (@iaddrInt (ns) ((0 : Int)) (by omega) (by omega)) (cP hx1 (cP hx0 (cP hx0 (cP hx0 (cP hx0 (cP hx0 (cC (@nmY (l) (ns) (by omega) hs (by omega) ho en) nilE))))))))))) (by kernel_rfl) rfl rfl
set_option maxHeartbeats 4000000 in
theorem rz2A : rz2A_T := by
  intro k l ns hl2 hs hp hl ho en
  have hx0 : ((↑(List.length l) : Int) != (2 : Int)) = true := by (first | assumption | (((try simp only [SA] at *); (try simp (disch := omega) only [SB, reduceCtorEq] at *)) <;> first | omega | assumption | (refine ⟨?_, ?_⟩ <;> assumption) | (refine ⟨?_, ?_, ?_⟩ <;> assumption) | (intros; assumption) | (right; right; assumption) | (right; left; assumption) | (left; assumption)))
  exact pV 12 [(0, .v (V.d (Ty.slD i64 ns))), (3, bt), (4, bt), (5, bt), (6, bt), (7, bt)] (cP hx0 (cP hx0 (cP hx0 (cP hx0 (cP hx0 (cC (@nmY (l) (ns) hl2 hs hp ho en) nilE)))))) (by kernel_rfl) rfl rfl
set_option maxHeartbeats 4000000 in
theorem rz2B : rz2B_T := by
  intro k l hl2 hs ho
  rcases Bool.eq_false_or_eq_true ((↑(List.length l) : Int) != (2 : Int)) with hx0 | hx0
  · exact pV 12 [(0, .v (Ty.tailV i64 (3 : TypeId) [])), (3, bt), (4, bt), (5, bt), (6, bt), (7, bt)] (cP hx0 (cP hx0 (cP hx0 (cP hx0 (cP hx0 (cC (@nmN (l) hl2 hs ho) nilE)))))) (by kernel_rfl) rfl rfl
  · exact pV 12 [(0, .v (Ty.tailV i64 (3 : TypeId) [])), (3, bf), (4, bf), (6, bf), (7, bf), (9, bf)] (cP hx0 (cP hx0 (cP hx0 (cP hx0 (cP hx0 (cC (@nmN (l) hl2 hs ho) nilE)))))) (by kernel_rfl) rfl rfl
set_option maxHeartbeats 4000000 in
theorem rz2C : rz2C_T := by
  intro k l hl
  have hx0 : ((↑(List.length l) : Int) != (2 : Int)) = true := by simp [*]
  exact pV 12 [(0, .v (V.full [] (0 : Nat))), (3, bt), (4, bt), (5, bt), (6, bt), (7, bt)] (cP hx0 (cP hx0 (cP hx0 (cP hx0 (cP hx0 (cC (@nmE (l) hl) nilE)))))) (by kernel_rfl) rfl rfl
set_option maxHeartbeats 4000000 in
theorem rz1Y : rz1Y_T := by
  intro k l ns hs hl ho en hn
  have hx0 : ((↑(List.length l) : Int) != (1 : Int)) = false := by simp [*]
  have hx1 : ((↑(List.length ns) : Int) != (1 : Int)) = false := by simp [*]
  exact pV 12 [(0, .v (V.d (Ty.slD i64 ns))), (3, bf), (4, bf), (6, bf), (7, bf), (9, bf), (10, bf), (13, .v (V.d (D.ref (List.flatMap (Ty.enc i64) ns) ((Int.toNat (0 : Int)) * (1 : Nat))))), (14, .v (V.d (D.int IntKind.i64 (intAt ns (nat_lit 0)))))] (cP (@loadIntK (ns) ([(Ob.cells [(V.d (D.int IntKind.i64 (0 : Int))), (V.d (D.int IntKind.i64 (0 : Int))), (V.d (D.int IntKind.i64 (0 : Int))), (V.tail (nat_lit 48) [] (nat_lit 0)), (V.tail (nat_lit 3) [] (nat_lit 0)), (V.tail (nat_lit 60) [] (nat_lit 0))]), (Ob.cells [(V.d (D.int IntKind.i64 k)), (V.d (D.int IntKind.i64 (0 : Int))), (V.d (D.int IntKind.i64 (0 : Int))), (V.tail (nat_lit 48) [] (nat_lit 0)), (V.tail (nat_lit 3) [] (nat_lit 0)), (V.tail (nat_lit 60) [] (nat_lit 0))])]) (nat_lit 0) (by simp [*])) (cP (@iaddrInt (ns) ((0 : Int)) (by omega) (by omega)) (cP hx1 (cP hx0 (cP hx0 (cP hx0 (cP hx0 (cP hx0 (cC (@nmY (l) (ns) (by omega) hs (by omega) ho en) nilE))))))))) (by kernel_rfl) rfl rfl
set_option maxHeartbeats 4000000 in
theorem rz1A : rz1A_T := by
  intro k l ns hl2 hs hp hl ho en
  have hx0 : ((↑(List.length l) : Int) != (1 : Int)) = true := by (first | assumption | (((try simp only [SA] at *); (try simp (disch := omega) only [SB, reduceCtorEq] at *)) <;> first | omega | assumption | (refine ⟨?_, ?_⟩ <;> assumption) | (refine ⟨?_, ?_, ?_⟩ <;> assumption) | (intros; assumption) | (right; right; assumption) | (right; left; assumption) | (left; assumption)))
  exact pV 12 [(0, .v (V.d (Ty.slD i64 ns))), (3, bt), (4, bt), (5, bt), (6, bt), (7, bt)] (cP hx0 (cP hx0 (cP hx0 (cP hx0 (cP hx0 (cC (@nmY (l) (ns) hl2 hs hp ho en) nilE)))))) (by kernel_rfl) rfl rfl
set_option maxHeartbeats 4000000 in
theorem rz1B : rz1B_T := by
  intro k l hl2 hs ho
  rcases Bool.eq_false_or_eq_true ((↑(List.length l) : Int) != (1 : Int)) with hx0 | hx0
  · exact pV 12 [(0, .v (Ty.tailV i64 (3 : TypeId) [])), (3, bt), (4, bt), (5, bt), (6, bt), (7, bt)] (cP hx0 (cP hx0 (cP hx0 (cP hx0 (cP hx0 (cC (@nmN (l) hl2 hs ho) nilE)))))) (by kernel_rfl) rfl rfl
  · exact pV 12 [(0, .v (Ty.tailV i64 (3 : TypeId) [])), (3, bf), (4, bf), (6, bf), (7, bf), (9, bf)] (cP hx0 (cP hx0 (cP hx0 (cP hx0 (cP hx0 (cC (@nmN (l) hl2 hs ho) nilE)))))) (by kernel_rfl) rfl rfl
set_option maxHeartbeats 4000000 in
theorem rz1C : rz1C_T := by
  intro k l hl
  have hx0 : ((↑(List.length l) : Int) != (1 : Int)) = true := by simp [*]
  exact pV 12 [(0, .v (V.full [] (0 : Nat))), (3, bt), (4, bt), (5, bt), (6, bt), (7, bt)] (cP hx0 (cP hx0 (cP hx0 (cP hx0 (cP hx0 (cC (@nmE (l) hl) nilE)))))) (by kernel_rfl) rfl rfl
set_option maxHeartbeats 4000000 in
theorem rz0Y : rz0Y_T := by
  intro k l hl
  have hx0 : ((↑(List.length l) : Int) != (0 : Int)) = false := by simp [*]
  exact pV 12 [(0, .v (V.full [] (0 : Nat))), (3, bf), (4, bf), (6, bf), (7, bf), (9, bf)] (cP hx0 (cP hx0 (cP hx0 (cP hx0 (cP hx0 (cC (@nmE (l) hl) nilE)))))) (by kernel_rfl) rfl rfl
set_option maxHeartbeats 4000000 in
theorem rz0A : rz0A_T := by
  intro k l ns hl2 hs hp ho en
  have hx0 : ((↑(List.length l) : Int) != (0 : Int)) = true := by (first | assumption | (((try simp only [SA] at *); (try simp (disch := omega) only [SB, reduceCtorEq] at *)) <;> first | omega | assumption | (refine ⟨?_, ?_⟩ <;> assumption) | (refine ⟨?_, ?_, ?_⟩ <;> assumption) | (intros; assumption) | (right; right; assumption) | (right; left; assumption) | (left; assumption)))
  exact pV 12 [(0, .v (V.d (Ty.slD i64 ns))), (3, bt), (4, bt), (5, bt), (6, bt), (7, bt)] (cP hx0 (cP hx0 (cP hx0 (cP hx0 (cP hx0 (cC (@nmY (l) (ns) hl2 hs hp ho en) nilE)))))) (by kernel_rfl) rfl rfl
set_option maxHeartbeats 4000000 in
theorem rz0B : rz0B_T := by
  intro k l hl2 hs hp ho
  have hx0 : ((↑(List.length l) : Int) != (0 : Int)) = true := by (first | assumption | (((try simp only [SA] at *); (try simp (disch := omega) only [SB, reduceCtorEq] at *)) <;> first | omega | assumption | (refine ⟨?_, ?_⟩ <;> assumption) | (refine ⟨?_, ?_, ?_⟩ <;> assumption) | (intros; assumption) | (right; right; assumption) | (right; left; assumption) | (left; assumption)))
  exact pV 12 [(0, .v (Ty.tailV i64 (3 : TypeId) [])), (3, bt), (4, bt), (5, bt), (6, bt), (7, bt)] (cP hx0 (cP hx0 (cP hx0 (cP hx0 (cP hx0 (cC (@nmN (l) hl2 hs ho) nilE)))))) (by kernel_rfl) rfl rfl
end Go.Proofs.YtgiahagbmgnmkaaDoor.Script
/- Script: the reference's edits, inlays, sized as one; statements of the reference's Parse. -/
set_option linter.unusedVariables false
set_option linter.unusedSimpArgs false
namespace Go.Proofs.YtgiahagbmgnmkaaDoor.Script
open Go Pv G
theorem pairE {α β : Type} (p : α × β) (b : β) (h : p.2 = b) : p = (p.1, b) := by rw [← h]
def refEd_T : Prop := ∀ (l : List Str) (k a b : Int) (es : List Edit) (rs : List Int) (ns : List Inl) (ok : Bool) (hl : l.length ≤ 1000000) (hs : Sm l) (e : rfEdits l = ((k, a, b, es, rs, ns), ok)), Ans X0 FRe [.d (strsD l)] (.d (.tup [opR k a b es rs ns, .bool ok]))
theorem refEd : refEd_T := fun l k a b es rs ns ok hl hs e => by
  unfold rfEdits at e
  injection e with e1 e2
  injection e1 with k1 e1
  injection e1 with k2 e1
  injection e1 with k3 e1
  injection e1 with k4 e1
  injection e1 with k5 k6
  subst k1; subst k2; subst k3; subst k5; subst k6
  have e : rfEd (l.length + 1) l [] = (es, ok) := by rw [← k4, ← e2]
  cases ok with
  | true => exact reY l es hl hs e
  | false => exact reN l es _ hl hs e rfl
def refIn_T : Prop := ∀ (l : List Str) (k a b : Int) (es : List Edit) (rs : List Int) (ns : List Inl) (ok : Bool) (hl : l.length ≤ 1000000) (hs : Sm l) (e : rfInlays l = ((k, a, b, es, rs, ns), ok)), Ans X0 FRi [.d (strsD l)] (.d (.tup [opR k a b es rs ns, .bool ok]))
theorem refIn : refIn_T := fun l k a b es rs ns ok hl hs e => by
  unfold rfInlays at e
  have hsm := rfRm_sm (l.length + 1) l [] hs
  by_cases hr : (rfRs l).2.2 = true
  · rw [if_pos hr] at e
    have e0 : rfRs l = ((rfRs l).1, (rfRs l).2.1, true) := by rw [← hr]
    injection e with e1 e2
    injection e1 with k1 e1
    injection e1 with k2 e1
    injection e1 with k3 e1
    injection e1 with k4 e1
    injection e1 with k5 k6
    subst k1; subst k2; subst k3; subst k4; subst k5; subst k6
    have e3 : rfAs (rfRs l).1 = ((rfAs (rfRs l).1).1, ok) := by rw [← e2]
    have hl2 : (rfRs l).1.length ≤ 1000000 := Nat.le_trans hsm.2 hl
    cases ok with
    | true => exact riY l _ _ _ hl hs e0 hl2 hsm.1 e3
    | false => exact riN2 l _ _ _ _ hl hs e0 hl2 hsm.1 e3 rfl
  · have hr' := bF hr
    rw [if_neg hr] at e
    have e0 : rfRs l = ((rfRs l).1, (rfRs l).2.1, false) := by rw [← hr']
    injection e with e1 e2
    injection e1 with k1 e1
    injection e1 with k2 e1
    injection e1 with k3 e1
    injection e1 with k4 e1
    injection e1 with k5 k6
    subst k1; subst k2; subst k3; subst k4; subst k5; subst k6; subst e2
    exact riN1 l _ _ hl hs e0
theorem szNo {k : Int} {c : Nat} {l : List Str} {o : Opn} {ok : Bool} (h : ¬ (l.length = c ∧ (numsL l).length = c)) (e : rfSized k c l = (o, ok)) : o = op0 ∧ ok = false := by
  unfold rfSized at e
  rw [if_neg h] at e
  injection e with e1 e2
  exact ⟨e1.symm, e2.symm⟩
theorem szYes {k : Int} {c : Nat} {l : List Str} {o : Opn} {ok : Bool} (h : l.length = c ∧ (numsL l).length = c) (e : rfSized k c l = (o, ok)) : o = (k, (if 0 < c then intAt (numsL l) 0 else 0), (if 1 < c then intAt (numsL l) 1 else 0), [], [], []) ∧ ok = true := by
  unfold rfSized at e
  rw [if_pos h] at e
  injection e with e1 e2
  exact ⟨e1.symm, e2.symm⟩

def refSz2_T : Prop := ∀ (k0 : Int) (l : List Str) (k a b : Int) (es : List Edit) (rs : List Int) (ns : List Inl) (ok : Bool) (hl : l.length ≤ 1000000) (hs : Sm l) (e : rfSized k0 2 l = ((k, a, b, es, rs, ns), ok)), Ans X0 FSz [.d (.int .i64 k0), .d (.int .i64 2), .d (strsD l)] (.d (.tup [opR k a b es rs ns, .bool ok]))
theorem refSz2 : refSz2_T := fun k0 l k a b es rs ns ok hl hs e => by
  by_cases h0 : 0 < l.length
  · cases ho : okAll l with
    | false =>
      have hn := numsL_noAll ho
      obtain ⟨e1, e2⟩ := szNo (fun hh => by rw [hn] at hh; simp at hh) e
      cases e1; subst e2
      exact rz2B k0 l hl hs ho
    | true =>
      have hn := numsL_okAll ho
      by_cases hc : l.length = 2
      · obtain ⟨e1, e2⟩ := szYes ⟨hc, by rw [hn, List.length_map]; exact hc⟩ e
        rw [hn] at e1
        cases e1; subst e2
        exact rz2Y k0 l _ hs hc ho rfl (by rw [List.length_map]; exact hc)
      · obtain ⟨e1, e2⟩ := szNo (fun hh => hc hh.1) e
        cases e1; subst e2
        exact rz2A k0 l _ hl hs h0 hc ho rfl
  · obtain ⟨e1, e2⟩ := szNo (fun hh => by omega) e
    cases e1; subst e2
    exact rz2C k0 l (by omega)
def refSz1_T : Prop := ∀ (k0 : Int) (l : List Str) (k a b : Int) (es : List Edit) (rs : List Int) (ns : List Inl) (ok : Bool) (hl : l.length ≤ 1000000) (hs : Sm l) (e : rfSized k0 1 l = ((k, a, b, es, rs, ns), ok)), Ans X0 FSz [.d (.int .i64 k0), .d (.int .i64 1), .d (strsD l)] (.d (.tup [opR k a b es rs ns, .bool ok]))
theorem refSz1 : refSz1_T := fun k0 l k a b es rs ns ok hl hs e => by
  by_cases h0 : 0 < l.length
  · cases ho : okAll l with
    | false =>
      have hn := numsL_noAll ho
      obtain ⟨e1, e2⟩ := szNo (fun hh => by rw [hn] at hh; simp at hh) e
      cases e1; subst e2
      exact rz1B k0 l hl hs ho
    | true =>
      have hn := numsL_okAll ho
      by_cases hc : l.length = 1
      · obtain ⟨e1, e2⟩ := szYes ⟨hc, by rw [hn, List.length_map]; exact hc⟩ e
        rw [hn] at e1
        cases e1; subst e2
        exact rz1Y k0 l _ hs hc ho rfl (by rw [List.length_map]; exact hc)
      · obtain ⟨e1, e2⟩ := szNo (fun hh => hc hh.1) e
        cases e1; subst e2
        exact rz1A k0 l _ hl hs h0 hc ho rfl
  · obtain ⟨e1, e2⟩ := szNo (fun hh => by omega) e
    cases e1; subst e2
    exact rz1C k0 l (by omega)
def refSz0_T : Prop := ∀ (k0 : Int) (l : List Str) (k a b : Int) (es : List Edit) (rs : List Int) (ns : List Inl) (ok : Bool) (hl : l.length ≤ 1000000) (hs : Sm l) (e : rfSized k0 0 l = ((k, a, b, es, rs, ns), ok)), Ans X0 FSz [.d (.int .i64 k0), .d (.int .i64 0), .d (strsD l)] (.d (.tup [opR k a b es rs ns, .bool ok]))
theorem refSz0 : refSz0_T := fun k0 l k a b es rs ns ok hl hs e => by
  by_cases h0 : 0 < l.length
  · obtain ⟨e1, e2⟩ := szNo (fun hh => by omega) e
    cases e1; subst e2
    cases ho : okAll l with
    | false => exact rz0B k0 l hl hs h0 ho
    | true => exact rz0A k0 l _ hl hs h0 ho rfl
  · have hl0 : l = [] := List.eq_nil_of_length_eq_zero (by omega)
    subst hl0
    obtain ⟨e1, e2⟩ := szYes ⟨rfl, rfl⟩ e
    cases e1; subst e2
    exact rz0Y k0 [] rfl
def iaddrStr0_T : Prop := ∀ (l : List Str) (h0 : 0 < l.length), iaddrV X0 41 (.d (strsD l)) (.d (.int .i64 0)) = some (.d (.ref (l.map D.str) 0))
theorem iaddrStr0 : iaddrStr0_T := fun l h0 => iaddrStr l 0 (by omega) (by omega)
def loadStr0E_T : Prop := ∀ (l : List Str) (h : List Ob) (v : Str) (hk : 0 < l.length) (e : strAt l 0 = v), loadV X0 h 9 (.d (.ref (l.map D.str) 0)) = some (.d (.str v))
theorem loadStr0E : loadStr0E_T := fun l h v hk e => by subst e; exact loadStrK l h 0 hk
def rpNl_T : Prop := ∀ (s : Str) (hl : s.length ≤ 1000000) (hn : hasC 10 s = true), Ans X0 FPr [.d (.str s)] (.d zR)
def rpEdit_T : Prop := ∀ (s : Str) (l m : List Str) (k a b : Int) (es : List Edit) (rs : List Int) (ns : List Inl) (ok : Bool) (hl : s.length ≤ 1000000) (hn : hasC 10 s = false) (ew : pieces 32 s = l) (hp : 0 < l.length) (hl1 : 1 ≤ l.length) (q : strAt l 0 = [101, 100, 105, 116]) (em : l.drop 1 = m) (hlm : m.length ≤ 1000000) (hs : Sm m) (e : rfEdits m = ((k, a, b, es, rs, ns), ok)), Ans X0 FPr [.d (.str s)] (.d (.tup [opR k a b es rs ns, .bool ok]))
def rpFold_T : Prop := ∀ (s : Str) (l m : List Str) (k a b : Int) (es : List Edit) (rs : List Int) (ns : List Inl) (ok : Bool) (hl : s.length ≤ 1000000) (hn : hasC 10 s = false) (ew : pieces 32 s = l) (hp : 0 < l.length) (hl1 : 1 ≤ l.length) (q : strAt l 0 = [102, 111, 108, 100]) (em : l.drop 1 = m) (hlm : m.length ≤ 1000000) (hs : Sm m) (e : rfSized 2 2 m = ((k, a, b, es, rs, ns), ok)), Ans X0 FPr [.d (.str s)] (.d (.tup [opR k a b es rs ns, .bool ok]))
def rpUnfold_T : Prop := ∀ (s : Str) (l m : List Str) (k a b : Int) (es : List Edit) (rs : List Int) (ns : List Inl) (ok : Bool) (hl : s.length ≤ 1000000) (hn : hasC 10 s = false) (ew : pieces 32 s = l) (hp : 0 < l.length) (hl1 : 1 ≤ l.length) (q : strAt l 0 = [117, 110, 102, 111, 108, 100]) (em : l.drop 1 = m) (hlm : m.length ≤ 1000000) (hs : Sm m) (e : rfSized 3 2 m = ((k, a, b, es, rs, ns), ok)), Ans X0 FPr [.d (.str s)] (.d (.tup [opR k a b es rs ns, .bool ok]))
def rpInlay_T : Prop := ∀ (s : Str) (l m : List Str) (k a b : Int) (es : List Edit) (rs : List Int) (ns : List Inl) (ok : Bool) (hl : s.length ≤ 1000000) (hn : hasC 10 s = false) (ew : pieces 32 s = l) (hp : 0 < l.length) (hl1 : 1 ≤ l.length) (q : strAt l 0 = [105, 110, 108, 97, 121]) (em : l.drop 1 = m) (hlm : m.length ≤ 1000000) (hs : Sm m) (e : rfInlays m = ((k, a, b, es, rs, ns), ok)), Ans X0 FPr [.d (.str s)] (.d (.tup [opR k a b es rs ns, .bool ok]))
def rpWidth_T : Prop := ∀ (s : Str) (l m : List Str) (k a b : Int) (es : List Edit) (rs : List Int) (ns : List Inl) (ok : Bool) (hl : s.length ≤ 1000000) (hn : hasC 10 s = false) (ew : pieces 32 s = l) (hp : 0 < l.length) (hl1 : 1 ≤ l.length) (q : strAt l 0 = [119, 105, 100, 116, 104]) (em : l.drop 1 = m) (hlm : m.length ≤ 1000000) (hs : Sm m) (e : rfSized 5 1 m = ((k, a, b, es, rs, ns), ok)), Ans X0 FPr [.d (.str s)] (.d (.tup [opR k a b es rs ns, .bool ok]))
def rpTab_T : Prop := ∀ (s : Str) (l m : List Str) (k a b : Int) (es : List Edit) (rs : List Int) (ns : List Inl) (ok : Bool) (hl : s.length ≤ 1000000) (hn : hasC 10 s = false) (ew : pieces 32 s = l) (hp : 0 < l.length) (hl1 : 1 ≤ l.length) (q : strAt l 0 = [116, 97, 98]) (em : l.drop 1 = m) (hlm : m.length ≤ 1000000) (hs : Sm m) (e : rfSized 6 1 m = ((k, a, b, es, rs, ns), ok)), Ans X0 FPr [.d (.str s)] (.d (.tup [opR k a b es rs ns, .bool ok]))
def rpUndo_T : Prop := ∀ (s : Str) (l m : List Str) (k a b : Int) (es : List Edit) (rs : List Int) (ns : List Inl) (ok : Bool) (hl : s.length ≤ 1000000) (hn : hasC 10 s = false) (ew : pieces 32 s = l) (hp : 0 < l.length) (hl1 : 1 ≤ l.length) (q : strAt l 0 = [117, 110, 100, 111]) (em : l.drop 1 = m) (hlm : m.length ≤ 1000000) (hs : Sm m) (e : rfSized 7 0 m = ((k, a, b, es, rs, ns), ok)), Ans X0 FPr [.d (.str s)] (.d (.tup [opR k a b es rs ns, .bool ok]))
def rpRedo_T : Prop := ∀ (s : Str) (l m : List Str) (k a b : Int) (es : List Edit) (rs : List Int) (ns : List Inl) (ok : Bool) (hl : s.length ≤ 1000000) (hn : hasC 10 s = false) (ew : pieces 32 s = l) (hp : 0 < l.length) (hl1 : 1 ≤ l.length) (q : strAt l 0 = [114, 101, 100, 111]) (em : l.drop 1 = m) (hlm : m.length ≤ 1000000) (hs : Sm m) (e : rfSized 8 0 m = ((k, a, b, es, rs, ns), ok)), Ans X0 FPr [.d (.str s)] (.d (.tup [opR k a b es rs ns, .bool ok]))
def rpNo_T : Prop := ∀ (s v : Str) (l : List Str) (hl : s.length ≤ 1000000) (hn : hasC 10 s = false) (ew : pieces 32 s = l) (hp : 0 < l.length) (q : strAt l 0 = v) (q0 : (v == [101, 100, 105, 116]) = false) (q1 : (v == [102, 111, 108, 100]) = false) (q2 : (v == [117, 110, 102, 111, 108, 100]) = false) (q3 : (v == [105, 110, 108, 97, 121]) = false) (q4 : (v == [119, 105, 100, 116, 104]) = false) (q5 : (v == [116, 97, 98]) = false) (q6 : (v == [117, 110, 100, 111]) = false) (q7 : (v == [114, 101, 100, 111]) = false), Ans X0 FPr [.d (.str s)] (.d zR)
end Go.Proofs.YtgiahagbmgnmkaaDoor.Script
/- Script: paths, printed by a program of mine. -/
set_option maxRecDepth 100000
set_option linter.unusedSimpArgs false
set_option linter.unusedVariables false
namespace Go.Proofs.YtgiahagbmgnmkaaDoor.Script
open Go Pv G
set_option maxHeartbeats 4000000 in
theorem rpNl : rpNl_T := by
  intro s hl hn
  exact pV 12 [(0, .l (Ex.ret) (stPr))] (cE (@nlYesL (s) hl hn) nilE) (by kernel_rfl) rfl rfl
set_option maxHeartbeats 4000000 in
theorem rpEdit : rpEdit_T := by
  intro s l m k a b es rs ns ok hl hn ew hp hl1 q em hlm hs e
  exact pV 12 [(0, .l (Ex.exit (0 : Nat)) (stPx s (List.length s))), (1, .v (V.d (strsD l))), (2, .v (V.d (D.ref (List.map D.str l) (0 : Nat)))), (3, .v (V.d (D.str [(101 : UInt8), (100 : UInt8), (105 : UInt8), (116 : UInt8)]))), (4, .v (V.d (D.bool ([(101 : UInt8), (100 : UInt8), (105 : UInt8), (116 : UInt8)] == [(101 : UInt8), (100 : UInt8), (105 : UInt8), (116 : UInt8)])))), (6, .v (V.d (strsD m))), (7, .v (V.d (D.tup [(opR k a b es rs ns), (D.bool ok)])))] (cC (@refEd (m) (k) (a) (b) (es) (rs) (ns) (ok) hlm hs e) (cP (@sliceFr1 (l) (m) hl1 em) (cP (@strEq ([(101 : UInt8), (100 : UInt8), (105 : UInt8), (116 : UInt8)]) ([(101 : UInt8), (100 : UInt8), (105 : UInt8), (116 : UInt8)])) (cP (@loadStr0E (l) ([(Ob.cells [(V.d (D.int IntKind.i64 (0 : Int))), (V.d (D.int IntKind.i64 (0 : Int))), (V.d (D.int IntKind.i64 (0 : Int))), (V.tail (nat_lit 48) [] (nat_lit 0)), (V.tail (nat_lit 3) [] (nat_lit 0)), (V.tail (nat_lit 60) [] (nat_lit 0))])]) ([(101 : UInt8), (100 : UInt8), (105 : UInt8), (116 : UInt8)]) hp q) (cP (@iaddrStr0 (l) hp) (cC (@wordsE (s) (l) hl ew) (cE (@nlNoL (s) hl hn) nilE))))))) (by kernel_rfl) rfl rfl
set_option maxHeartbeats 4000000 in
theorem rpFold : rpFold_T := by
  intro s l m k a b es rs ns ok hl hn ew hp hl1 q em hlm hs e
  exact pV 12 [(0, .l (Ex.exit (0 : Nat)) (stPx s (List.length s))), (1, .v (V.d (strsD l))), (2, .v (V.d (D.ref (List.map D.str l) (0 : Nat)))), (3, .v (V.d (D.str [(102 : UInt8), (111 : UInt8), (108 : UInt8), (100 : UInt8)]))), (4, .v (V.d (D.bool ([(102 : UInt8), (111 : UInt8), (108 : UInt8), (100 : UInt8)] == [(101 : UInt8), (100 : UInt8), (105 : UInt8), (116 : UInt8)])))), (6, .v (V.d (D.bool ([(102 : UInt8), (111 : UInt8), (108 : UInt8), (100 : UInt8)] == [(102 : UInt8), (111 : UInt8), (108 : UInt8), (100 : UInt8)])))), (8, .v (V.d (strsD m))), (9, .v (V.d (D.tup [(opR k a b es rs ns), (D.bool ok)])))] (cC (@refSz2 ((2 : Int)) (m) (k) (a) (b) (es) (rs) (ns) (ok) hlm hs e) (cP (@sliceFr1 (l) (m) hl1 em) (cP (@strEq ([(102 : UInt8), (111 : UInt8), (108 : UInt8), (100 : UInt8)]) ([(102 : UInt8), (111 : UInt8), (108 : UInt8), (100 : UInt8)])) (cP (@strEq ([(102 : UInt8), (111 : UInt8), (108 : UInt8), (100 : UInt8)]) ([(101 : UInt8), (100 : UInt8), (105 : UInt8), (116 : UInt8)])) (cP (@loadStr0E (l) ([(Ob.cells [(V.d (D.int IntKind.i64 (0 : Int))), (V.d (D.int IntKind.i64 (0 : Int))), (V.d (D.int IntKind.i64 (0 : Int))), (V.tail (nat_lit 48) [] (nat_lit 0)), (V.tail (nat_lit 3) [] (nat_lit 0)), (V.tail (nat_lit 60) [] (nat_lit 0))])]) ([(102 : UInt8), (111 : UInt8), (108 : UInt8), (100 : UInt8)]) hp q) (cP (@iaddrStr0 (l) hp) (cC (@wordsE (s) (l) hl ew) (cE (@nlNoL (s) hl hn) nilE)))))))) (by kernel_rfl) rfl rfl
set_option maxHeartbeats 4000000 in
theorem rpUnfold : rpUnfold_T := by
  intro s l m k a b es rs ns ok hl hn ew hp hl1 q em hlm hs e
  exact pV 12 [(0, .l (Ex.exit (0 : Nat)) (stPx s (List.length s))), (1, .v (V.d (strsD l))), (2, .v (V.d (D.ref (List.map D.str l) (0 : Nat)))), (3, .v (V.d (D.str [(117 : UInt8), (110 : UInt8), (102 : UInt8), (111 : UInt8), (108 : UInt8), (100 : UInt8)]))), (4, .v (V.d (D.bool ([(117 : UInt8), (110 : UInt8), (102 : UInt8), (111 : UInt8), (108 : UInt8), (100 : UInt8)] == [(101 : UInt8), (100 : UInt8), (105 : UInt8), (116 : UInt8)])))), (6, .v (V.d (D.bool ([(117 : UInt8), (110 : UInt8), (102 : UInt8), (111 : UInt8), (108 : UInt8), (100 : UInt8)] == [(102 : UInt8), (111 : UInt8), (108 : UInt8), (100 : UInt8)])))), (8, .v (V.d (D.bool ([(117 : UInt8), (110 : UInt8), (102 : UInt8), (111 : UInt8), (108 : UInt8), (100 : UInt8)] == [(117 : UInt8), (110 : UInt8), (102 : UInt8), (111 : UInt8), (108 : UInt8), (100 : UInt8)])))), (10, .v (V.d (strsD m))), (11, .v (V.d (D.tup [(opR k a b es rs ns), (D.bool ok)])))] (cC (@refSz2 ((3 : Int)) (m) (k) (a) (b) (es) (rs) (ns) (ok) hlm hs e) (cP (@sliceFr1 (l) (m) hl1 em) (cP (@strEq ([(117 : UInt8), (110 : UInt8), (102 : UInt8), (111 : UInt8), (108 : UInt8), (100 : UInt8)]) ([(117 : UInt8), (110 : UInt8), (102 : UInt8), (111 : UInt8), (108 : UInt8), (100 : UInt8)])) (cP (@strEq ([(117 : UInt8), (110 : UInt8), (102 : UInt8), (111 : UInt8), (108 : UInt8), (100 : UInt8)]) ([(102 : UInt8), (111 : UInt8), (108 : UInt8), (100 : UInt8)])) (cP (@strEq ([(117 : UInt8), (110 : UInt8), (102 : UInt8), (111 : UInt8), (108 : UInt8), (100 : UInt8)]) ([(101 : UInt8), (100 : UInt8), (105 : UInt8), (116 : UInt8)])) (cP (@loadStr0E (l) ([(Ob.cells [(V.d (D.int IntKind.i64 (0 : Int))), (V.d (D.int IntKind.i64 (0 : Int))), (V.d (D.int IntKind.i64 (0 : Int))), (V.tail (nat_lit 48) [] (nat_lit 0)), (V.tail (nat_lit 3) [] (nat_lit 0)), (V.tail (nat_lit 60) [] (nat_lit 0))])]) ([(117 : UInt8), (110 : UInt8), (102 : UInt8), (111 : UInt8), (108 : UInt8), (100 : UInt8)]) hp q) (cP (@iaddrStr0 (l) hp) (cC (@wordsE (s) (l) hl ew) (cE (@nlNoL (s) hl hn) nilE))))))))) (by kernel_rfl) rfl rfl
set_option maxHeartbeats 4000000 in
theorem rpInlay : rpInlay_T := by
  intro s l m k a b es rs ns ok hl hn ew hp hl1 q em hlm hs e
  exact pV 12 [(0, .l (Ex.exit (0 : Nat)) (stPx s (List.length s))), (1, .v (V.d (strsD l))), (2, .v (V.d (D.ref (List.map D.str l) (0 : Nat)))), (3, .v (V.d (D.str [(105 : UInt8), (110 : UInt8), (108 : UInt8), (97 : UInt8), (121 : UInt8)]))), (4, .v (V.d (D.bool ([(105 : UInt8), (110 : UInt8), (108 : UInt8), (97 : UInt8), (121 : UInt8)] == [(101 : UInt8), (100 : UInt8), (105 : UInt8), (116 : UInt8)])))), (6, .v (V.d (D.bool ([(105 : UInt8), (110 : UInt8), (108 : UInt8), (97 : UInt8), (121 : UInt8)] == [(102 : UInt8), (111 : UInt8), (108 : UInt8), (100 : UInt8)])))), (8, .v (V.d (D.bool ([(105 : UInt8), (110 : UInt8), (108 : UInt8), (97 : UInt8), (121 : UInt8)] == [(117 : UInt8), (110 : UInt8), (102 : UInt8), (111 : UInt8), (108 : UInt8), (100 : UInt8)])))), (10, .v (V.d (D.bool ([(105 : UInt8), (110 : UInt8), (108 : UInt8), (97 : UInt8), (121 : UInt8)] == [(105 : UInt8), (110 : UInt8), (108 : UInt8), (97 : UInt8), (121 : UInt8)])))), (12, .v (V.d (strsD m))), (13, .v (V.d (D.tup [(opR k a b es rs ns), (D.bool ok)])))] (cC (@refIn (m) (k) (a) (b) (es) (rs) (ns) (ok) hlm hs e) (cP (@sliceFr1 (l) (m) hl1 em) (cP (@strEq ([(105 : UInt8), (110 : UInt8), (108 : UInt8), (97 : UInt8), (121 : UInt8)]) ([(105 : UInt8), (110 : UInt8), (108 : UInt8), (97 : UInt8), (121 : UInt8)])) (cP (@strEq ([(105 : UInt8), (110 : UInt8), (108 : UInt8), (97 : UInt8), (121 : UInt8)]) ([(117 : UInt8), (110 : UInt8), (102 : UInt8), (111 : UInt8), (108 : UInt8), (100 : UInt8)])) (cP (@strEq ([(105 : UInt8), (110 : UInt8), (108 : UInt8), (97 : UInt8), (121 : UInt8)]) ([(102 : UInt8), (111 : UInt8), (108 : UInt8), (100 : UInt8)])) (cP (@strEq ([(105 : UInt8), (110 : UInt8), (108 : UInt8), (97 : UInt8), (121 : UInt8)]) ([(101 : UInt8), (100 : UInt8), (105 : UInt8), (116 : UInt8)])) (cP (@loadStr0E (l) ([(Ob.cells [(V.d (D.int IntKind.i64 (0 : Int))), (V.d (D.int IntKind.i64 (0 : Int))), (V.d (D.int IntKind.i64 (0 : Int))), (V.tail (nat_lit 48) [] (nat_lit 0)), (V.tail (nat_lit 3) [] (nat_lit 0)), (V.tail (nat_lit 60) [] (nat_lit 0))])]) ([(105 : UInt8), (110 : UInt8), (108 : UInt8), (97 : UInt8), (121 : UInt8)]) hp q) (cP (@iaddrStr0 (l) hp) (cC (@wordsE (s) (l) hl ew) (cE (@nlNoL (s) hl hn) nilE)))))))))) (by kernel_rfl) rfl rfl
set_option maxHeartbeats 4000000 in
theorem rpWidth : rpWidth_T := by
  intro s l m k a b es rs ns ok hl hn ew hp hl1 q em hlm hs e
  exact pV 12 [(0, .l (Ex.exit (0 : Nat)) (stPx s (List.length s))), (1, .v (V.d (strsD l))), (2, .v (V.d (D.ref (List.map D.str l) (0 : Nat)))), (3, .v (V.d (D.str [(119 : UInt8), (105 : UInt8), (100 : UInt8), (116 : UInt8), (104 : UInt8)]))), (4, .v (V.d (D.bool ([(119 : UInt8), (105 : UInt8), (100 : UInt8), (116 : UInt8), (104 : UInt8)] == [(101 : UInt8), (100 : UInt8), (105 : UInt8), (116 : UInt8)])))), (6, .v (V.d (D.bool ([(119 : UInt8), (105 : UInt8), (100 : UInt8), (116 : UInt8), (104 : UInt8)] == [(102 : UInt8), (111 : UInt8), (108 : UInt8), (100 : UInt8)])))), (8, .v (V.d (D.bool ([(119 : UInt8), (105 : UInt8), (100 : UInt8), (116 : UInt8), (104 : UInt8)] == [(117 : UInt8), (110 : UInt8), (102 : UInt8), (111 : UInt8), (108 : UInt8), (100 : UInt8)])))), (10, .v (V.d (D.bool ([(119 : UInt8), (105 : UInt8), (100 : UInt8), (116 : UInt8), (104 : UInt8)] == [(105 : UInt8), (110 : UInt8), (108 : UInt8), (97 : UInt8), (121 : UInt8)])))), (12, .v (V.d (D.bool ([(119 : UInt8), (105 : UInt8), (100 : UInt8), (116 : UInt8), (104 : UInt8)] == [(119 : UInt8), (105 : UInt8), (100 : UInt8), (116 : UInt8), (104 : UInt8)])))), (14, .v (V.d (strsD m))), (15, .v (V.d (D.tup [(opR k a b es rs ns), (D.bool ok)])))] (cC (@refSz1 ((5 : Int)) (m) (k) (a) (b) (es) (rs) (ns) (ok) hlm hs e) (cP (@sliceFr1 (l) (m) hl1 em) (cP (@strEq ([(119 : UInt8), (105 : UInt8), (100 : UInt8), (116 : UInt8), (104 : UInt8)]) ([(119 : UInt8), (105 : UInt8), (100 : UInt8), (116 : UInt8), (104 : UInt8)])) (cP (@strEq ([(119 : UInt8), (105 : UInt8), (100 : UInt8), (116 : UInt8), (104 : UInt8)]) ([(105 : UInt8), (110 : UInt8), (108 : UInt8), (97 : UInt8), (121 : UInt8)])) (cP (@strEq ([(119 : UInt8), (105 : UInt8), (100 : UInt8), (116 : UInt8), (104 : UInt8)]) ([(117 : UInt8), (110 : UInt8), (102 : UInt8), (111 : UInt8), (108 : UInt8), (100 : UInt8)])) (cP (@strEq ([(119 : UInt8), (105 : UInt8), (100 : UInt8), (116 : UInt8), (104 : UInt8)]) ([(102 : UInt8), (111 : UInt8), (108 : UInt8), (100 : UInt8)])) (cP (@strEq ([(119 : UInt8), (105 : UInt8), (100 : UInt8), (116 : UInt8), (104 : UInt8)]) ([(101 : UInt8), (100 : UInt8), (105 : UInt8), (116 : UInt8)])) (cP (@loadStr0E (l) ([(Ob.cells [(V.d (D.int IntKind.i64 (0 : Int))), (V.d (D.int IntKind.i64 (0 : Int))), (V.d (D.int IntKind.i64 (0 : Int))), (V.tail (nat_lit 48) [] (nat_lit 0)), (V.tail (nat_lit 3) [] (nat_lit 0)), (V.tail (nat_lit 60) [] (nat_lit 0))])]) ([(119 : UInt8), (105 : UInt8), (100 : UInt8), (116 : UInt8), (104 : UInt8)]) hp q) (cP (@iaddrStr0 (l) hp) (cC (@wordsE (s) (l) hl ew) (cE (@nlNoL (s) hl hn) nilE))))))))))) (by kernel_rfl) rfl rfl
set_option maxHeartbeats 4000000 in
theorem rpTab : rpTab_T := by
  intro s l m k a b es rs ns ok hl hn ew hp hl1 q em hlm hs e
  exact pV 12 [(0, .l (Ex.exit (0 : Nat)) (stPx s (List.length s))), (1, .v (V.d (strsD l))), (2, .v (V.d (D.ref (List.map D.str l) (0 : Nat)))), (3, .v (V.d (D.str [(116 : UInt8), (97 : UInt8), (98 : UInt8)]))), (4, .v (V.d (D.bool ([(116 : UInt8), (97 : UInt8), (98 : UInt8)] == [(101 : UInt8), (100 : UInt8), (105 : UInt8), (116 : UInt8)])))), (6, .v (V.d (D.bool ([(116 : UInt8), (97 : UInt8), (98 : UInt8)] == [(102 : UInt8), (111 : UInt8), (108 : UInt8), (100 : UInt8)])))), (8, .v (V.d (D.bool ([(116 : UInt8), (97 : UInt8), (98 : UInt8)] == [(117 : UInt8), (110 : UInt8), (102 : UInt8), (111 : UInt8), (108 : UInt8), (100 : UInt8)])))), (10, .v (V.d (D.bool ([(116 : UInt8), (97 : UInt8), (98 : UInt8)] == [(105 : UInt8), (110 : UInt8), (108 : UInt8), (97 : UInt8), (121 : UInt8)])))), (12, .v (V.d (D.bool ([(116 : UInt8), (97 : UInt8), (98 : UInt8)] == [(119 : UInt8), (105 : UInt8), (100 : UInt8), (116 : UInt8), (104 : UInt8)])))), (14, .v (V.d (D.bool ([(116 : UInt8), (97 : UInt8), (98 : UInt8)] == [(116 : UInt8), (97 : UInt8), (98 : UInt8)])))), (16, .v (V.d (strsD m))), (17, .v (V.d (D.tup [(opR k a b es rs ns), (D.bool ok)])))] (cC (@refSz1 ((6 : Int)) (m) (k) (a) (b) (es) (rs) (ns) (ok) hlm hs e) (cP (@sliceFr1 (l) (m) hl1 em) (cP (@strEq ([(116 : UInt8), (97 : UInt8), (98 : UInt8)]) ([(116 : UInt8), (97 : UInt8), (98 : UInt8)])) (cP (@strEq ([(116 : UInt8), (97 : UInt8), (98 : UInt8)]) ([(119 : UInt8), (105 : UInt8), (100 : UInt8), (116 : UInt8), (104 : UInt8)])) (cP (@strEq ([(116 : UInt8), (97 : UInt8), (98 : UInt8)]) ([(105 : UInt8), (110 : UInt8), (108 : UInt8), (97 : UInt8), (121 : UInt8)])) (cP (@strEq ([(116 : UInt8), (97 : UInt8), (98 : UInt8)]) ([(117 : UInt8), (110 : UInt8), (102 : UInt8), (111 : UInt8), (108 : UInt8), (100 : UInt8)])) (cP (@strEq ([(116 : UInt8), (97 : UInt8), (98 : UInt8)]) ([(102 : UInt8), (111 : UInt8), (108 : UInt8), (100 : UInt8)])) (cP (@strEq ([(116 : UInt8), (97 : UInt8), (98 : UInt8)]) ([(101 : UInt8), (100 : UInt8), (105 : UInt8), (116 : UInt8)])) (cP (@loadStr0E (l) ([(Ob.cells [(V.d (D.int IntKind.i64 (0 : Int))), (V.d (D.int IntKind.i64 (0 : Int))), (V.d (D.int IntKind.i64 (0 : Int))), (V.tail (nat_lit 48) [] (nat_lit 0)), (V.tail (nat_lit 3) [] (nat_lit 0)), (V.tail (nat_lit 60) [] (nat_lit 0))])]) ([(116 : UInt8), (97 : UInt8), (98 : UInt8)]) hp q) (cP (@iaddrStr0 (l) hp) (cC (@wordsE (s) (l) hl ew) (cE (@nlNoL (s) hl hn) nilE)))))))))))) (by kernel_rfl) rfl rfl
set_option maxHeartbeats 4000000 in
theorem rpUndo : rpUndo_T := by
  intro s l m k a b es rs ns ok hl hn ew hp hl1 q em hlm hs e
  exact pV 12 [(0, .l (Ex.exit (0 : Nat)) (stPx s (List.length s))), (1, .v (V.d (strsD l))), (2, .v (V.d (D.ref (List.map D.str l) (0 : Nat)))), (3, .v (V.d (D.str [(117 : UInt8), (110 : UInt8), (100 : UInt8), (111 : UInt8)]))), (4, .v (V.d (D.bool ([(117 : UInt8), (110 : UInt8), (100 : UInt8), (111 : UInt8)] == [(101 : UInt8), (100 : UInt8), (105 : UInt8), (116 : UInt8)])))), (6, .v (V.d (D.bool ([(117 : UInt8), (110 : UInt8), (100 : UInt8), (111 : UInt8)] == [(102 : UInt8), (111 : UInt8), (108 : UInt8), (100 : UInt8)])))), (8, .v (V.d (D.bool ([(117 : UInt8), (110 : UInt8), (100 : UInt8), (111 : UInt8)] == [(117 : UInt8), (110 : UInt8), (102 : UInt8), (111 : UInt8), (108 : UInt8), (100 : UInt8)])))), (10, .v (V.d (D.bool ([(117 : UInt8), (110 : UInt8), (100 : UInt8), (111 : UInt8)] == [(105 : UInt8), (110 : UInt8), (108 : UInt8), (97 : UInt8), (121 : UInt8)])))), (12, .v (V.d (D.bool ([(117 : UInt8), (110 : UInt8), (100 : UInt8), (111 : UInt8)] == [(119 : UInt8), (105 : UInt8), (100 : UInt8), (116 : UInt8), (104 : UInt8)])))), (14, .v (V.d (D.bool ([(117 : UInt8), (110 : UInt8), (100 : UInt8), (111 : UInt8)] == [(116 : UInt8), (97 : UInt8), (98 : UInt8)])))), (16, .v (V.d (D.bool ([(117 : UInt8), (110 : UInt8), (100 : UInt8), (111 : UInt8)] == [(117 : UInt8), (110 : UInt8), (100 : UInt8), (111 : UInt8)])))), (18, .v (V.d (strsD m))), (19, .v (V.d (D.tup [(opR k a b es rs ns), (D.bool ok)])))] (cC (@refSz0 ((7 : Int)) (m) (k) (a) (b) (es) (rs) (ns) (ok) hlm hs e) (cP (@sliceFr1 (l) (m) hl1 em) (cP (@strEq ([(117 : UInt8), (110 : UInt8), (100 : UInt8), (111 : UInt8)]) ([(117 : UInt8), (110 : UInt8), (100 : UInt8), (111 : UInt8)])) (cP (@strEq ([(117 : UInt8), (110 : UInt8), (100 : UInt8), (111 : UInt8)]) ([(116 : UInt8), (97 : UInt8), (98 : UInt8)])) (cP (@strEq ([(117 : UInt8), (110 : UInt8), (100 : UInt8), (111 : UInt8)]) ([(119 : UInt8), (105 : UInt8), (100 : UInt8), (116 : UInt8), (104 : UInt8)])) (cP (@strEq ([(117 : UInt8), (110 : UInt8), (100 : UInt8), (111 : UInt8)]) ([(105 : UInt8), (110 : UInt8), (108 : UInt8), (97 : UInt8), (121 : UInt8)])) (cP (@strEq ([(117 : UInt8), (110 : UInt8), (100 : UInt8), (111 : UInt8)]) ([(117 : UInt8), (110 : UInt8), (102 : UInt8), (111 : UInt8), (108 : UInt8), (100 : UInt8)])) (cP (@strEq ([(117 : UInt8), (110 : UInt8), (100 : UInt8), (111 : UInt8)]) ([(102 : UInt8), (111 : UInt8), (108 : UInt8), (100 : UInt8)])) (cP (@strEq ([(117 : UInt8), (110 : UInt8), (100 : UInt8), (111 : UInt8)]) ([(101 : UInt8), (100 : UInt8), (105 : UInt8), (116 : UInt8)])) (cP (@loadStr0E (l) ([(Ob.cells [(V.d (D.int IntKind.i64 (0 : Int))), (V.d (D.int IntKind.i64 (0 : Int))), (V.d (D.int IntKind.i64 (0 : Int))), (V.tail (nat_lit 48) [] (nat_lit 0)), (V.tail (nat_lit 3) [] (nat_lit 0)), (V.tail (nat_lit 60) [] (nat_lit 0))])]) ([(117 : UInt8), (110 : UInt8), (100 : UInt8), (111 : UInt8)]) hp q) (cP (@iaddrStr0 (l) hp) (cC (@wordsE (s) (l) hl ew) (cE (@nlNoL (s) hl hn) nilE))))))))))))) (by kernel_rfl) rfl rfl
set_option maxHeartbeats 4000000 in
theorem rpRedo : rpRedo_T := by
  intro s l m k a b es rs ns ok hl hn ew hp hl1 q em hlm hs e
  exact pV 12 [(0, .l (Ex.exit (0 : Nat)) (stPx s (List.length s))), (1, .v (V.d (strsD l))), (2, .v (V.d (D.ref (List.map D.str l) (0 : Nat)))), (3, .v (V.d (D.str [(114 : UInt8), (101 : UInt8), (100 : UInt8), (111 : UInt8)]))), (4, .v (V.d (D.bool ([(114 : UInt8), (101 : UInt8), (100 : UInt8), (111 : UInt8)] == [(101 : UInt8), (100 : UInt8), (105 : UInt8), (116 : UInt8)])))), (6, .v (V.d (D.bool ([(114 : UInt8), (101 : UInt8), (100 : UInt8), (111 : UInt8)] == [(102 : UInt8), (111 : UInt8), (108 : UInt8), (100 : UInt8)])))), (8, .v (V.d (D.bool ([(114 : UInt8), (101 : UInt8), (100 : UInt8), (111 : UInt8)] == [(117 : UInt8), (110 : UInt8), (102 : UInt8), (111 : UInt8), (108 : UInt8), (100 : UInt8)])))), (10, .v (V.d (D.bool ([(114 : UInt8), (101 : UInt8), (100 : UInt8), (111 : UInt8)] == [(105 : UInt8), (110 : UInt8), (108 : UInt8), (97 : UInt8), (121 : UInt8)])))), (12, .v (V.d (D.bool ([(114 : UInt8), (101 : UInt8), (100 : UInt8), (111 : UInt8)] == [(119 : UInt8), (105 : UInt8), (100 : UInt8), (116 : UInt8), (104 : UInt8)])))), (14, .v (V.d (D.bool ([(114 : UInt8), (101 : UInt8), (100 : UInt8), (111 : UInt8)] == [(116 : UInt8), (97 : UInt8), (98 : UInt8)])))), (16, .v (V.d (D.bool ([(114 : UInt8), (101 : UInt8), (100 : UInt8), (111 : UInt8)] == [(117 : UInt8), (110 : UInt8), (100 : UInt8), (111 : UInt8)])))), (18, .v (V.d (D.bool ([(114 : UInt8), (101 : UInt8), (100 : UInt8), (111 : UInt8)] == [(114 : UInt8), (101 : UInt8), (100 : UInt8), (111 : UInt8)])))), (20, .v (V.d (strsD m))), (21, .v (V.d (D.tup [(opR k a b es rs ns), (D.bool ok)])))] (cC (@refSz0 ((8 : Int)) (m) (k) (a) (b) (es) (rs) (ns) (ok) hlm hs e) (cP (@sliceFr1 (l) (m) hl1 em) (cP (@strEq ([(114 : UInt8), (101 : UInt8), (100 : UInt8), (111 : UInt8)]) ([(114 : UInt8), (101 : UInt8), (100 : UInt8), (111 : UInt8)])) (cP (@strEq ([(114 : UInt8), (101 : UInt8), (100 : UInt8), (111 : UInt8)]) ([(117 : UInt8), (110 : UInt8), (100 : UInt8), (111 : UInt8)])) (cP (@strEq ([(114 : UInt8), (101 : UInt8), (100 : UInt8), (111 : UInt8)]) ([(116 : UInt8), (97 : UInt8), (98 : UInt8)])) (cP (@strEq ([(114 : UInt8), (101 : UInt8), (100 : UInt8), (111 : UInt8)]) ([(119 : UInt8), (105 : UInt8), (100 : UInt8), (116 : UInt8), (104 : UInt8)])) (cP (@strEq ([(114 : UInt8), (101 : UInt8), (100 : UInt8), (111 : UInt8)]) ([(105 : UInt8), (110 : UInt8), (108 : UInt8), (97 : UInt8), (121 : UInt8)])) (cP (@strEq ([(114 : UInt8), (101 : UInt8), (100 : UInt8), (111 : UInt8)]) ([(117 : UInt8), (110 : UInt8), (102 : UInt8), (111 : UInt8), (108 : UInt8), (100 : UInt8)])) (cP (@strEq ([(114 : UInt8), (101 : UInt8), (100 : UInt8), (111 : UInt8)]) ([(102 : UInt8), (111 : UInt8), (108 : UInt8), (100 : UInt8)])) (cP (@strEq ([(114 : UInt8), (101 : UInt8), (100 : UInt8), (111 : UInt8)]) ([(101 : UInt8), (100 : UInt8), (105 : UInt8), (116 : UInt8)])) (cP (@loadStr0E (l) ([(Ob.cells [(V.d (D.int IntKind.i64 (0 : Int))), (V.d (D.int IntKind.i64 (0 : Int))), (V.d (D.int IntKind.i64 (0 : Int))), (V.tail (nat_lit 48) [] (nat_lit 0)), (V.tail (nat_lit 3) [] (nat_lit 0)), (V.tail (nat_lit 60) [] (nat_lit 0))])]) ([(114 : UInt8), (101 : UInt8), (100 : UInt8), (111 : UInt8)]) hp q) (cP (@iaddrStr0 (l) hp) (cC (@wordsE (s) (l) hl ew) (cE (@nlNoL (s) hl hn) nilE)))))))))))))) (by kernel_rfl) rfl rfl
set_option maxHeartbeats 4000000 in
theorem rpNo : rpNo_T := by
  intro s v l hl hn ew hp q q0 q1 q2 q3 q4 q5 q6 q7
  have hx0 : (v == [(101 : UInt8), (100 : UInt8), (105 : UInt8), (116 : UInt8)]) = false := by assumption
  have hx1 : (v == [(102 : UInt8), (111 : UInt8), (108 : UInt8), (100 : UInt8)]) = false := by assumption
  have hx2 : (v == [(117 : UInt8), (110 : UInt8), (102 : UInt8), (111 : UInt8), (108 : UInt8), (100 : UInt8)]) = false := by assumption
  have hx3 : (v == [(105 : UInt8), (110 : UInt8), (108 : UInt8), (97 : UInt8), (121 : UInt8)]) = false := by assumption
  have hx4 : (v == [(119 : UInt8), (105 : UInt8), (100 : UInt8), (116 : UInt8), (104 : UInt8)]) = false := by assumption
  have hx5 : (v == [(116 : UInt8), (97 : UInt8), (98 : UInt8)]) = false := by assumption
  have hx6 : (v == [(117 : UInt8), (110 : UInt8), (100 : UInt8), (111 : UInt8)]) = false := by assumption
  have hx7 : (v == [(114 : UInt8), (101 : UInt8), (100 : UInt8), (111 : UInt8)]) = false := by assumption
  exact pV 12 [(0, .l (Ex.exit (0 : Nat)) (stPx s (List.length s))), (1, .v (V.d (strsD l))), (2, .v (V.d (D.ref (List.map D.str l) (0 : Nat)))), (3, .v (V.d (D.str v))), (4, .v (V.d (D.bool (v == [(101 : UInt8), (100 : UInt8), (105 : UInt8), (116 : UInt8)])))), (5, bf), (6, .v (V.d (D.bool (v == [(102 : UInt8), (111 : UInt8), (108 : UInt8), (100 : UInt8)])))), (7, bf), (8, .v (V.d (D.bool (v == [(117 : UInt8), (110 : UInt8), (102 : UInt8), (111 : UInt8), (108 : UInt8), (100 : UInt8)])))), (9, bf), (10, .v (V.d (D.bool (v == [(105 : UInt8), (110 : UInt8), (108 : UInt8), (97 : UInt8), (121 : UInt8)])))), (11, bf), (12, .v (V.d (D.bool (v == [(119 : UInt8), (105 : UInt8), (100 : UInt8), (116 : UInt8), (104 : UInt8)])))), (13, bf), (14, .v (V.d (D.bool (v == [(116 : UInt8), (97 : UInt8), (98 : UInt8)])))), (15, bf), (16, .v (V.d (D.bool (v == [(117 : UInt8), (110 : UInt8), (100 : UInt8), (111 : UInt8)])))), (17, bf), (18, .v (V.d (D.bool (v == [(114 : UInt8), (101 : UInt8), (100 : UInt8), (111 : UInt8)])))), (19, bf)] (cP hx7 (cP (@strEq (v) ([(114 : UInt8), (101 : UInt8), (100 : UInt8), (111 : UInt8)])) (cP hx6 (cP (@strEq (v) ([(117 : UInt8), (110 : UInt8), (100 : UInt8), (111 : UInt8)])) (cP hx5 (cP (@strEq (v) ([(116 : UInt8), (97 : UInt8), (98 : UInt8)])) (cP hx4 (cP (@strEq (v) ([(119 : UInt8), (105 : UInt8), (100 : UInt8), (116 : UInt8), (104 : UInt8)])) (cP hx3 (cP (@strEq (v) ([(105 : UInt8), (110 : UInt8), (108 : UInt8), (97 : UInt8), (121 : UInt8)])) (cP hx2 (cP (@strEq (v) ([(117 : UInt8), (110 : UInt8), (102 : UInt8), (111 : UInt8), (108 : UInt8), (100 : UInt8)])) (cP hx1 (cP (@strEq (v) ([(102 : UInt8), (111 : UInt8), (108 : UInt8), (100 : UInt8)])) (cP hx0 (cP (@strEq (v) ([(101 : UInt8), (100 : UInt8), (105 : UInt8), (116 : UInt8)])) (cP (@loadStr0E (l) ([(Ob.cells [(V.d (D.int IntKind.i64 (0 : Int))), (V.d (D.int IntKind.i64 (0 : Int))), (V.d (D.int IntKind.i64 (0 : Int))), (V.tail (nat_lit 48) [] (nat_lit 0)), (V.tail (nat_lit 3) [] (nat_lit 0)), (V.tail (nat_lit 60) [] (nat_lit 0))])]) (v) hp q) (cP (@iaddrStr0 (l) hp) (cC (@wordsE (s) (l) hl ew) (cE (@nlNoL (s) hl hn) nilE)))))))))))))))))))) (by kernel_rfl) rfl rfl
end Go.Proofs.YtgiahagbmgnmkaaDoor.Script
/- Script: closed runs. -/
set_option maxRecDepth 100000
set_option linter.unusedVariables false
namespace Go.Proofs.YtgiahagbmgnmkaaDoor.Script
open Go Pv G
set_option maxHeartbeats 4000000 in
theorem edits : edits_T := by
  exact pV 12 [] nilE (by kernel_rfl) rfl rfl
end Go.Proofs.YtgiahagbmgnmkaaDoor.Script
/- Script: the reference's Parse as one; the law ScriptParses: statements. -/
set_option linter.unusedVariables false
set_option linter.unusedSimpArgs false
namespace Go.Proofs.YtgiahagbmgnmkaaDoor.Script
open Go Pv G
def refP_T : Prop := ∀ (s : Str) (k a b : Int) (es : List Edit) (rs : List Int) (ns : List Inl) (ok : Bool) (hl : s.length ≤ 100000) (e : rfP s = ((k, a, b, es, rs, ns), ok)), Ans X0 FPr [.d (.str s)] (.d (.tup [opR k a b es rs ns, .bool ok]))
theorem refP : refP_T := fun s k a b es rs ns ok hl e => by
  unfold rfP at e
  cases hn : hasC 10 s with
  | true =>
    rw [if_pos hn] at e
    cases e
    exact rpNl s (by omega) hn
  | false =>
    rw [if_neg (by rw [hn]; simp)] at e
    have h0 : 0 < (pieces 32 s).length := by rw [pieces_length]; omega
    have sm0 : Sm (pieces 32 s) := fun p hp => by have := pieces_small 32 s p hp; omega
    have ln0 : (pieces 32 s).length ≤ s.length + 1 := by rw [pieces_length]; have := List.count_le_length (a := (32 : UInt8)) (l := s); omega
    have s1 : Sm ((pieces 32 s).drop 1) := smDrop 1 sm0
    have hl1 : ((pieces 32 s).drop 1).length ≤ 1000000 := by simp; omega
    by_cases q0 : strAt (pieces 32 s) 0 = [101, 100, 105, 116]
    · rw [if_pos q0] at e
      exact rpEdit s _ _ k a b es rs ns ok (by omega) hn rfl h0 h0 q0 rfl hl1 s1 e
    rw [if_neg q0] at e
    by_cases q1 : strAt (pieces 32 s) 0 = [102, 111, 108, 100]
    · rw [if_pos q1] at e
      exact rpFold s _ _ k a b es rs ns ok (by omega) hn rfl h0 h0 q1 rfl hl1 s1 e
    rw [if_neg q1] at e
    by_cases q2 : strAt (pieces 32 s) 0 = [117, 110, 102, 111, 108, 100]
    · rw [if_pos q2] at e
      exact rpUnfold s _ _ k a b es rs ns ok (by omega) hn rfl h0 h0 q2 rfl hl1 s1 e
    rw [if_neg q2] at e
    by_cases q3 : strAt (pieces 32 s) 0 = [105, 110, 108, 97, 121]
    · rw [if_pos q3] at e
      exact rpInlay s _ _ k a b es rs ns ok (by omega) hn rfl h0 h0 q3 rfl hl1 s1 e
    rw [if_neg q3] at e
    by_cases q4 : strAt (pieces 32 s) 0 = [119, 105, 100, 116, 104]
    · rw [if_pos q4] at e
      exact rpWidth s _ _ k a b es rs ns ok (by omega) hn rfl h0 h0 q4 rfl hl1 s1 e
    rw [if_neg q4] at e
    by_cases q5 : strAt (pieces 32 s) 0 = [116, 97, 98]
    · rw [if_pos q5] at e
      exact rpTab s _ _ k a b es rs ns ok (by omega) hn rfl h0 h0 q5 rfl hl1 s1 e
    rw [if_neg q5] at e
    by_cases q6 : strAt (pieces 32 s) 0 = [117, 110, 100, 111]
    · rw [if_pos q6] at e
      exact rpUndo s _ _ k a b es rs ns ok (by omega) hn rfl h0 h0 q6 rfl hl1 s1 e
    rw [if_neg q6] at e
    by_cases q7 : strAt (pieces 32 s) 0 = [114, 101, 100, 111]
    · rw [if_pos q7] at e
      exact rpRedo s _ _ k a b es rs ns ok (by omega) hn rfl h0 h0 q7 rfl hl1 s1 e
    rw [if_neg q7] at e
    cases e
    have bq : ∀ {v : Str}, ¬ strAt (pieces 32 s) 0 = v → (strAt (pieces 32 s) 0 == v) = false := fun h => by simpa using h
    exact rpNo s _ _ (by omega) hn rfl h0 rfl (bq q0) (bq q1) (bq q2) (bq q3) (bq q4) (bq q5) (bq q6) (bq q7)
/- how long -/
theorem rfEd_len : ∀ f l es, (rfEd f l es).1.length ≤ es.length + f := by
  intro f
  induction f with
  | zero => intro l es; exact Nat.le_refl _
  | succ f ih =>
    intro l es
    rw [rfEd]
    split
    · split
      · show es.length ≤ _; omega
      · split
        · show es.length ≤ _; omega
        · have := ih (l.drop 3) (es ++ [(intAt (numsL (l.take 2)) 0, intAt (numsL (l.take 2)) 1, tdV (strAt l 2), ())])
          simp only [List.length_append, List.length_singleton] at this
          omega
    · show es.length ≤ _; omega
theorem rfRm_len : ∀ f l rs, (rfRm f l rs).2.1.length ≤ rs.length + f := by
  intro f
  induction f with
  | zero => intro l es; exact Nat.le_refl _
  | succ f ih =>
    intro l rs
    rw [rfRm]
    split
    · split
      · split
        · show rs.length ≤ _; omega
        · split
          · show rs.length ≤ _; omega
          · have := ih (l.drop 2) (rs ++ [intAt (numsL (mid l 1 2)) 0])
            simp only [List.length_append, List.length_singleton] at this
            omega
      · show rs.length ≤ _; omega
    · show rs.length ≤ _; omega
theorem rfAd_len : ∀ f l ns, (rfAd f l ns).1.length ≤ ns.length + f := by
  intro f
  induction f with
  | zero => intro l es; exact Nat.le_refl _
  | succ f ih =>
    intro l ns
    rw [rfAd]
    split
    · split
      · show ns.length ≤ _; omega
      · split
        · split
          · show ns.length ≤ _; omega
          · have := ih (l.drop 6) (ns ++ [(intAt (numsL (mid l 1 5)) 0, intAt (numsL (mid l 1 5)) 1, intAt (numsL (mid l 1 5)) 2, intAt (numsL (mid l 1 5)) 3, tdV (strAt l 5), ())])
            simp only [List.length_append, List.length_singleton] at this
            omega
        · show ns.length ≤ _; omega
    · show ns.length ≤ _; omega
def OpLen (o : Opn) (n : Nat) : Prop := o.2.2.2.1.length ≤ n ∧ o.2.2.2.2.1.length ≤ n ∧ o.2.2.2.2.2.length ≤ n
theorem opLen0 (k a b : Int) (n : Nat) : OpLen (k, a, b, [], [], []) n := ⟨Nat.zero_le _, Nat.zero_le _, Nat.zero_le _⟩
theorem rfEdits_len (l : List Str) : OpLen (rfEdits l).1 (l.length + 1) := by
  have := rfEd_len (l.length + 1) l []
  unfold rfEdits
  exact ⟨by simpa using this, Nat.zero_le _, Nat.zero_le _⟩
theorem rfInlays_len (l : List Str) (hs : Sm l) : OpLen (rfInlays l).1 (l.length + 1) := by
  have h1 : (rfRs l).2.1.length ≤ l.length + 1 := by have := rfRm_len (l.length + 1) l []; unfold rfRs; simpa using this
  have h2 := (rfRm_sm (l.length + 1) l [] hs).2
  have h3 := rfAd_len ((rfRs l).1.length + 1) (rfRs l).1 []
  have h4 : (rfRs l).1.length ≤ l.length := h2
  unfold rfInlays
  split
  · exact ⟨Nat.zero_le _, h1, by
      have : (rfAs (rfRs l).1).1.length ≤ ([] : List Inl).length + ((rfRs l).1.length + 1) := h3
      simp only [List.length_nil] at this
      show (rfAs (rfRs l).1).1.length ≤ _
      omega⟩
  · exact ⟨Nat.zero_le _, h1, Nat.zero_le _⟩
theorem rfSized_len (k : Int) (c : Nat) (l : List Str) (n : Nat) : OpLen (rfSized k c l).1 n := by
  unfold rfSized
  split
  · exact opLen0 _ _ _ _
  · exact opLen0 _ _ _ _
theorem rfP_len (s : Str) (hs : s.length ≤ 1000000) : OpLen (rfP s).1 (s.length + 1) := by
  have ln0 : (pieces 32 s).length ≤ s.length + 1 := by rw [pieces_length]; have := List.count_le_length (a := (32 : UInt8)) (l := s); omega
  have sm0 : Sm (pieces 32 s) := fun p hp => by have := pieces_small 32 s p hp; omega
  have ln1 : ((pieces 32 s).drop 1).length + 1 ≤ s.length + 1 := by
    have : 0 < (pieces 32 s).length := by rw [pieces_length]; omega
    simp; omega
  have up : ∀ {o : Opn} {n m : Nat}, n ≤ m → OpLen o n → OpLen o m := fun h ⟨a, b, c⟩ => ⟨Nat.le_trans a h, Nat.le_trans b h, Nat.le_trans c h⟩
  unfold rfP
  split
  · exact opLen0 _ _ _ _
  split
  · exact up ln1 (rfEdits_len _)
  split
  · exact rfSized_len _ _ _ _
  split
  · exact rfSized_len _ _ _ _
  split
  · exact up ln1 (rfInlays_len _ (smDrop 1 sm0))
  split
  · exact rfSized_len _ _ _ _
  split
  · exact rfSized_len _ _ _ _
  split
  · exact rfSized_len _ _ _ _
  split
  · exact rfSized_len _ _ _ _
  exact opLen0 _ _ _ _
/- ScriptParses -/
abbrev FSP : Nat := 3
def spBig_T : Prop := ∀ (s : Str) (h : 1000 < s.length), Ans X0 FSP [.d (.str s)] (.d (.bool true))
def spNo_T : Prop := ∀ (s : Str) (k a b : Int) (es : List Edit) (rs : List Int) (ns : List Inl) (h : s.length ≤ 1000) (e : rfP s = ((k, a, b, es, rs, ns), false)), Ans X0 FSP [.d (.str s)] (.d (.bool true))
def spYes_T : Prop := ∀ (s : Str) (k a b : Int) (es : List Edit) (rs : List Int) (ns : List Inl) (h : s.length ≤ 1000) (e : rfP s = ((k, a, b, es, rs, ns), true)) (g1 : es.length ≤ 1000000) (g2 : rs.length ≤ 1000000) (g3 : ns.length ≤ 1000000), Ans X0 FSP [.d (.str s)] (.d (.bool true))
def sameZ_T : Prop := Ans X0 FSm [.d (opR 0 0 0 [] [] []), .d (opR 0 0 0 [] [] [])] (.d (.bool true))
theorem sameZ : sameZ_T := sameX 0 0 0 [] [] [] (by simp) (by simp) (by simp)
end Go.Proofs.YtgiahagbmgnmkaaDoor.Script
/- Script: All; the law ScriptAll: rounds. -/
set_option linter.unusedVariables false
set_option linter.unusedSimpArgs false
namespace Go.Proofs.YtgiahagbmgnmkaaDoor.Script
open Go Pv G
abbrev opT : Ty := .st (.cons i64 (.cons i64 (.cons i64 (.cons (.sl editT) (.cons (.sl i64) (.cons (.sl inlT) .nil))))))
abbrev Op := opT.ty
abbrev FAll : Nat := 17
abbrev FSA : Nat := 5
def opOf (o : Opn) : Op := (o.1, o.2.1, o.2.2.1, o.2.2.2.1, o.2.2.2.2.1, o.2.2.2.2.2, ())
def appendOp_T : Prop := ∀ (l : List Op) (k a b : Int) (es : List Edit) (rs : List Int) (ns : List Inl) (hl : l.length ≤ 1000000), appendV X0 36 36 (opT.tailV 27 l) (.full [.int .i64 k, .int .i64 a, .int .i64 b, editT.slD es, i64.slD rs, inlT.slD ns] 1) = some (opT.tailV 27 (l ++ [(k, a, b, es, rs, ns, ())]))
theorem appendOp : appendOp_T := fun l k a b es rs ns hl => appendOne (e := opT) (E := 27) (i := (X0.P.info? 27).getD default) (by kernel_rfl) (by kernel_rfl) (by kernel_rfl) (by decide +kernel) (by decide +kernel) (by kernel_rfl) (k, a, b, es, rs, ns, ()) rfl (by omega)
def iaddrOp_T : Prop := ∀ (l : List Op) (i : Int) (h0 : 0 ≤ i) (hi : i < l.length), iaddrV X0 36 (.d (opT.slD l)) (.d (.int .i64 i)) = some (.d (.ref (l.flatMap opT.enc) (i.toNat * 6)))
theorem iaddrOp : iaddrOp_T := fun l i h0 hi => iaddrSl (te := 27) (z := 6) (by kernel_rfl) (by kernel_rfl) h0 hi (flat_len opT.enc 6 opT.enc_length l)
def loadOpE_T : Prop := ∀ (l : List Op) (h : List Ob) (i : Nat) (k a b : Int) (es : List Edit) (rs : List Int) (ns : List Inl) (hk : i < l.length) (e : opT.nth l i = (k, a, b, es, rs, ns, ())), loadV X0 h 27 (.d (.ref (l.flatMap opT.enc) ((i : Int).toNat * 6))) = some (.d (opR k a b es rs ns))
theorem loadOpE : loadOpE_T := fun l h i k a b es rs ns hk e => by
  have := loadAgg (X := X0) (h := h) (t := 27) (e := opT) (by kernel_rfl) (by kernel_rfl) (l := l) (k := i) hk
  rw [e] at this
  exact this
/- All -/
/-- The operations of lines, or the number of the first that is none. -/
def alF (l : List Str) : Nat → Nat → List Op → List Op × Nat
  | 0, _, out => (out, 0)
  | f + 1, i, out =>
    if i < l.length then
      if strAt l i = [] then alF l f (i + 1) out
      else if (rfP (strAt l i)).2 = true then alF l f (i + 1) (out ++ [opOf (rfP (strAt l i)).1])
      else ([], i + 1)
    else (out, 0)
abbrev stA (l : List Str) (out : List Op) (i : Nat) : St := ⟨[(4, opT.tailV 27 out), (10, .d (strsD l)), (11, .d (.int .i64 l.length)), (12, .d (.int .i64 i))], [], []⟩
abbrev stAx (l : List Str) (out : List Op) (i : Nat) : St := ⟨[(4, opT.tailV 27 out), (10, .d (strsD l)), (11, .d (.int .i64 l.length)), (12, .d (.int .i64 i)), (13, .d (.bool false))], [], []⟩
abbrev stAr (i : Nat) : St := ⟨[(2, opT.tailV 27 []), (3, .d (.int .i64 ((i : Int) + 1)))], [obO 0 0 0 [] [] []], []⟩
def al1_T : Prop := ∀ (l : List Str) (out : List Op) (i : Nat) (hl : l.length ≤ 1000000) (hi : i < l.length) (q : (strAt l i == []) = true),
  RdC X0 0 (ntOf X0 FAll) (lpKeep X0 FAll 0) (lpBody X0 FAll 0) 0 (stA l out i) (stA l out (i + 1))
def al2_T : Prop := ∀ (l : List Str) (out : List Op) (i : Nat) (k a b : Int) (es : List Edit) (rs : List Int) (ns : List Inl) (hl : l.length ≤ 1000000) (ho : out.length ≤ 1000000) (hw : (strAt l i).length ≤ 1000000) (hi : i < l.length) (q : (strAt l i == []) = false) (e : rfP (strAt l i) = ((k, a, b, es, rs, ns), true)),
  RdC X0 0 (ntOf X0 FAll) (lpKeep X0 FAll 0) (lpBody X0 FAll 0) 0 (stA l out i) (stA l (out ++ [(k, a, b, es, rs, ns, ())]) (i + 1))
def al3_T : Prop := ∀ (l : List Str) (out : List Op) (i : Nat) (o : Opn) (hl : l.length ≤ 1000000) (hw : (strAt l i).length ≤ 1000000) (hi : i < l.length) (q : (strAt l i == []) = false) (e : rfP (strAt l i) = (o, false)),
  Rd X0 0 (ntOf X0 FAll) (lpBody X0 FAll 0) (stA l out i) (.ret, stAr i)
def al4_T : Prop := ∀ (l : List Str) (out : List Op) (i : Nat) (hi : l.length ≤ i) (h2 : i ≤ 1000000), Rd X0 0 (ntOf X0 FAll) (lpBody X0 FAll 0) (stA l out i) (.exit 0, stAx l out i)
/- the law's loops -/
abbrev stB (A : List Op) (n : Int) (l : List Str) (w : List Op) (i : Nat) : St := ⟨[(3, .d (opT.slD A)), (4, .d (.int .i64 n)), (5, opT.tailV 27 w), (22, .d (strsD l)), (23, .d (.int .i64 l.length)), (24, .d (.int .i64 i))], [], []⟩
abbrev stBx (A : List Op) (n : Int) (l : List Str) (w : List Op) (i : Nat) : St := ⟨[(3, .d (opT.slD A)), (4, .d (.int .i64 n)), (5, opT.tailV 27 w), (22, .d (strsD l)), (23, .d (.int .i64 l.length)), (24, .d (.int .i64 i)), (25, .d (.bool false))], [], []⟩
abbrev stBr (k a b : Int) (es : List Edit) (rs : List Int) (ns : List Inl) : St := ⟨[(2, .d (.bool true))], [obO k a b es rs ns], []⟩
def lb1_T : Prop := ∀ (A : List Op) (n : Int) (l : List Str) (w : List Op) (i : Nat) (hl : l.length ≤ 1000000) (hi : i < l.length) (q : (strAt l i == []) = true),
  RdC X0 0 (ntOf X0 FSA) (lpKeep X0 FSA 0) (lpBody X0 FSA 0) 0 (stB A n l w i) (stB A n l w (i + 1))
def lb2_T : Prop := ∀ (A : List Op) (n : Int) (l : List Str) (w : List Op) (i : Nat) (k a b : Int) (es : List Edit) (rs : List Int) (ns : List Inl) (hl : l.length ≤ 1000000) (ho : w.length ≤ 1000000) (hw : (strAt l i).length ≤ 100000) (hi : i < l.length) (q : (strAt l i == []) = false) (e : rfP (strAt l i) = ((k, a, b, es, rs, ns), true)),
  RdC X0 0 (ntOf X0 FSA) (lpKeep X0 FSA 0) (lpBody X0 FSA 0) 0 (stB A n l w i) (stB A n l (w ++ [(k, a, b, es, rs, ns, ())]) (i + 1))
def lb3_T : Prop := ∀ (n : Int) (l : List Str) (w : List Op) (i : Nat) (k a b : Int) (es : List Edit) (rs : List Int) (ns : List Inl) (hl : l.length ≤ 1000000) (hw : (strAt l i).length ≤ 100000) (hi : i < l.length) (q : (strAt l i == []) = false) (e : rfP (strAt l i) = ((k, a, b, es, rs, ns), false)) (en : n = (i : Int) + 1),
  Rd X0 0 (ntOf X0 FSA) (lpBody X0 FSA 0) (stB [] n l w i) (.ret, stBr k a b es rs ns)
def lb4_T : Prop := ∀ (A : List Op) (n : Int) (l : List Str) (w : List Op) (i : Nat) (hi : l.length ≤ i) (h2 : i ≤ 1000000), Rd X0 0 (ntOf X0 FSA) (lpBody X0 FSA 0) (stB A n l w i) (.exit 0, stBx A n l w i)
abbrev stC (A : List Op) (i : Nat) : St := ⟨[(5, opT.tailV 27 A), (64, .d (opT.slD A)), (65, .d (.int .i64 A.length)), (66, .d (.int .i64 i))], [], []⟩
abbrev stCx (A : List Op) (i : Nat) : St := ⟨[(5, opT.tailV 27 A), (64, .d (opT.slD A)), (65, .d (.int .i64 A.length)), (66, .d (.int .i64 i)), (67, .d (.bool false))], [], []⟩
def lc1_T : Prop := ∀ (A : List Op) (i : Nat) (k a b : Int) (es : List Edit) (rs : List Int) (ns : List Inl) (hl : A.length ≤ 1000000) (hi : i < A.length) (e : opT.nth A i = (k, a, b, es, rs, ns, ())) (g1 : es.length ≤ 1000000) (g2 : rs.length ≤ 1000000) (g3 : ns.length ≤ 1000000),
  RdC X0 0 (ntOf X0 FSA) (lpKeep X0 FSA 1) (lpBody X0 FSA 1) 0 (stC A i) (stC A (i + 1))
def lc2_T : Prop := ∀ (A : List Op) (i : Nat) (hi : A.length ≤ i) (h2 : i ≤ 1000000), Rd X0 0 (ntOf X0 FSA) (lpBody X0 FSA 1) (stC A i) (.exit 2, stCx A i)
end Go.Proofs.YtgiahagbmgnmkaaDoor.Script
/- Script: paths, printed by a program of mine. -/
set_option maxRecDepth 100000
set_option linter.unusedSimpArgs false
set_option linter.unusedVariables false
namespace Go.Proofs.YtgiahagbmgnmkaaDoor.Script
open Go Pv G
set_option maxHeartbeats 4000000 in
theorem al1 : al1_T := by
  intro l out i hl hi q
  have hx0 : (decide ((↑i : Int) < (↑(List.length l) : Int))) = true := by exact decide_eq_true (by omega)
  have hx1 : ((strAt l i) == []) = true := by assumption
  exact (pC (st' := { s := [((nat_lit 4), (V.tail (nat_lit 27) (List.flatMap (Ty.enc opT) out) (List.length out))), ((nat_lit 10), (V.d (D.sl (List.map D.str l) (List.length l)))), ((nat_lit 11), (V.d (D.int IntKind.i64 (↑(List.length l) : Int)))), ((nat_lit 12), (V.d (D.int IntKind.i64 (IntKind.wrap IntKind.i64 ((↑i : Int) + (1 : Int))))))], h := [], og := [] }) 12 [(1, bt), (2, .v (V.d (D.ref (List.map D.str l) ((Int.toNat (↑i : Int)) * (1 : Nat))))), (3, .v (V.d (D.str (strAt l i)))), (4, .v (V.d (D.bool ((strAt l i) == [])))), (5, bt)] (cP hx1 (cP (@strEq (strAt l i) ([])) (cP (@loadStrN (l) ([]) (i) hi) (cP (@iaddrStr (l) ((↑i : Int)) (by omega) (by omega)) (cP hx0 nilE))))) (by kernel_rfl)).to (by ((try simp (disch := omega) only [wrapId, sizeOne, sizeStr, List.length_cons, List.length_nil, wrapU8, toNatAdd, toNatSucc] at *) <;> (try simp only [Int.toNat_natCast, beq_iff_eq, beq_eq_false_iff_ne, bne_iff_ne, bne_eq_false_iff_eq, ne_eq, Int.natCast_eq_zero, Int.natCast_inj] at *) <;> first | (simp (disch := omega) [Ty.enc, wrapId, toNatPred, toNatAdd, toNatSucc, sizeOne, sizeStr, List.length_cons, List.length_nil, wrapU8, ltF, ltT, Ty.slD, *]; done) | (subst_vars; simp (disch := omega) [Ty.enc, wrapId, toNatPred, toNatAdd, toNatSucc, sizeOne, sizeStr, List.length_cons, List.length_nil, wrapU8, ltF, ltT, Ty.slD, *]; done)))
set_option maxHeartbeats 4000000 in
theorem al2 : al2_T := by
  intro l out i k a b es rs ns hl ho hw hi q e
  have hx0 : (decide ((↑i : Int) < (↑(List.length l) : Int))) = true := by exact decide_eq_true (by omega)
  have hx1 : ((strAt l i) == []) = false := by assumption
  exact (pC (st' := { s := [((nat_lit 4), (V.tail (nat_lit 27) (List.flatMap (Ty.enc opT) (out ++ [(k, a, b, es, rs, ns, ())])) (List.length (out ++ [(k, a, b, es, rs, ns, ())])))), ((nat_lit 10), (V.d (D.sl (List.map D.str l) (List.length l)))), ((nat_lit 11), (V.d (D.int IntKind.i64 (↑(List.length l) : Int)))), ((nat_lit 12), (V.d (D.int IntKind.i64 (IntKind.wrap IntKind.i64 ((↑i : Int) + (1 : Int))))))], h := [], og := [] }) 12 [(1, bt), (2, .v (V.d (D.ref (List.map D.str l) ((Int.toNat (↑i : Int)) * (1 : Nat))))), (3, .v (V.d (D.str (strAt l i)))), (4, .v (V.d (D.bool ((strAt l i) == [])))), (5, bf), (6, .v (okR k a b es rs ns)), (10, .v (Ty.tailV opT (27 : TypeId) (out ++ [(k, a, b, es, rs, ns, ())])))] (cP (@appendOp (out) (k) (a) (b) (es) (rs) (ns) ho) (cC (@psOk (strAt l i) (k) (a) (b) (es) (rs) (ns) hw e) (cP hx1 (cP (@strEq (strAt l i) ([])) (cP (@loadStrN (l) ([]) (i) hi) (cP (@iaddrStr (l) ((↑i : Int)) (by omega) (by omega)) (cP hx0 nilE))))))) (by kernel_rfl)).to (by ((try simp (disch := omega) only [wrapId, sizeOne, sizeStr, List.length_cons, List.length_nil, wrapU8, toNatAdd, toNatSucc] at *) <;> (try simp only [Int.toNat_natCast, beq_iff_eq, beq_eq_false_iff_ne, bne_iff_ne, bne_eq_false_iff_eq, ne_eq, Int.natCast_eq_zero, Int.natCast_inj] at *) <;> first | (simp (disch := omega) [Ty.enc, wrapId, toNatPred, toNatAdd, toNatSucc, sizeOne, sizeStr, List.length_cons, List.length_nil, wrapU8, ltF, ltT, Ty.slD, *]; done) | (subst_vars; simp (disch := omega) [Ty.enc, wrapId, toNatPred, toNatAdd, toNatSucc, sizeOne, sizeStr, List.length_cons, List.length_nil, wrapU8, ltF, ltT, Ty.slD, *]; done)))
set_option maxHeartbeats 4000000 in
theorem al3 : al3_T := by
  intro l out i o hl hw hi q e
  have hx0 : (decide ((↑i : Int) < (↑(List.length l) : Int))) = true := by exact decide_eq_true (by omega)
  have hx1 : ((strAt l i) == []) = false := by assumption
  exact (pR (r := (Ex.ret, { s := [((nat_lit 2), (V.tail (nat_lit 27) [] (nat_lit 0))), ((nat_lit 3), (V.d (D.int IntKind.i64 (IntKind.wrap IntKind.i64 ((↑i : Int) + (1 : Int))))))], h := [(Ob.cells [(V.d (D.int IntKind.i64 (0 : Int))), (V.d (D.int IntKind.i64 (0 : Int))), (V.d (D.int IntKind.i64 (0 : Int))), (V.d (D.sl [] (nat_lit 0))), (V.d (D.sl [] (nat_lit 0))), (V.d (D.sl [] (nat_lit 0)))])], og := [] })) 12 [(1, bt), (2, .v (V.d (D.ref (List.map D.str l) ((Int.toNat (↑i : Int)) * (1 : Nat))))), (3, .v (V.d (D.str (strAt l i)))), (4, .v (V.d (D.bool ((strAt l i) == [])))), (5, bf), (6, .v (errR))] (cC (@psErr (strAt l i) (o) hw e) (cP hx1 (cP (@strEq (strAt l i) ([])) (cP (@loadStrN (l) ([]) (i) hi) (cP (@iaddrStr (l) ((↑i : Int)) (by omega) (by omega)) (cP hx0 nilE)))))) (by kernel_rfl)).to (by ((try simp (disch := omega) only [wrapId, sizeOne, sizeStr, List.length_cons, List.length_nil, wrapU8, toNatAdd, toNatSucc] at *) <;> (try simp only [Int.toNat_natCast, beq_iff_eq, beq_eq_false_iff_ne, bne_iff_ne, bne_eq_false_iff_eq, ne_eq, Int.natCast_eq_zero, Int.natCast_inj] at *) <;> first | (simp (disch := omega) [Ty.enc, wrapId, toNatPred, toNatAdd, toNatSucc, sizeOne, sizeStr, List.length_cons, List.length_nil, wrapU8, ltF, ltT, Ty.slD, *]; done) | (subst_vars; simp (disch := omega) [Ty.enc, wrapId, toNatPred, toNatAdd, toNatSucc, sizeOne, sizeStr, List.length_cons, List.length_nil, wrapU8, ltF, ltT, Ty.slD, *]; done)))
set_option maxHeartbeats 4000000 in
theorem al4 : al4_T := by
  intro l out i hi h2
  have hx0 : (decide ((↑i : Int) < (↑(List.length l) : Int))) = false := by exact decide_eq_false (by omega)
  exact (pR (r := ((Ex.exit (nat_lit 0)), { s := [((nat_lit 4), (V.tail (nat_lit 27) (List.flatMap (Ty.enc opT) out) (List.length out))), ((nat_lit 10), (V.d (D.sl (List.map D.str l) (List.length l)))), ((nat_lit 11), (V.d (D.int IntKind.i64 (↑(List.length l) : Int)))), ((nat_lit 12), (V.d (D.int IntKind.i64 (↑i : Int)))), ((nat_lit 13), (V.d (D.bool (decide ((↑i : Int) < (↑(List.length l) : Int))))))], h := [], og := [] })) 12 [(1, bf)] (cP hx0 nilE) (by kernel_rfl)).to (by ((try simp (disch := omega) only [wrapId, sizeOne, sizeStr, List.length_cons, List.length_nil, wrapU8, toNatAdd, toNatSucc] at *) <;> (try simp only [Int.toNat_natCast, beq_iff_eq, beq_eq_false_iff_ne, bne_iff_ne, bne_eq_false_iff_eq, ne_eq, Int.natCast_eq_zero, Int.natCast_inj] at *) <;> first | (simp (disch := omega) [Ty.enc, wrapId, toNatPred, toNatAdd, toNatSucc, sizeOne, sizeStr, List.length_cons, List.length_nil, wrapU8, ltF, ltT, Ty.slD, *]; done) | (subst_vars; simp (disch := omega) [Ty.enc, wrapId, toNatPred, toNatAdd, toNatSucc, sizeOne, sizeStr, List.length_cons, List.length_nil, wrapU8, ltF, ltT, Ty.slD, *]; done)))
set_option maxHeartbeats 4000000 in
theorem lb1 : lb1_T := by
  intro A n l w i hl hi q
  have hx0 : (decide ((↑i : Int) < (↑(List.length l) : Int))) = true := by exact decide_eq_true (by omega)
  have hx1 : ((strAt l i) == []) = true := by assumption
  exact (pC (st' := { s := [((nat_lit 3), (V.d (D.sl (List.flatMap (Ty.enc opT) A) (List.length A)))), ((nat_lit 4), (V.d (D.int IntKind.i64 n))), ((nat_lit 5), (V.tail (nat_lit 27) (List.flatMap (Ty.enc opT) w) (List.length w))), ((nat_lit 22), (V.d (D.sl (List.map D.str l) (List.length l)))), ((nat_lit 23), (V.d (D.int IntKind.i64 (↑(List.length l) : Int)))), ((nat_lit 24), (V.d (D.int IntKind.i64 (IntKind.wrap IntKind.i64 ((↑i : Int) + (1 : Int))))))], h := [], og := [] }) 12 [(1, bt), (2, .v (V.d (D.ref (List.map D.str l) ((Int.toNat (↑i : Int)) * (1 : Nat))))), (3, .v (V.d (D.str (strAt l i)))), (4, .v (V.d (D.bool ((strAt l i) == [])))), (5, bt)] (cP hx1 (cP (@strEq (strAt l i) ([])) (cP (@loadStrN (l) ([]) (i) hi) (cP (@iaddrStr (l) ((↑i : Int)) (by omega) (by omega)) (cP hx0 nilE))))) (by kernel_rfl)).to (by ((try simp (disch := omega) only [wrapId, sizeOne, sizeStr, List.length_cons, List.length_nil, wrapU8, toNatAdd, toNatSucc] at *) <;> (try simp only [Int.toNat_natCast, beq_iff_eq, beq_eq_false_iff_ne, bne_iff_ne, bne_eq_false_iff_eq, ne_eq, Int.natCast_eq_zero, Int.natCast_inj] at *) <;> first | (simp (disch := omega) [Ty.enc, wrapId, toNatPred, toNatAdd, toNatSucc, sizeOne, sizeStr, List.length_cons, List.length_nil, wrapU8, ltF, ltT, Ty.slD, *]; done) | (subst_vars; simp (disch := omega) [Ty.enc, wrapId, toNatPred, toNatAdd, toNatSucc, sizeOne, sizeStr, List.length_cons, List.length_nil, wrapU8, ltF, ltT, Ty.slD, *]; done)))
set_option maxHeartbeats 4000000 in
theorem lb2 : lb2_T := by
  intro A n l w i k a b es rs ns hl ho hw hi q e
  have hx0 : (decide ((↑i : Int) < (↑(List.length l) : Int))) = true := by exact decide_eq_true (by omega)
  have hx1 : ((strAt l i) == []) = false := by assumption
  exact (pC (st' := { s := [((nat_lit 3), (V.d (D.sl (List.flatMap (Ty.enc opT) A) (List.length A)))), ((nat_lit 4), (V.d (D.int IntKind.i64 n))), ((nat_lit 5), (V.tail (nat_lit 27) (List.flatMap (Ty.enc opT) (w ++ [(k, a, b, es, rs, ns, ())])) (List.length (w ++ [(k, a, b, es, rs, ns, ())])))), ((nat_lit 22), (V.d (D.sl (List.map D.str l) (List.length l)))), ((nat_lit 23), (V.d (D.int IntKind.i64 (↑(List.length l) : Int)))), ((nat_lit 24), (V.d (D.int IntKind.i64 (IntKind.wrap IntKind.i64 ((↑i : Int) + (1 : Int))))))], h := [], og := [] }) 12 [(1, bt), (2, .v (V.d (D.ref (List.map D.str l) ((Int.toNat (↑i : Int)) * (1 : Nat))))), (3, .v (V.d (D.str (strAt l i)))), (4, .v (V.d (D.bool ((strAt l i) == [])))), (5, bf), (6, .v (V.d (D.tup [(opR k a b es rs ns), (D.bool true)]))), (9, .v (Ty.tailV opT (27 : TypeId) (w ++ [(k, a, b, es, rs, ns, ())])))] (cP (@appendOp (w) (k) (a) (b) (es) (rs) (ns) ho) (cC (@refP (strAt l i) (k) (a) (b) (es) (rs) (ns) (true) hw e) (cP hx1 (cP (@strEq (strAt l i) ([])) (cP (@loadStrN (l) ([]) (i) hi) (cP (@iaddrStr (l) ((↑i : Int)) (by omega) (by omega)) (cP hx0 nilE))))))) (by kernel_rfl)).to (by ((try simp (disch := omega) only [wrapId, sizeOne, sizeStr, List.length_cons, List.length_nil, wrapU8, toNatAdd, toNatSucc] at *) <;> (try simp only [Int.toNat_natCast, beq_iff_eq, beq_eq_false_iff_ne, bne_iff_ne, bne_eq_false_iff_eq, ne_eq, Int.natCast_eq_zero, Int.natCast_inj] at *) <;> first | (simp (disch := omega) [Ty.enc, wrapId, toNatPred, toNatAdd, toNatSucc, sizeOne, sizeStr, List.length_cons, List.length_nil, wrapU8, ltF, ltT, Ty.slD, *]; done) | (subst_vars; simp (disch := omega) [Ty.enc, wrapId, toNatPred, toNatAdd, toNatSucc, sizeOne, sizeStr, List.length_cons, List.length_nil, wrapU8, ltF, ltT, Ty.slD, *]; done)))
set_option maxHeartbeats 4000000 in
theorem lb3 : lb3_T := by
  intro n l w i k a b es rs ns hl hw hi q e en
  have hx0 : (decide ((↑i : Int) < (↑(List.length l) : Int))) = true := by exact decide_eq_true (by omega)
  have hx1 : ((strAt l i) == []) = false := by assumption
  have hx2 : (n == (IntKind.wrap IntKind.i64 ((↑i : Int) + (1 : Int)))) = true := by (first | assumption | (((try simp only [SA] at *); (try simp (disch := omega) only [SB, reduceCtorEq] at *)) <;> first | omega | assumption | (refine ⟨?_, ?_⟩ <;> assumption) | (refine ⟨?_, ?_, ?_⟩ <;> assumption) | (intros; assumption) | (right; right; assumption) | (right; left; assumption) | (left; assumption)))
  exact pR 12 [(1, bt), (2, .v (V.d (D.ref (List.map D.str l) ((Int.toNat (↑i : Int)) * (1 : Nat))))), (3, .v (V.d (D.str (strAt l i)))), (4, .v (V.d (D.bool ((strAt l i) == [])))), (5, bf), (6, .v (V.d (D.tup [(opR k a b es rs ns), (D.bool false)]))), (10, bt), (11, bt), (13, bt), (15, bt), (17, .v (V.d (D.bool true)))] (cC (@edits ) (cP hx2 (cP hx2 (cP hx2 (cP hx2 (cC (@refP (strAt l i) (k) (a) (b) (es) (rs) (ns) (false) hw e) (cP hx1 (cP (@strEq (strAt l i) ([])) (cP (@loadStrN (l) ([]) (i) hi) (cP (@iaddrStr (l) ((↑i : Int)) (by omega) (by omega)) (cP hx0 nilE))))))))))) (by kernel_rfl)
set_option maxHeartbeats 4000000 in
theorem lb4 : lb4_T := by
  intro A n l w i hi h2
  have hx0 : (decide ((↑i : Int) < (↑(List.length l) : Int))) = false := by exact decide_eq_false (by omega)
  exact (pR (r := ((Ex.exit (nat_lit 0)), { s := [((nat_lit 3), (V.d (D.sl (List.flatMap (Ty.enc opT) A) (List.length A)))), ((nat_lit 4), (V.d (D.int IntKind.i64 n))), ((nat_lit 5), (V.tail (nat_lit 27) (List.flatMap (Ty.enc opT) w) (List.length w))), ((nat_lit 22), (V.d (D.sl (List.map D.str l) (List.length l)))), ((nat_lit 23), (V.d (D.int IntKind.i64 (↑(List.length l) : Int)))), ((nat_lit 24), (V.d (D.int IntKind.i64 (↑i : Int)))), ((nat_lit 25), (V.d (D.bool (decide ((↑i : Int) < (↑(List.length l) : Int))))))], h := [], og := [] })) 12 [(1, bf)] (cP hx0 nilE) (by kernel_rfl)).to (by ((try simp (disch := omega) only [wrapId, sizeOne, sizeStr, List.length_cons, List.length_nil, wrapU8, toNatAdd, toNatSucc] at *) <;> (try simp only [Int.toNat_natCast, beq_iff_eq, beq_eq_false_iff_ne, bne_iff_ne, bne_eq_false_iff_eq, ne_eq, Int.natCast_eq_zero, Int.natCast_inj] at *) <;> first | (simp (disch := omega) [Ty.enc, wrapId, toNatPred, toNatAdd, toNatSucc, sizeOne, sizeStr, List.length_cons, List.length_nil, wrapU8, ltF, ltT, Ty.slD, *]; done) | (subst_vars; simp (disch := omega) [Ty.enc, wrapId, toNatPred, toNatAdd, toNatSucc, sizeOne, sizeStr, List.length_cons, List.length_nil, wrapU8, ltF, ltT, Ty.slD, *]; done)))
set_option maxHeartbeats 4000000 in
theorem lc1 : lc1_T := by
  intro A i k a b es rs ns hl hi e g1 g2 g3
  have hx0 : (decide ((↑i : Int) < (↑(List.length A) : Int))) = true := by exact decide_eq_true (by omega)
  exact (pC (st' := { s := [((nat_lit 5), (V.tail (nat_lit 27) (List.flatMap (Ty.enc opT) A) (List.length A))), ((nat_lit 64), (V.d (D.sl (List.flatMap (Ty.enc opT) A) (List.length A)))), ((nat_lit 65), (V.d (D.int IntKind.i64 (↑(List.length A) : Int)))), ((nat_lit 66), (V.d (D.int IntKind.i64 (IntKind.wrap IntKind.i64 ((↑i : Int) + (1 : Int))))))], h := [], og := [] }) 12 [(1, bt), (2, .v (V.d (D.ref (List.flatMap (Ty.enc opT) A) ((Int.toNat (↑i : Int)) * (6 : Nat))))), (3, .v (V.d (opR k a b es rs ns))), (5, .v (V.d (D.ref (List.flatMap (Ty.enc opT) A) ((Int.toNat (↑i : Int)) * (6 : Nat))))), (6, .v (V.d (opR k a b es rs ns))), (7, .v (V.d (D.bool true)))] (cC (@sameX (k) (a) (b) (es) (rs) (ns) (by omega) (by omega) (by omega)) (cP (@loadOpE (A) ([(Ob.cells [(V.d (D.int IntKind.i64 k)), (V.d (D.int IntKind.i64 a)), (V.d (D.int IntKind.i64 b)), (V.d (D.sl (List.flatMap (Ty.enc editT) es) (List.length es))), (V.d (D.sl (List.flatMap (Ty.enc i64) rs) (List.length rs))), (V.d (D.sl (List.flatMap (Ty.enc inlT) ns) (List.length ns)))])]) (i) (k) (a) (b) (es) (rs) (ns) hi e) (cP (@iaddrOp (A) ((↑i : Int)) (by omega) (by omega)) (cP (@loadOpE (A) ([]) (i) (k) (a) (b) (es) (rs) (ns) hi e) (cP (@iaddrOp (A) ((↑i : Int)) (by omega) (by omega)) (cP hx0 nilE)))))) (by kernel_rfl)).to (by ((try simp (disch := omega) only [wrapId, sizeOne, sizeStr, List.length_cons, List.length_nil, wrapU8, toNatAdd, toNatSucc] at *) <;> (try simp only [Int.toNat_natCast, beq_iff_eq, beq_eq_false_iff_ne, bne_iff_ne, bne_eq_false_iff_eq, ne_eq, Int.natCast_eq_zero, Int.natCast_inj] at *) <;> first | (simp (disch := omega) [Ty.enc, wrapId, toNatPred, toNatAdd, toNatSucc, sizeOne, sizeStr, List.length_cons, List.length_nil, wrapU8, ltF, ltT, Ty.slD, *]; done) | (subst_vars; simp (disch := omega) [Ty.enc, wrapId, toNatPred, toNatAdd, toNatSucc, sizeOne, sizeStr, List.length_cons, List.length_nil, wrapU8, ltF, ltT, Ty.slD, *]; done)))
set_option maxHeartbeats 4000000 in
theorem lc2 : lc2_T := by
  intro A i hi h2
  have hx0 : (decide ((↑i : Int) < (↑(List.length A) : Int))) = false := by exact decide_eq_false (by omega)
  exact (pR (r := ((Ex.exit (nat_lit 2)), { s := [((nat_lit 5), (V.tail (nat_lit 27) (List.flatMap (Ty.enc opT) A) (List.length A))), ((nat_lit 64), (V.d (D.sl (List.flatMap (Ty.enc opT) A) (List.length A)))), ((nat_lit 65), (V.d (D.int IntKind.i64 (↑(List.length A) : Int)))), ((nat_lit 66), (V.d (D.int IntKind.i64 (↑i : Int)))), ((nat_lit 67), (V.d (D.bool (decide ((↑i : Int) < (↑(List.length A) : Int))))))], h := [], og := [] })) 12 [(1, bf)] (cP hx0 nilE) (by kernel_rfl)).to (by ((try simp (disch := omega) only [wrapId, sizeOne, sizeStr, List.length_cons, List.length_nil, wrapU8, toNatAdd, toNatSucc] at *) <;> (try simp only [Int.toNat_natCast, beq_iff_eq, beq_eq_false_iff_ne, bne_iff_ne, bne_eq_false_iff_eq, ne_eq, Int.natCast_eq_zero, Int.natCast_inj] at *) <;> first | (simp (disch := omega) [Ty.enc, wrapId, toNatPred, toNatAdd, toNatSucc, sizeOne, sizeStr, List.length_cons, List.length_nil, wrapU8, ltF, ltT, Ty.slD, *]; done) | (subst_vars; simp (disch := omega) [Ty.enc, wrapId, toNatPred, toNatAdd, toNatSucc, sizeOne, sizeStr, List.length_cons, List.length_nil, wrapU8, ltF, ltT, Ty.slD, *]; done)))
end Go.Proofs.YtgiahagbmgnmkaaDoor.Script
/- Script: All as one; the laws ScriptAll, ScriptJoins: statements. -/
set_option linter.unusedVariables false
set_option linter.unusedSimpArgs false
namespace Go.Proofs.YtgiahagbmgnmkaaDoor.Script
open Go Pv G
theorem eqNil {w : Str} (h : w = []) : (w == []) = true := by subst h; rfl
theorem neNil {w : Str} (h : ¬ w = []) : (w == []) = false := by simpa using h
theorem strAt_le {l : List Str} {n : Nat} (h : ∀ p ∈ l, p.length ≤ n) (k : Nat) : (strAt l k).length ≤ n := by
  by_cases hk : k < l.length
  · have e : strAt l k = l[k] := by unfold strAt; rw [List.getD_eq_getElem?_getD, List.getElem?_eq_getElem hk]; rfl
    rw [e]; exact h _ (List.getElem_mem hk)
  · unfold strAt
    rw [List.getD_eq_getElem?_getD, List.getElem?_eq_none (by omega)]; simp
def Short (l : List Str) : Prop := l.length ≤ 1000000 ∧ ∀ p ∈ l, p.length ≤ 100000
theorem alC (l : List Str) (hl : Short l) : ∀ f i out m, i ≤ l.length → l.length < i + f → out.length ≤ i → f ≤ m →
    ((alF l f i out).2 = 0 → LpC X0 0 (ntOf X0 FAll) (lpKeep X0 FAll 0) (lpBody X0 FAll 0) 0 m (stA l out i) (.exit 0, stAx l (alF l f i out).1 l.length)) ∧
    (∀ j, (alF l f i out).2 = j + 1 → LpC X0 0 (ntOf X0 FAll) (lpKeep X0 FAll 0) (lpBody X0 FAll 0) 0 m (stA l out i) (.ret, stAr j)) := by
  obtain ⟨hl, hs⟩ := hl
  intro f
  induction f with
  | zero => intro i out m h1 h2; omega
  | succ f ih =>
    intro i out m h1 h2 ho hm
    obtain ⟨m, rfl⟩ : ∃ x, m = x + 1 := ⟨m - 1, by omega⟩
    rw [alF]
    by_cases hi : i < l.length
    · simp only [if_pos hi]
      have hw := strAt_le hs i
      by_cases hq : strAt l i = []
      · simp only [if_pos hq]
        have nxt := ih (i + 1) out m (by omega) (by omega) (by omega) (by omega)
        have step := al1 l out i hl hi (eqNil hq)
        exact ⟨fun h => LpC.next step (nxt.1 h), fun j h => LpC.next step (nxt.2 j h)⟩
      · simp only [if_neg hq]
        by_cases hb : (rfP (strAt l i)).2 = true
        · simp only [if_pos hb]
          have nxt := ih (i + 1) (out ++ [opOf (rfP (strAt l i)).1]) m (by omega) (by omega) (by simp; omega) (by omega)
          have step := al2 l out i _ _ _ _ _ _ hl (by omega) (by omega) hi (neNil hq) (pairE _ true hb)
          exact ⟨fun h => LpC.next step (nxt.1 h), fun j h => LpC.next step (nxt.2 j h)⟩
        · simp only [if_neg hb]
          refine ⟨fun h => (by simp at h), fun j h => ?_⟩
          obtain rfl : i = j := Nat.succ.inj h
          exact LpC.last (al3 l out i _ hl (by omega) hi (neNil hq) (pairE _ false (bF hb))) (by simp)
    · simp only [if_neg hi]
      obtain rfl : i = l.length := by omega
      exact ⟨fun _ => LpC.last (al4 l out l.length (by omega) hl) (by simp), fun j h => (by simp at h)⟩
def alL (l : List Str) : List Op × Nat := alF l (l.length + 1) 0 []
def alYesL_T : Prop := ∀ (l : List Str) (out : List Op) (hl : Short l) (e : alL l = (out, 0)), Lp X0 0 (ntOf X0 FAll) (lpKeep X0 FAll 0) (lpBody X0 FAll 0) 0 FUEL (stA l [] 0) (.exit 0, stAx l out l.length)
theorem alYesL : alYesL_T := fun l out hl e => by
  unfold alL at e
  have h2 := hl.1
  have := (alC l hl (l.length + 1) 0 [] 1152921504606846975 (by omega) (by omega) (by simp) (by omega)).1 (by rw [e])
  rw [e] at this
  exact LpC.start (m := 1152921504606846975) this (by kernel_rfl)
def alNoL_T : Prop := ∀ (l : List Str) (out : List Op) (j : Nat) (hl : Short l) (e : alL l = (out, j + 1)), Lp X0 0 (ntOf X0 FAll) (lpKeep X0 FAll 0) (lpBody X0 FAll 0) 0 FUEL (stA l [] 0) (.ret, stAr j)
theorem alNoL : alNoL_T := fun l out j hl e => by
  unfold alL at e
  have h2 := hl.1
  exact LpC.start (m := 1152921504606846975) ((alC l hl (l.length + 1) 0 [] 1152921504606846975 (by omega) (by omega) (by simp) (by omega)).2 j (by rw [e])) (by kernel_rfl)
def splitNE_T : Prop := ∀ (s : Str) (l : List Str) (hs : s.length ≤ 1000000) (e : pieces 10 s = l), Ans X0 21 [.d (.str s), .d (.str [10])] (.d (strsD l))
theorem splitNE : splitNE_T := fun s l hs e => by subst e; exact splitN s hs
def allOk_T : Prop := ∀ (s : Str) (l : List Str) (out : List Op) (hs : s.length ≤ 1000000) (ew : pieces 10 s = l) (hl : Short l) (e : alL l = (out, 0)), Ans X0 FAll [.d (.str s)] (.d (.tup [opT.slD out, .int .i64 0]))
def allErr_T : Prop := ∀ (s : Str) (l : List Str) (out : List Op) (j : Nat) (hs : s.length ≤ 1000000) (ew : pieces 10 s = l) (hl : Short l) (e : alL l = (out, j + 1)), Ans X0 FAll [.d (.str s)] (.d (.tup [opT.slD [], .int .i64 ((j : Int) + 1)]))
/- the law's loops -/
theorem lbC (l : List Str) (hl : Short l) : ∀ f i w m, i ≤ l.length → l.length < i + f → w.length ≤ i → f ≤ m →
    (∀ A n, (alF l f i w).2 = 0 → LpC X0 0 (ntOf X0 FSA) (lpKeep X0 FSA 0) (lpBody X0 FSA 0) 0 m (stB A n l w i) (.exit 0, stBx A n l (alF l f i w).1 l.length)) ∧
    (∀ (j : Nat) k a b es rs ns, (alF l f i w).2 = j + 1 → rfP (strAt l j) = ((k, a, b, es, rs, ns), false) → LpC X0 0 (ntOf X0 FSA) (lpKeep X0 FSA 0) (lpBody X0 FSA 0) 0 m (stB [] ((j : Int) + 1) l w i) (.ret, stBr k a b es rs ns)) := by
  obtain ⟨hl, hs⟩ := hl
  intro f
  induction f with
  | zero => intro i w m h1 h2; omega
  | succ f ih =>
    intro i w m h1 h2 ho hm
    obtain ⟨m, rfl⟩ : ∃ x, m = x + 1 := ⟨m - 1, by omega⟩
    rw [alF]
    by_cases hi : i < l.length
    · simp only [if_pos hi]
      have hw := strAt_le hs i
      by_cases hq : strAt l i = []
      · simp only [if_pos hq]
        have nxt := ih (i + 1) w m (by omega) (by omega) (by omega) (by omega)
        exact ⟨fun A n h => LpC.next (lb1 A n l w i hl hi (eqNil hq)) (nxt.1 A n h), fun j k a b es rs ns h e => LpC.next (lb1 [] _ l w i hl hi (eqNil hq)) (nxt.2 j k a b es rs ns h e)⟩
      · simp only [if_neg hq]
        by_cases hb : (rfP (strAt l i)).2 = true
        · simp only [if_pos hb]
          have nxt := ih (i + 1) (w ++ [opOf (rfP (strAt l i)).1]) m (by omega) (by omega) (by simp; omega) (by omega)
          exact ⟨fun A n h => LpC.next (lb2 A n l w i _ _ _ _ _ _ hl (by omega) hw hi (neNil hq) (pairE _ true hb)) (nxt.1 A n h), fun j k a b es rs ns h e => LpC.next (lb2 [] _ l w i _ _ _ _ _ _ hl (by omega) hw hi (neNil hq) (pairE _ true hb)) (nxt.2 j k a b es rs ns h e)⟩
        · simp only [if_neg hb]
          refine ⟨fun A n h => (by simp at h), fun j k a b es rs ns h e => ?_⟩
          obtain rfl : i = j := Nat.succ.inj h
          exact LpC.last (lb3 _ l w i k a b es rs ns hl hw hi (neNil hq) e rfl) (by simp)
    · simp only [if_neg hi]
      obtain rfl : i = l.length := by omega
      exact ⟨fun A n _ => LpC.last (lb4 A n l w l.length (by omega) hl) (by simp), fun j k a b es rs ns h => (by simp at h)⟩
def lbYesL_T : Prop := ∀ (l : List Str) (A w : List Op) (n : Int) (hl : Short l) (e : alL l = (w, 0)), Lp X0 0 (ntOf X0 FSA) (lpKeep X0 FSA 0) (lpBody X0 FSA 0) 0 FUEL (stB A n l [] 0) (.exit 0, stBx A n l w l.length)
theorem lbYesL : lbYesL_T := fun l A w n hl e => by
  unfold alL at e
  have h2 := hl.1
  have := (lbC l hl (l.length + 1) 0 [] 1152921504606846975 (by omega) (by omega) (by simp) (by omega)).1 A n (by rw [e])
  rw [e] at this
  exact LpC.start (m := 1152921504606846975) this (by kernel_rfl)
def lbNoL_T : Prop := ∀ (l : List Str) (out : List Op) (j : Nat) (k a b : Int) (es : List Edit) (rs : List Int) (ns : List Inl) (hl : Short l) (e : alL l = (out, j + 1)) (eo : rfP (strAt l j) = ((k, a, b, es, rs, ns), false)), Lp X0 0 (ntOf X0 FSA) (lpKeep X0 FSA 0) (lpBody X0 FSA 0) 0 FUEL (stB [] ((j : Int) + 1) l [] 0) (.ret, stBr k a b es rs ns)
theorem lbNoL : lbNoL_T := fun l out j k a b es rs ns hl e eo => by
  unfold alL at e
  have h2 := hl.1
  exact LpC.start (m := 1152921504606846975) ((lbC l hl (l.length + 1) 0 [] 1152921504606846975 (by omega) (by omega) (by simp) (by omega)).2 j k a b es rs ns (by rw [e]) eo) (by kernel_rfl)
def OpL (o : Op) : Prop := o.2.2.2.1.length ≤ 1000000 ∧ o.2.2.2.2.1.length ≤ 1000000 ∧ o.2.2.2.2.2.1.length ≤ 1000000
def OpLs (A : List Op) : Prop := A.length ≤ 1000000 ∧ ∀ i, i < A.length → OpL (opT.nth A i)
theorem lcC (A : List Op) (hA : OpLs A) : ∀ f i m, i + f = A.length → f < m → LpC X0 0 (ntOf X0 FSA) (lpKeep X0 FSA 1) (lpBody X0 FSA 1) 0 m (stC A i) (.exit 2, stCx A A.length) := by
  obtain ⟨hl, hA⟩ := hA
  intro f
  induction f with
  | zero =>
    intro i m hi hm
    obtain rfl : i = A.length := by omega
    obtain ⟨m, rfl⟩ : ∃ x, m = x + 1 := ⟨m - 1, by omega⟩
    exact LpC.last (lc2 A A.length (by omega) hl) (by simp)
  | succ f ih =>
    intro i m hi hm
    obtain ⟨m, rfl⟩ : ∃ x, m = x + 1 := ⟨m - 1, by omega⟩
    obtain ⟨g1, g2, g3⟩ := hA i (by omega)
    exact LpC.next (lc1 A i _ _ _ _ _ _ hl (by omega) rfl g1 g2 g3) (ih (i + 1) m (by omega) (by omega))
def lcL_T : Prop := ∀ (A : List Op) (hA : OpLs A), Lp X0 0 (ntOf X0 FSA) (lpKeep X0 FSA 1) (lpBody X0 FSA 1) 0 FUEL (stC A 0) (.exit 2, stCx A A.length)
theorem lcL : lcL_T := fun A hA => by
  have := hA.1
  exact LpC.start (m := 1152921504606846975) (lcC A hA A.length 0 _ (by omega) (by omega)) (by kernel_rfl)
def saBig_T : Prop := ∀ (s : Str) (h : 1000 < s.length), Ans X0 FSA [.d (.str s)] (.d (.bool true))
def saErr_T : Prop := ∀ (s : Str) (l : List Str) (j : Nat) (k a b : Int) (es : List Edit) (rs : List Int) (ns : List Inl) (h : s.length ≤ 1000) (ew : pieces 10 s = l) (hl : Short l) (e : alL l = ([], j + 1)) (eo : rfP (strAt l j) = ((k, a, b, es, rs, ns), false)), Ans X0 FSA [.d (.str s)] (.d (.bool true))
def saOk_T : Prop := ∀ (s : Str) (l : List Str) (A : List Op) (h : s.length ≤ 1000) (ew : pieces 10 s = l) (hl : Short l) (e : alL l = (A, 0)) (hA : OpLs A), Ans X0 FSA [.d (.str s)] (.d (.bool true))
/- what All makes of a text -/
theorem short_pieces {s : Str} (h : s.length ≤ 10000) : Short (pieces 10 s) := by
  refine ⟨?_, fun p hp => by have := pieces_small 10 s p hp; omega⟩
  have := List.count_le_length (a := (10 : UInt8)) (l := s)
  rw [pieces_length]; omega
theorem nth_mem {A : List Op} {i : Nat} (h : i < A.length) : opT.nth A i ∈ A := by
  have : opT.nth A i = A[i] := by unfold Ty.nth; rw [List.getD_eq_getElem?_getD, List.getElem?_eq_getElem h]; rfl
  rw [this]; exact List.getElem_mem h
theorem alF_ops (l : List Str) (hl : Short l) : ∀ f i out, (∀ o ∈ out, OpL o) → ∀ o ∈ (alF l f i out).1, OpL o := by
  intro f
  induction f with
  | zero => intro i out h; exact h
  | succ f ih =>
    intro i out h
    rw [alF]
    split
    · split
      · exact ih _ _ h
      · split
        · refine ih _ _ (fun o ho => ?_)
          rcases List.mem_append.1 ho with ho | ho
          · exact h o ho
          · have hw := strAt_le hl.2 i
            obtain rfl := List.mem_singleton.1 ho
            obtain ⟨a, b, c⟩ := rfP_len (strAt l i) (by omega)
            exact ⟨Nat.le_trans a (by omega), Nat.le_trans b (by omega), Nat.le_trans c (by omega)⟩
        · intro o ho; cases ho
    · exact h
theorem alF_len (l : List Str) : ∀ f i out, (alF l f i out).1.length ≤ out.length + f := by
  intro f
  induction f with
  | zero => intro i out; exact Nat.le_refl _
  | succ f ih =>
    intro i out
    rw [alF]
    split
    · split
      · have := ih (i + 1) out; omega
      · split
        · have := ih (i + 1) (out ++ [opOf (rfP (strAt l i)).1])
          simp only [List.length_append, List.length_singleton] at this; omega
        · simp
    · show out.length ≤ _; omega
theorem alL_ops {l : List Str} (hl : Short l) (h2 : l.length ≤ 100000) : OpLs (alL l).1 := by
  refine ⟨?_, fun i hi => ?_⟩
  · have := alF_len l (l.length + 1) 0 []
    unfold alL; simp at this ⊢; omega
  · exact alF_ops l hl (l.length + 1) 0 [] (fun o ho => by cases ho) _ (nth_mem hi)
theorem alF_no (l : List Str) : ∀ f i out j, (alF l f i out).2 = j + 1 → (rfP (strAt l j)).2 = false ∧ (alF l f i out).1 = [] := by
  intro f
  induction f with
  | zero => intro i out j h; cases h
  | succ f ih =>
    intro i out j h
    rw [alF] at h ⊢
    by_cases hi : i < l.length
    · simp only [if_pos hi] at h ⊢
      by_cases hq : strAt l i = []
      · simp only [if_pos hq] at h ⊢; exact ih _ _ j h
      · simp only [if_neg hq] at h ⊢
        by_cases hb : (rfP (strAt l i)).2 = true
        · simp only [if_pos hb] at h ⊢; exact ih _ _ j h
        · simp only [if_neg hb] at h ⊢
          obtain rfl : i = j := Nat.succ.inj h
          exact ⟨bF hb, trivial⟩
    · simp only [if_neg hi] at h; cases h
/- Joins -/
abbrev FJ : Nat := 6
def loadOpJ_T : Prop := ∀ (l : List Op) (h : List Ob) (i m : Nat) (k a b : Int) (es : List Edit) (rs : List Int) (ns : List Inl) (hm : m ≤ i) (hk : i - m < l.length) (e : opT.nth l (i - m) = (k, a, b, es, rs, ns, ())), loadV X0 h 27 (.d (.ref (l.flatMap opT.enc) (((i : Int) - (m : Int)).toNat * 6))) = some (.d (opR k a b es rs ns))
theorem loadOpJ : loadOpJ_T := fun l h i m k a b es rs ns hm hk e => by
  have := loadOpE l h (i - m) k a b es rs ns hk e
  rwa [show (((i - m : Nat) : Int)).toNat = ((i : Int) - (m : Int)).toNat by omega] at this
def subN_T : Prop := ∀ (i m k : Nat) (hm : m ≤ i) (hi : i ≤ 1000000) (e : i - m = k), binV X0 .sub 3 (.d (.int .i64 (i : Int))) (.d (.int .i64 (m : Int))) = some (.d (.int .i64 (k : Int)))
theorem subI (a b : Int) : binV X0 .sub 3 (.d (.int .i64 a)) (.d (.int .i64 b)) = some (.d (.int .i64 (IntKind.wrap .i64 (a - b)))) := by kernel_rfl
theorem subN : subN_T := fun i m k hm hi e => by
  rw [subI, wrapId _ (by omega) (by omega)]
  rw [show (i : Int) - (m : Int) = (k : Int) by omega]
abbrev stJ (x y z : List Op) (i : Nat) : St := ⟨[(5, .d (opT.slD x)), (7, .d (opT.slD y)), (83, .d (opT.slD z)), (84, .d (.int .i64 z.length)), (85, .d (.int .i64 i))], [], []⟩
abbrev stJx (x y z : List Op) (i : Nat) : St := ⟨[(5, .d (opT.slD x)), (7, .d (opT.slD y)), (83, .d (opT.slD z)), (84, .d (.int .i64 z.length)), (85, .d (.int .i64 i)), (86, .d (.bool false))], [], []⟩
def lj1_T : Prop := ∀ (x y z : List Op) (i : Nat) (k a b : Int) (es : List Edit) (rs : List Int) (ns : List Inl) (hl : z.length ≤ 1000000) (hx : x.length ≤ 1000000) (hi : i < z.length) (hi2 : i < x.length) (e1 : opT.nth z i = (k, a, b, es, rs, ns, ())) (e2 : opT.nth x i = (k, a, b, es, rs, ns, ())) (g1 : es.length ≤ 1000000) (g2 : rs.length ≤ 1000000) (g3 : ns.length ≤ 1000000),
  RdC X0 0 (ntOf X0 FJ) (lpKeep X0 FJ 0) (lpBody X0 FJ 0) 0 (stJ x y z i) (stJ x y z (i + 1))
def lj2_T : Prop := ∀ (x y z : List Op) (i : Nat) (k a b : Int) (es : List Edit) (rs : List Int) (ns : List Inl) (hl : z.length ≤ 1000000) (hx : x.length ≤ 1000000) (hi : i < z.length) (hi2 : x.length ≤ i) (c : Nat) (hc : i - x.length = c) (hi3 : c < y.length) (e1 : opT.nth z i = (k, a, b, es, rs, ns, ())) (e2 : opT.nth y c = (k, a, b, es, rs, ns, ())) (g1 : es.length ≤ 1000000) (g2 : rs.length ≤ 1000000) (g3 : ns.length ≤ 1000000),
  RdC X0 0 (ntOf X0 FJ) (lpKeep X0 FJ 0) (lpBody X0 FJ 0) 0 (stJ x y z i) (stJ x y z (i + 1))
def lj3_T : Prop := ∀ (x y z : List Op) (i : Nat) (hi : z.length ≤ i) (h2 : i ≤ 1000000), Rd X0 0 (ntOf X0 FJ) (lpBody X0 FJ 0) (stJ x y z i) (.exit 0, stJx x y z i)
end Go.Proofs.YtgiahagbmgnmkaaDoor.Script
/- Script: paths, printed by a program of mine. -/
set_option maxRecDepth 100000
set_option linter.unusedSimpArgs false
set_option linter.unusedVariables false
namespace Go.Proofs.YtgiahagbmgnmkaaDoor.Script
open Go Pv G
set_option maxHeartbeats 4000000 in
theorem allOk : allOk_T := by
  intro s l out hs ew hl e
  exact pV 12 [(0, .v (V.d (strsD l))), (2, .l (Ex.exit (0 : Nat)) (stAx l out (List.length l)))] (cE (@alYesL (l) (out) hl e) (cC (@splitNE (s) (l) hs ew) nilE)) (by kernel_rfl) rfl rfl
set_option maxHeartbeats 4000000 in
theorem allErr : allErr_T := by
  intro s l out j hs ew hl e
  exact pV 12 [(0, .v (V.d (strsD l))), (2, .l (Ex.ret) (stAr j))] (cE (@alNoL (l) (out) (j) hl e) (cC (@splitNE (s) (l) hs ew) nilE)) (by kernel_rfl) rfl rfl
set_option maxHeartbeats 4000000 in
theorem lj1 : lj1_T := by
  intro x y z i k a b es rs ns hl hx hi hi2 e1 e2 g1 g2 g3
  have hx0 : (decide ((↑i : Int) < (↑(List.length z) : Int))) = true := by exact decide_eq_true (by omega)
  have hx1 : (decide ((↑i : Int) < (↑(List.length x) : Int))) = true := by exact decide_eq_true (by omega)
  exact (pC (st' := { s := [((nat_lit 5), (V.d (D.sl (List.flatMap (Ty.enc opT) x) (List.length x)))), ((nat_lit 7), (V.d (D.sl (List.flatMap (Ty.enc opT) y) (List.length y)))), ((nat_lit 83), (V.d (D.sl (List.flatMap (Ty.enc opT) z) (List.length z)))), ((nat_lit 84), (V.d (D.int IntKind.i64 (↑(List.length z) : Int)))), ((nat_lit 85), (V.d (D.int IntKind.i64 (IntKind.wrap IntKind.i64 ((↑i : Int) + (1 : Int))))))], h := [], og := [] }) 12 [(1, bt), (2, .v (V.d (D.ref (List.flatMap (Ty.enc opT) z) ((Int.toNat (↑i : Int)) * (6 : Nat))))), (3, .v (V.d (opR k a b es rs ns))), (6, bt), (7, .v (V.d (D.ref (List.flatMap (Ty.enc opT) x) ((Int.toNat (↑i : Int)) * (6 : Nat))))), (8, .v (V.d (opR k a b es rs ns))), (11, .v (V.d (D.bool true)))] (cC (@sameX (k) (a) (b) (es) (rs) (ns) (by omega) (by omega) (by omega)) (cP (@loadOpE (x) ([(Ob.cells [(V.d (D.int IntKind.i64 k)), (V.d (D.int IntKind.i64 a)), (V.d (D.int IntKind.i64 b)), (V.d (D.sl (List.flatMap (Ty.enc editT) es) (List.length es))), (V.d (D.sl (List.flatMap (Ty.enc i64) rs) (List.length rs))), (V.d (D.sl (List.flatMap (Ty.enc inlT) ns) (List.length ns)))]), (Ob.cells [(V.d (D.int IntKind.i64 (0 : Int))), (V.d (D.int IntKind.i64 (0 : Int))), (V.d (D.int IntKind.i64 (0 : Int))), (V.tail (nat_lit 48) [] (nat_lit 0)), (V.tail (nat_lit 3) [] (nat_lit 0)), (V.tail (nat_lit 60) [] (nat_lit 0))])]) (i) (k) (a) (b) (es) (rs) (ns) hi2 e2) (cP (@iaddrOp (x) ((↑i : Int)) (by omega) (by omega)) (cP hx1 (cP (@loadOpE (z) ([]) (i) (k) (a) (b) (es) (rs) (ns) hi e1) (cP (@iaddrOp (z) ((↑i : Int)) (by omega) (by omega)) (cP hx0 nilE))))))) (by kernel_rfl)).to (by ((try simp (disch := omega) only [wrapId, sizeOne, sizeStr, List.length_cons, List.length_nil, wrapU8, toNatAdd, toNatSucc] at *) <;> (try simp only [Int.toNat_natCast, beq_iff_eq, beq_eq_false_iff_ne, bne_iff_ne, bne_eq_false_iff_eq, ne_eq, Int.natCast_eq_zero, Int.natCast_inj] at *) <;> first | (simp (disch := omega) [Ty.enc, wrapId, toNatPred, toNatAdd, toNatSucc, sizeOne, sizeStr, List.length_cons, List.length_nil, wrapU8, ltF, ltT, Ty.slD, *]; done) | (subst_vars; simp (disch := omega) [Ty.enc, wrapId, toNatPred, toNatAdd, toNatSucc, sizeOne, sizeStr, List.length_cons, List.length_nil, wrapU8, ltF, ltT, Ty.slD, *]; done)))
set_option maxHeartbeats 4000000 in
theorem lj2 : lj2_T := by
  intro x y z i k a b es rs ns hl hx hi hi2 c hc hi3 e1 e2 g1 g2 g3
  have hx0 : (decide ((↑i : Int) < (↑(List.length z) : Int))) = true := by exact decide_eq_true (by omega)
  have hx1 : (decide ((↑i : Int) < (↑(List.length x) : Int))) = false := by exact decide_eq_false (by omega)
  exact (pC (st' := { s := [((nat_lit 5), (V.d (D.sl (List.flatMap (Ty.enc opT) x) (List.length x)))), ((nat_lit 7), (V.d (D.sl (List.flatMap (Ty.enc opT) y) (List.length y)))), ((nat_lit 83), (V.d (D.sl (List.flatMap (Ty.enc opT) z) (List.length z)))), ((nat_lit 84), (V.d (D.int IntKind.i64 (↑(List.length z) : Int)))), ((nat_lit 85), (V.d (D.int IntKind.i64 (IntKind.wrap IntKind.i64 ((↑i : Int) + (1 : Int))))))], h := [], og := [] }) 12 [(1, bt), (2, .v (V.d (D.ref (List.flatMap (Ty.enc opT) z) ((Int.toNat (↑i : Int)) * (6 : Nat))))), (3, .v (V.d (opR k a b es rs ns))), (6, bf), (8, .v (V.d (D.int IntKind.i64 (↑c : Int)))), (9, .v (V.d (D.ref (List.flatMap (Ty.enc opT) y) ((Int.toNat (↑c : Int)) * (6 : Nat))))), (10, .v (V.d (opR k a b es rs ns))), (13, .v (V.d (D.bool true)))] (cC (@sameX (k) (a) (b) (es) (rs) (ns) (by omega) (by omega) (by omega)) (cP (@loadOpE (y) ([(Ob.cells [(V.d (D.int IntKind.i64 k)), (V.d (D.int IntKind.i64 a)), (V.d (D.int IntKind.i64 b)), (V.d (D.sl (List.flatMap (Ty.enc editT) es) (List.length es))), (V.d (D.sl (List.flatMap (Ty.enc i64) rs) (List.length rs))), (V.d (D.sl (List.flatMap (Ty.enc inlT) ns) (List.length ns)))]), (Ob.cells [(V.d (D.int IntKind.i64 (0 : Int))), (V.d (D.int IntKind.i64 (0 : Int))), (V.d (D.int IntKind.i64 (0 : Int))), (V.tail (nat_lit 48) [] (nat_lit 0)), (V.tail (nat_lit 3) [] (nat_lit 0)), (V.tail (nat_lit 60) [] (nat_lit 0))])]) (c) (k) (a) (b) (es) (rs) (ns) hi3 e2) (cP (@iaddrOp (y) ((↑c : Int)) (by omega) (by omega)) (cP (@subN (i) (List.length x) (c) hi2 (by omega) hc) (cP hx1 (cP (@loadOpE (z) ([]) (i) (k) (a) (b) (es) (rs) (ns) hi e1) (cP (@iaddrOp (z) ((↑i : Int)) (by omega) (by omega)) (cP hx0 nilE)))))))) (by kernel_rfl)).to (by ((try simp (disch := omega) only [wrapId, sizeOne, sizeStr, List.length_cons, List.length_nil, wrapU8, toNatAdd, toNatSucc] at *) <;> (try simp only [Int.toNat_natCast, beq_iff_eq, beq_eq_false_iff_ne, bne_iff_ne, bne_eq_false_iff_eq, ne_eq, Int.natCast_eq_zero, Int.natCast_inj] at *) <;> first | (simp (disch := omega) [Ty.enc, wrapId, toNatPred, toNatAdd, toNatSucc, sizeOne, sizeStr, List.length_cons, List.length_nil, wrapU8, ltF, ltT, Ty.slD, *]; done) | (subst_vars; simp (disch := omega) [Ty.enc, wrapId, toNatPred, toNatAdd, toNatSucc, sizeOne, sizeStr, List.length_cons, List.length_nil, wrapU8, ltF, ltT, Ty.slD, *]; done)))
set_option maxHeartbeats 4000000 in
theorem lj3 : lj3_T := by
  intro x y z i hi h2
  have hx0 : (decide ((↑i : Int) < (↑(List.length z) : Int))) = false := by exact decide_eq_false (by omega)
  exact (pR (r := ((Ex.exit (nat_lit 0)), { s := [((nat_lit 5), (V.d (D.sl (List.flatMap (Ty.enc opT) x) (List.length x)))), ((nat_lit 7), (V.d (D.sl (List.flatMap (Ty.enc opT) y) (List.length y)))), ((nat_lit 83), (V.d (D.sl (List.flatMap (Ty.enc opT) z) (List.length z)))), ((nat_lit 84), (V.d (D.int IntKind.i64 (↑(List.length z) : Int)))), ((nat_lit 85), (V.d (D.int IntKind.i64 (↑i : Int)))), ((nat_lit 86), (V.d (D.bool (decide ((↑i : Int) < (↑(List.length z) : Int))))))], h := [], og := [] })) 12 [(1, bf)] (cP hx0 nilE) (by kernel_rfl)).to (by ((try simp (disch := omega) only [wrapId, sizeOne, sizeStr, List.length_cons, List.length_nil, wrapU8, toNatAdd, toNatSucc] at *) <;> (try simp only [Int.toNat_natCast, beq_iff_eq, beq_eq_false_iff_ne, bne_iff_ne, bne_eq_false_iff_eq, ne_eq, Int.natCast_eq_zero, Int.natCast_inj] at *) <;> first | (simp (disch := omega) [Ty.enc, wrapId, toNatPred, toNatAdd, toNatSucc, sizeOne, sizeStr, List.length_cons, List.length_nil, wrapU8, ltF, ltT, Ty.slD, *]; done) | (subst_vars; simp (disch := omega) [Ty.enc, wrapId, toNatPred, toNatAdd, toNatSucc, sizeOne, sizeStr, List.length_cons, List.length_nil, wrapU8, ltF, ltT, Ty.slD, *]; done)))
end Go.Proofs.YtgiahagbmgnmkaaDoor.Script
/- Script: All answers; the laws ScriptAll, ScriptJoins: statements. -/
set_option linter.unusedVariables false
set_option linter.unusedSimpArgs false
namespace Go.Proofs.YtgiahagbmgnmkaaDoor.Script
open Go Pv G
def allOkE_T : Prop := ∀ (s : Str) (l : List Str) (out : List Op) (hs : s.length ≤ 1000000) (ew : pieces 10 s = l) (hl : Short l) (e : alL l = (out, 0)), Ans X0 FAll [.d (.str s)] (.d (.tup [opT.slD out, .int .i64 0]))
theorem allOkE : allOkE_T := allOk
def allErrE_T : Prop := ∀ (s : Str) (l : List Str) (j : Nat) (hs : s.length ≤ 1000000) (ew : pieces 10 s = l) (hl : Short l) (e : alL l = ([], j + 1)), Ans X0 FAll [.d (.str s)] (.d (.tup [opT.slD [], .int .i64 ((j : Int) + 1)]))
theorem allErrE : allErrE_T := fun s l j hs ew hl e => allErr s l [] j hs ew hl e
theorem alL_err {l : List Str} {j : Nat} (h : (alL l).2 = j + 1) : alL l = ([], j + 1) := by
  have := (alF_no l (l.length + 1) 0 [] j h).2
  rw [← this, ← h]; rfl
theorem alF_le (l : List Str) : ∀ f i out, (alF l f i out).2 ≤ l.length := by
  intro f
  induction f with
  | zero => intro i out; exact Nat.zero_le _
  | succ f ih =>
    intro i out
    rw [alF]
    split
    · split
      · exact ih _ _
      · split
        · exact ih _ _
        · show i + 1 ≤ _; omega
    · exact Nat.zero_le _
theorem alL_le (l : List Str) : (alL l).2 ≤ l.length := alF_le l _ _ _
/- Joins: plain -/
theorem pieces_append (d : UInt8) (b : Str) : ∀ a : Str, pieces d (a ++ d :: b) = pieces d a ++ pieces d b
  | [] => by simp [pieces]
  | c :: a => by
    have ih := pieces_append d b a
    rw [List.cons_append, pieces, ih]
    by_cases h : c = d
    · rw [if_pos h, pieces, if_pos h]; rfl
    · rw [if_neg h, pieces, if_neg h]
      obtain ⟨x, l, hl⟩ := List.exists_cons_of_ne_nil (pieces_ne d a)
      rw [hl]; rfl
def alG : List Str → Nat → List Op → List Op × Nat
  | [], _, out => (out, 0)
  | w :: l, i, out =>
    if w = [] then alG l (i + 1) out
    else if (rfP w).2 = true then alG l (i + 1) (out ++ [opOf (rfP w).1])
    else ([], i + 1)
theorem alF_alG (l : List Str) : ∀ f i out, i ≤ l.length → l.length < i + f → alF l f i out = alG (l.drop i) i out := by
  intro f
  induction f with
  | zero => intro i out h1 h2; omega
  | succ f ih =>
    intro i out h1 h2
    rw [alF]
    by_cases hi : i < l.length
    · rw [if_pos hi, List.drop_eq_getElem_cons hi, alG]
      have e : strAt l i = l[i] := by unfold strAt; rw [List.getD_eq_getElem?_getD, List.getElem?_eq_getElem hi]; rfl
      rw [e, ih (i + 1) out (by omega) (by omega), ih (i + 1) _ (by omega) (by omega)]
    · rw [if_neg hi, List.drop_of_length_le (by omega)]; rfl
theorem alL_alG (l : List Str) : alL l = alG l 0 [] := by
  unfold alL
  rw [alF_alG l _ 0 [] (by omega) (by omega)]; rfl
theorem alG_append (l2 : List Str) : ∀ l1 i out, alG (l1 ++ l2) i out = if (alG l1 i out).2 = 0 then alG l2 (i + l1.length) (alG l1 i out).1 else alG l1 i out
  | [], i, out => by simp [alG]
  | w :: l1, i, out => by
    rw [List.cons_append, alG]
    by_cases h : w = []
    · rw [if_pos h, alG_append l2 l1, alG, if_pos h]
      rw [show i + 1 + l1.length = i + (w :: l1).length by simp; omega]
    · rw [if_neg h]
      by_cases hb : (rfP w).2 = true
      · rw [if_pos hb, alG_append l2 l1, alG, if_neg h, if_pos hb]
        rw [show i + 1 + l1.length = i + (w :: l1).length by simp; omega]
      · rw [if_neg hb, alG, if_neg h, if_neg hb]
        rw [if_neg (by simp)]
theorem alG_shift : ∀ l i out, (((alG l 0 []).2 = 0 → alG l i out = (out ++ (alG l 0 []).1, 0)) ∧ ((alG l 0 []).2 ≠ 0 → alG l i out = ([], (alG l 0 []).2 + i))) := by
  have gen : ∀ l i j (out out2 : List Op), ((alG l j out2).2 = 0 → ∃ r, (alG l j out2).1 = out2 ++ r ∧ alG l i out = (out ++ r, 0)) ∧ ((alG l j out2).2 ≠ 0 → alG l i out = ([], (alG l j out2).2 - j + i) ∧ j < (alG l j out2).2) := by
    intro l
    induction l with
    | nil => intro i j out out2; exact ⟨fun _ => ⟨[], by simp [alG], by simp [alG]⟩, fun h => absurd rfl h⟩
    | cons w l ih =>
      intro i j out out2
      rw [alG, alG]
      by_cases h : w = []
      · simp only [if_pos h]
        have := ih (i + 1) (j + 1) out out2
        refine ⟨this.1, fun hn => ?_⟩
        obtain ⟨a, b⟩ := this.2 hn
        refine ⟨?_, by omega⟩
        rw [a]
        congr 1
        omega
      · simp only [if_neg h]
        by_cases hb : (rfP w).2 = true
        · simp only [if_pos hb]
          have := ih (i + 1) (j + 1) (out ++ [opOf (rfP w).1]) (out2 ++ [opOf (rfP w).1])
          refine ⟨fun hz => ?_, fun hn => ?_⟩
          · obtain ⟨r, a, b⟩ := this.1 hz
            exact ⟨opOf (rfP w).1 :: r, by rw [a]; simp, by rw [b]; simp⟩
          · obtain ⟨a, b⟩ := this.2 hn
            refine ⟨?_, by omega⟩
            rw [a]
            congr 1
            omega
        · simp only [if_neg hb]
          refine ⟨fun hz => (by simp at hz), fun _ => ⟨?_, by omega⟩⟩
          congr 1
          omega
  intro l i out
  have := gen l i 0 out []
  refine ⟨fun h => ?_, fun h => ?_⟩
  · obtain ⟨r, a, b⟩ := this.1 h
    rw [b, a]; simp
  · obtain ⟨a, b⟩ := this.2 h
    rw [a]; simp
/-- Two lists of lines, one behind the other. -/
theorem alL_append (l1 l2 : List Str) :
    (∀ j, (alL l1).2 = j + 1 → alL (l1 ++ l2) = ([], j + 1)) ∧
    (∀ j, (alL l1).2 = 0 → (alL l2).2 = j + 1 → alL (l1 ++ l2) = ([], (j + l1.length) + 1)) ∧
    ((alL l1).2 = 0 → (alL l2).2 = 0 → alL (l1 ++ l2) = ((alL l1).1 ++ (alL l2).1, 0)) := by
  rw [alL_alG (l1 ++ l2), alG_append, ← alL_alG l1]
  refine ⟨fun j h => ?_, fun j h1 h2 => ?_, fun h1 h2 => ?_⟩
  · rw [if_neg (by omega)]; exact alL_err h
  · rw [if_pos h1]
    have := (alG_shift l2 (0 + l1.length) (alL l1).1).2
    rw [← alL_alG l2] at this
    rw [this (by omega), h2]
    congr 1
    omega
  · rw [if_pos h1]
    have := (alG_shift l2 (0 + l1.length) (alL l1).1).1
    rw [← alL_alG l2] at this
    exact this h2
theorem nth_left {x y : List Op} {i : Nat} (h : i < x.length) : opT.nth (x ++ y) i = opT.nth x i := by
  unfold Ty.nth
  rw [List.getD_eq_getElem?_getD, List.getD_eq_getElem?_getD, List.getElem?_append_left h]
theorem nth_right {x y : List Op} {i : Nat} (h : x.length ≤ i) : opT.nth (x ++ y) i = opT.nth y (i - x.length) := by
  unfold Ty.nth
  rw [List.getD_eq_getElem?_getD, List.getD_eq_getElem?_getD, List.getElem?_append_right h]
theorem ljC (x y : List Op) (hz : OpLs (x ++ y)) : ∀ f i m, i + f = (x ++ y).length → f < m → LpC X0 0 (ntOf X0 FJ) (lpKeep X0 FJ 0) (lpBody X0 FJ 0) 0 m (stJ x y (x ++ y) i) (.exit 0, stJx x y (x ++ y) (x ++ y).length) := by
  obtain ⟨hl, hA⟩ := hz
  have hxy : (x ++ y).length = x.length + y.length := List.length_append
  intro f
  induction f with
  | zero =>
    intro i m hi hm
    obtain rfl : i = (x ++ y).length := by omega
    obtain ⟨m, rfl⟩ : ∃ x, m = x + 1 := ⟨m - 1, by omega⟩
    exact LpC.last (lj3 x y (x ++ y) (x ++ y).length (by omega) hl) (by simp)
  | succ f ih =>
    intro i m hi hm
    obtain ⟨m, rfl⟩ : ∃ x, m = x + 1 := ⟨m - 1, by omega⟩
    obtain ⟨g1, g2, g3⟩ := hA i (by omega)
    by_cases hx : i < x.length
    · exact LpC.next (lj1 x y (x ++ y) i _ _ _ _ _ _ hl (by omega) (by omega) hx rfl (nth_left hx).symm g1 g2 g3) (ih (i + 1) m (by omega) (by omega))
    · exact LpC.next (lj2 x y (x ++ y) i _ _ _ _ _ _ hl (by omega) (by omega) (by omega) _ rfl (by omega) rfl (nth_right (by omega)).symm g1 g2 g3) (ih (i + 1) m (by omega) (by omega))
def ljL_T : Prop := ∀ (x y z : List Op) (ez : x ++ y = z) (hz : OpLs z), Lp X0 0 (ntOf X0 FJ) (lpKeep X0 FJ 0) (lpBody X0 FJ 0) 0 FUEL (stJ x y z 0) (.exit 0, stJx x y z z.length)
theorem ljL : ljL_T := fun x y z ez hz => by
  subst ez
  have := hz.1
  exact LpC.start (m := 1152921504606846975) (ljC x y hz (x ++ y).length 0 _ (by omega) (by omega)) (by kernel_rfl)
def addNl_T : Prop := ∀ (a t : Str) (ha : a.length ≤ 1000000) (e : a ++ [10] = t), binV X0 .add 9 (.d (.str a)) (.d (.str [10])) = some (.d (.str t))
theorem addNl : addNl_T := fun a t ha e => by subst e; exact strAdd a [10] (by omega) (by simp)
def addE_T : Prop := ∀ (a b t : Str) (ha : a.length ≤ 1000000) (hb : b.length ≤ 1000000) (e : a ++ b = t), binV X0 .add 9 (.d (.str a)) (.d (.str b)) = some (.d (.str t))
theorem addE : addE_T := fun a b t ha hb e => by subst e; exact strAdd a b (by omega) (by omega)
def jBigA_T : Prop := ∀ (a b : Str) (h : 500 < a.length), Ans X0 FJ [.d (.str a), .d (.str b)] (.d (.bool true))
def jBigB_T : Prop := ∀ (a b : Str) (h : a.length ≤ 500) (h2 : 500 < b.length), Ans X0 FJ [.d (.str a), .d (.str b)] (.d (.bool true))
def jA_T : Prop := ∀ (a b t s : Str) (l1 l2 l3 : List Str) (y : List Op) (j m : Nat) (h : a.length ≤ 500) (h2 : b.length ≤ 500) (et : a ++ [10] = t) (es : t ++ b = s) (ht : t.length ≤ 501) (hs : s.length ≤ 1001) (p1 : pieces 10 a = l1) (p2 : pieces 10 b = l2) (p3 : pieces 10 s = l3) (s1 : Short l1) (s2 : Short l2) (s3 : Short l3)
  (e1 : alL l1 = ([], j + 1)) (e2 : alL l2 = ([], m + 1)) (e3 : alL l3 = ([], j + 1)), Ans X0 FJ [.d (.str a), .d (.str b)] (.d (.bool true))
def jB_T : Prop := ∀ (a b t s : Str) (l1 l2 l3 : List Str) (y : List Op) (j : Nat) (h : a.length ≤ 500) (h2 : b.length ≤ 500) (et : a ++ [10] = t) (es : t ++ b = s) (ht : t.length ≤ 501) (hs : s.length ≤ 1001) (p1 : pieces 10 a = l1) (p2 : pieces 10 b = l2) (p3 : pieces 10 s = l3) (s1 : Short l1) (s2 : Short l2) (s3 : Short l3)
  (e1 : alL l1 = ([], j + 1)) (e2 : alL l2 = (y, 0)) (e3 : alL l3 = ([], j + 1)), Ans X0 FJ [.d (.str a), .d (.str b)] (.d (.bool true))
def jC_T : Prop := ∀ (a b t s : Str) (l1 l2 l3 : List Str) (x : List Op) (m k : Nat) (h : a.length ≤ 500) (h2 : b.length ≤ 500) (et : a ++ [10] = t) (es : t ++ b = s) (ht : t.length ≤ 501) (hs : s.length ≤ 1001) (p1 : pieces 10 a = l1) (p2 : pieces 10 b = l2) (p3 : pieces 10 s = l3) (s1 : Short l1) (s2 : Short l2) (s3 : Short l3)
  (e1 : alL l1 = (x, 0)) (e2 : alL l2 = ([], m + 1)) (e3 : alL l3 = ([], k + 1)) (hk : k = m + l1.length) (hm : m ≤ 1000000) (hl : l1.length ≤ 1000000), Ans X0 FJ [.d (.str a), .d (.str b)] (.d (.bool true))
def jD_T : Prop := ∀ (a b t s : Str) (l1 l2 l3 : List Str) (x y z : List Op) (h : a.length ≤ 500) (h2 : b.length ≤ 500) (et : a ++ [10] = t) (es : t ++ b = s) (ht : t.length ≤ 501) (hs : s.length ≤ 1001) (p1 : pieces 10 a = l1) (p2 : pieces 10 b = l2) (p3 : pieces 10 s = l3) (s1 : Short l1) (s2 : Short l2) (s3 : Short l3)
  (e1 : alL l1 = (x, 0)) (e2 : alL l2 = (y, 0)) (e3 : alL l3 = (z, 0)) (ez : x ++ y = z) (hz : OpLs z) (hc : z.length = x.length + y.length) (hx : x.length ≤ 1000000) (hy : y.length ≤ 1000000), Ans X0 FJ [.d (.str a), .d (.str b)] (.d (.bool true))
end Go.Proofs.YtgiahagbmgnmkaaDoor.Script
/- Script: paths, printed by a program of mine. -/
set_option maxRecDepth 100000
set_option linter.unusedSimpArgs false
set_option linter.unusedVariables false
namespace Go.Proofs.YtgiahagbmgnmkaaDoor.Script
open Go Pv G
set_option maxHeartbeats 4000000 in
theorem jBigA : jBigA_T := by
  intro a b h
  have hx0 : (decide ((↑(ByteArray.size { data := (List.toArray a) }) : Int) > (500 : Int))) = true := by (first | assumption | (((try simp only [SA] at *); (try simp (disch := omega) only [SB, reduceCtorEq] at *)) <;> first | omega | assumption | (refine ⟨?_, ?_⟩ <;> assumption) | (refine ⟨?_, ?_, ?_⟩ <;> assumption) | (intros; assumption) | (right; right; assumption) | (right; left; assumption) | (left; assumption)))
  exact pV 12 [(2, bt), (3, bt), (4, bt), (5, bt), (7, .v (V.d (D.bool true)))] (cC (@edits ) (cP hx0 (cP hx0 (cP hx0 (cP hx0 nilE))))) (by kernel_rfl) rfl rfl
set_option maxHeartbeats 4000000 in
theorem jBigB : jBigB_T := by
  intro a b h h2
  have hx0 : (decide ((↑(ByteArray.size { data := (List.toArray a) }) : Int) > (500 : Int))) = false := by (first | assumption | (((try simp only [SA] at *); (try simp (disch := omega) only [SB, reduceCtorEq] at *)) <;> first | omega | assumption | (refine ⟨?_, ?_⟩ <;> assumption) | (refine ⟨?_, ?_, ?_⟩ <;> assumption) | (intros; assumption) | (right; right; assumption) | (right; left; assumption) | (left; assumption)))
  have hx1 : (decide ((↑(ByteArray.size { data := (List.toArray b) }) : Int) > (500 : Int))) = true := by (first | assumption | (((try simp only [SA] at *); (try simp (disch := omega) only [SB, reduceCtorEq] at *)) <;> first | omega | assumption | (refine ⟨?_, ?_⟩ <;> assumption) | (refine ⟨?_, ?_, ?_⟩ <;> assumption) | (intros; assumption) | (right; right; assumption) | (right; left; assumption) | (left; assumption)))
  exact pV 12 [(2, bf), (3, bf), (5, bf), (7, bf), (8, bt), (9, .v (V.d (D.bool true)))] (cC (@edits ) (cP hx1 (cP hx0 (cP hx0 (cP hx0 (cP hx0 nilE)))))) (by kernel_rfl) rfl rfl
set_option maxHeartbeats 4000000 in
theorem jA : jA_T := by
  intro a b t s l1 l2 l3 y j m h h2 et es ht hs p1 p2 p3 s1 s2 s3 e1 e2 e3
  have hx0 : (decide ((↑(ByteArray.size { data := (List.toArray a) }) : Int) > (500 : Int))) = false := by (first | assumption | (((try simp only [SA] at *); (try simp (disch := omega) only [SB, reduceCtorEq] at *)) <;> first | omega | assumption | (refine ⟨?_, ?_⟩ <;> assumption) | (refine ⟨?_, ?_, ?_⟩ <;> assumption) | (intros; assumption) | (right; right; assumption) | (right; left; assumption) | (left; assumption)))
  have hx1 : (decide ((↑(ByteArray.size { data := (List.toArray b) }) : Int) > (500 : Int))) = false := by (first | assumption | (((try simp only [SA] at *); (try simp (disch := omega) only [SB, reduceCtorEq] at *)) <;> first | omega | assumption | (refine ⟨?_, ?_⟩ <;> assumption) | (refine ⟨?_, ?_, ?_⟩ <;> assumption) | (intros; assumption) | (right; right; assumption) | (right; left; assumption) | (left; assumption)))
  have hx2 : (((↑j : Int) + (1 : Int)) == ((↑j : Int) + (1 : Int))) = true := by exact decide_eq_true (by omega)
  exact pV 12 [(2, bf), (3, bf), (5, bf), (7, bf), (8, bf), (9, .v (V.d (D.tup [(Ty.slD opT []), (D.int IntKind.i64 ((↑j : Int) + (1 : Int)))]))), (10, .v (V.d (D.tup [(Ty.slD opT []), (D.int IntKind.i64 ((↑m : Int) + (1 : Int)))]))), (11, .v (V.d (D.str t))), (12, .v (V.d (D.str s))), (13, .v (V.d (D.tup [(Ty.slD opT []), (D.int IntKind.i64 ((↑j : Int) + (1 : Int)))]))), (17, bt), (18, bt), (20, bt), (22, bt), (24, .v (V.d (D.bool true)))] (cC (@edits ) (cP hx2 (cP hx2 (cP hx2 (cP hx2 (cC (@allErrE (s) (l3) (j) (by omega) p3 s3 e3) (cP (@addE (t) (b) (s) (by omega) (by omega) es) (cP (@addNl (a) (t) (by omega) et) (cC (@allErrE (b) (l2) (m) (by omega) p2 s2 e2) (cC (@allErrE (a) (l1) (j) (by omega) p1 s1 e1) (cP hx1 (cP hx0 (cP hx0 (cP hx0 (cP hx0 nilE))))))))))))))) (by kernel_rfl) rfl rfl
set_option maxHeartbeats 4000000 in
theorem jB : jB_T := by
  intro a b t s l1 l2 l3 y j h h2 et es ht hs p1 p2 p3 s1 s2 s3 e1 e2 e3
  have hx0 : (decide ((↑(ByteArray.size { data := (List.toArray a) }) : Int) > (500 : Int))) = false := by (first | assumption | (((try simp only [SA] at *); (try simp (disch := omega) only [SB, reduceCtorEq] at *)) <;> first | omega | assumption | (refine ⟨?_, ?_⟩ <;> assumption) | (refine ⟨?_, ?_, ?_⟩ <;> assumption) | (intros; assumption) | (right; right; assumption) | (right; left; assumption) | (left; assumption)))
  have hx1 : (decide ((↑(ByteArray.size { data := (List.toArray b) }) : Int) > (500 : Int))) = false := by (first | assumption | (((try simp only [SA] at *); (try simp (disch := omega) only [SB, reduceCtorEq] at *)) <;> first | omega | assumption | (refine ⟨?_, ?_⟩ <;> assumption) | (refine ⟨?_, ?_, ?_⟩ <;> assumption) | (intros; assumption) | (right; right; assumption) | (right; left; assumption) | (left; assumption)))
  have hx2 : (((↑j : Int) + (1 : Int)) == ((↑j : Int) + (1 : Int))) = true := by exact decide_eq_true (by omega)
  exact pV 12 [(2, bf), (3, bf), (5, bf), (7, bf), (8, bf), (9, .v (V.d (D.tup [(Ty.slD opT []), (D.int IntKind.i64 ((↑j : Int) + (1 : Int)))]))), (10, .v (V.d (D.tup [(Ty.slD opT y), (D.int IntKind.i64 (0 : Int))]))), (11, .v (V.d (D.str t))), (12, .v (V.d (D.str s))), (13, .v (V.d (D.tup [(Ty.slD opT []), (D.int IntKind.i64 ((↑j : Int) + (1 : Int)))]))), (17, bt), (18, bt), (20, bt), (22, bt), (24, .v (V.d (D.bool true)))] (cC (@edits ) (cP hx2 (cP hx2 (cP hx2 (cP hx2 (cC (@allErrE (s) (l3) (j) (by omega) p3 s3 e3) (cP (@addE (t) (b) (s) (by omega) (by omega) es) (cP (@addNl (a) (t) (by omega) et) (cC (@allOkE (b) (l2) (y) (by omega) p2 s2 e2) (cC (@allErrE (a) (l1) (j) (by omega) p1 s1 e1) (cP hx1 (cP hx0 (cP hx0 (cP hx0 (cP hx0 nilE))))))))))))))) (by kernel_rfl) rfl rfl
set_option maxHeartbeats 4000000 in
theorem jC : jC_T := by
  intro a b t s l1 l2 l3 x m k h h2 et es ht hs p1 p2 p3 s1 s2 s3 e1 e2 e3 hk hm hl
  have hx0 : (decide ((↑(ByteArray.size { data := (List.toArray a) }) : Int) > (500 : Int))) = false := by (first | assumption | (((try simp only [SA] at *); (try simp (disch := omega) only [SB, reduceCtorEq] at *)) <;> first | omega | assumption | (refine ⟨?_, ?_⟩ <;> assumption) | (refine ⟨?_, ?_, ?_⟩ <;> assumption) | (intros; assumption) | (right; right; assumption) | (right; left; assumption) | (left; assumption)))
  have hx1 : (decide ((↑(ByteArray.size { data := (List.toArray b) }) : Int) > (500 : Int))) = false := by (first | assumption | (((try simp only [SA] at *); (try simp (disch := omega) only [SB, reduceCtorEq] at *)) <;> first | omega | assumption | (refine ⟨?_, ?_⟩ <;> assumption) | (refine ⟨?_, ?_, ?_⟩ <;> assumption) | (intros; assumption) | (right; right; assumption) | (right; left; assumption) | (left; assumption)))
  have hx2 : (((↑k : Int) + (1 : Int)) == (IntKind.wrap IntKind.i64 (((↑m : Int) + (1 : Int)) + (↑(List.length l1) : Int)))) = true := by (first | assumption | (((try simp only [SA] at *); (try simp (disch := omega) only [SB, reduceCtorEq] at *)) <;> first | omega | assumption | (refine ⟨?_, ?_⟩ <;> assumption) | (refine ⟨?_, ?_, ?_⟩ <;> assumption) | (intros; assumption) | (right; right; assumption) | (right; left; assumption) | (left; assumption)))
  exact pV 12 [(2, bf), (3, bf), (5, bf), (7, bf), (8, bf), (9, .v (V.d (D.tup [(Ty.slD opT x), (D.int IntKind.i64 (0 : Int))]))), (10, .v (V.d (D.tup [(Ty.slD opT []), (D.int IntKind.i64 ((↑m : Int) + (1 : Int)))]))), (11, .v (V.d (D.str t))), (12, .v (V.d (D.str s))), (13, .v (V.d (D.tup [(Ty.slD opT []), (D.int IntKind.i64 ((↑k : Int) + (1 : Int)))]))), (18, .v (V.d (strsD l1))), (22, bt), (23, bt), (25, bt), (27, bt), (29, .v (V.d (D.bool true)))] (cC (@edits ) (cP hx2 (cP hx2 (cP hx2 (cP hx2 (cC (@linesE (a) (l1) (by omega) p1) (cC (@allErrE (s) (l3) (k) (by omega) p3 s3 e3) (cP (@addE (t) (b) (s) (by omega) (by omega) es) (cP (@addNl (a) (t) (by omega) et) (cC (@allErrE (b) (l2) (m) (by omega) p2 s2 e2) (cC (@allOkE (a) (l1) (x) (by omega) p1 s1 e1) (cP hx1 (cP hx0 (cP hx0 (cP hx0 (cP hx0 nilE)))))))))))))))) (by kernel_rfl) rfl rfl
set_option maxHeartbeats 4000000 in
theorem jD : jD_T := by
  intro a b t s l1 l2 l3 x y z h h2 et es ht hs p1 p2 p3 s1 s2 s3 e1 e2 e3 ez hz hc hx hy
  have hx0 : (decide ((↑(ByteArray.size { data := (List.toArray a) }) : Int) > (500 : Int))) = false := by (first | assumption | (((try simp only [SA] at *); (try simp (disch := omega) only [SB, reduceCtorEq] at *)) <;> first | omega | assumption | (refine ⟨?_, ?_⟩ <;> assumption) | (refine ⟨?_, ?_, ?_⟩ <;> assumption) | (intros; assumption) | (right; right; assumption) | (right; left; assumption) | (left; assumption)))
  have hx1 : (decide ((↑(ByteArray.size { data := (List.toArray b) }) : Int) > (500 : Int))) = false := by (first | assumption | (((try simp only [SA] at *); (try simp (disch := omega) only [SB, reduceCtorEq] at *)) <;> first | omega | assumption | (refine ⟨?_, ?_⟩ <;> assumption) | (refine ⟨?_, ?_, ?_⟩ <;> assumption) | (intros; assumption) | (right; right; assumption) | (right; left; assumption) | (left; assumption)))
  have hx2 : ((↑(List.length z) : Int) != (IntKind.wrap IntKind.i64 ((↑(List.length x) : Int) + (↑(List.length y) : Int)))) = false := by (first | assumption | (((try simp only [SA] at *); (try simp (disch := omega) only [SB, reduceCtorEq] at *)) <;> first | omega | assumption | (refine ⟨?_, ?_⟩ <;> assumption) | (refine ⟨?_, ?_, ?_⟩ <;> assumption) | (intros; assumption) | (right; right; assumption) | (right; left; assumption) | (left; assumption)))
  exact pV 12 [(2, bf), (3, bf), (5, bf), (7, bf), (8, bf), (9, .v (V.d (D.tup [(Ty.slD opT x), (D.int IntKind.i64 (0 : Int))]))), (10, .v (V.d (D.tup [(Ty.slD opT y), (D.int IntKind.i64 (0 : Int))]))), (11, .v (V.d (D.str t))), (12, .v (V.d (D.str s))), (13, .v (V.d (D.tup [(Ty.slD opT z), (D.int IntKind.i64 (0 : Int))]))), (33, bf), (35, .l (Ex.exit (0 : Nat)) (stJx x y z (List.length z))), (36, .v (V.d (D.bool true)))] (cC (@edits ) (cE (@ljL (x) (y) (z) ez hz) (cP hx2 (cC (@allOkE (s) (l3) (z) (by omega) p3 s3 e3) (cP (@addE (t) (b) (s) (by omega) (by omega) es) (cP (@addNl (a) (t) (by omega) et) (cC (@allOkE (b) (l2) (y) (by omega) p2 s2 e2) (cC (@allOkE (a) (l1) (x) (by omega) p1 s1 e1) (cP hx1 (cP hx0 (cP hx0 (cP hx0 (cP hx0 nilE))))))))))))) (by kernel_rfl) rfl rfl
end Go.Proofs.YtgiahagbmgnmkaaDoor.Script
/- Script: what the row's list gives: the package-level variables that are known. -/
set_option linter.unusedSimpArgs false
set_option linter.unusedVariables false
namespace Go.Proofs.YtgiahagbmgnmkaaDoor.Script
open Go Pv
theorem strs_of_tab {H : Type} {enc : TypeId × Value → H} {P : Program} {w : World} {base : Nat} {sp : Nat → Bool} {held : Bool} {fuel : Nat} {t e : TypeId} {n : Nat} {cs : List Value} {ss : List (List UInt8)} {p : List MemPlace}
    (ht : P.underlying t = some (.array n e)) (he : P.underlying e = some .string) (hce : P.cellsOf e = 1) (hct : P.cellsOf t = n)
    (h : DataW.trod enc P w base sp held fuel t cs = some (.agg (ss.map fun s => .lit (.string s)), p)) : cs = ss.map fun s => Value.string ⟨s.toArray⟩ := by
  cases fuel with
  | zero => simp [DataW.trod] at h
  | succ fuel =>
    simp only [DataW.trod, ht, hce, hct, Nat.mul_one] at h
    split at h
    · rename_i hl
      obtain ⟨xs, hm, hx⟩ := Option.map_eq_some_iff.1 h
      have hxs : xs.map (·.1) = ss.map fun z => (DataW.lit (.string z) : DataW H) := by
        have := congrArg Prod.fst hx
        simpa using this
      have hxl : xs.length = n := by simpa using Lib.mapM_length hm
      have hzl : ss.length = n := by
        have := congrArg List.length hxs
        simp at this
        omega
      apply List.ext_getElem?
      intro i
      by_cases hi : i < n
      · obtain ⟨b, hb, hf⟩ := Lib.mapM_at hm i i (by simp [hi])
        obtain ⟨z, hc, rfl, _⟩ := DataW.trod_string he hf
        have h1 : cs[i]? = some (.string z) := by
          have := congrArg (·[0]?) hc
          simpa [List.getElem?_take, List.getElem?_drop] using this
        have h2 : (xs.map (·.1))[i]? = some (DataW.lit (.string z.data.toList) : DataW H) := by simp [hb]
        rw [hxs] at h2
        simp only [List.getElem?_map, Option.map_eq_some_iff, DataW.lit.injEq, Lit.string.injEq] at h2
        obtain ⟨z', hz', e'⟩ := h2
        subst e'
        simp [h1, hz']
      · rw [List.getElem?_eq_none (by omega), List.getElem?_eq_none (by simp; omega)]
    · cases h
theorem full_var {P : Program} {W : World} {n : String} {g : Nat} {cs : Array Value} (hg : P.globalNamed n = some g) (h : W.var? P n = some cs) : fullE W g = cs.size := by
  unfold World.var? at h
  rw [hg] at h
  simp only [Option.bind_some] at h
  unfold fullE
  split at h
  · rename_i c _ _ e
    rw [e]
    cases h
    rfl
  · cases h
theorem var_block {P : Program} {W : World} {n : String} {g : Nat} {cs : List Value} (hg : P.globalNamed n = some g) (h : W.var? P n = some cs.toArray) : ∃ T fz, W.heap[g]? = some (.cells ⟨cs⟩ T fz) := by
  unfold World.var? at h
  rw [hg] at h
  simp only [Option.bind_some] at h
  split at h
  · rename_i c T fz e
    cases h
    exact ⟨T, fz, e⟩
  · cases h
theorem topG_own {W : World} {g : Nat} {o : Obj} (h : W.heap[g]? = some o) : (topG W).own g = .fgn := by
  simp only [topG]
  rw [if_pos (Array.getElem?_eq_some_iff.1 h).1]
theorem ptd_strs (w : World) (e : Nat → Nat) (ss : List (List UInt8)) : PtD w e (ss.map fun s => .string ⟨s.toArray⟩) (ss.map D.str) := by
  refine ⟨by simp, fun j v d h1 h2 => ?_⟩
  simp only [List.getElem?_map, Option.map_eq_some_iff] at h1 h2
  obtain ⟨s, hs, rfl⟩ := h1
  obtain ⟨s', hs', rfl⟩ := h2
  rw [hs] at hs'
  cases hs'
  exact .str s
theorem ptd_ints (w : World) (e : Nat → Nat) (k : IntKind) (zs : List Int) : PtD w e (zs.map fun z => .int k z) (zs.map fun z => .int k z) := by
  refine ⟨by simp, fun j v d h1 h2 => ?_⟩
  simp only [List.getElem?_map, Option.map_eq_some_iff] at h1 h2
  obtain ⟨s, hs, rfl⟩ := h1
  obtain ⟨s', hs', rfl⟩ := h2
  rw [hs] at hs'
  cases hs'
  exact .int k s
theorem gPow : Tryd.prog.globalNamed "internal/strconv.uint64pow10" = some 3 := by kernel_rfl
theorem laidFacts {W : World} (h : laidMetH Tryd.prog Rows.scriptNoneRow.laid W) :
    W.var? Tryd.prog "internal/strconv.uint64pow10" = some (Lib.pow10Tab.map fun z => Value.int .u64 z).toArray := by
  have h' : laidMet Tryd.prog Rows.scriptNoneRow.laid W := h
  obtain ⟨ps, ⟨g1, t1, c1, f1, p1, q1, _, _, _, _, ⟨g2, t2, c2, f2, p2, q2, _, _, _, _, ⟨g3, t3, c3, f3, p3, q3, a3, b3, d3, e3, ⟨g4, t4, c4, f4, p4, q4, _, _, _, _, ⟨g5, t5, c5, f5, p5, q5, _, _, _, _, _, _⟩, _⟩, _⟩, _⟩, _⟩, _⟩ := h'
  obtain rfl := Option.some.inj (gPow.symm.trans a3)
  obtain rfl := Option.some.inj ((show (Tryd.prog.globals[3]?).map (·.type) = some 113 by kernel_rfl).symm.trans b3)
  rw [d3]
  have := Lib.cells_of_tab (k := .u64) (zs := Lib.pow10Tab) (n := 20) (e := 103) (by kernel_rfl) (by kernel_rfl) (by kernel_rfl) (by kernel_rfl) e3
  rw [← this]
set_option maxRecDepth 100000 in
theorem maxLenIs {W : World} (h : W.ShapedOpen Tryd.prog) : ∃ z : Int, (∃ T fz, W.heap[0]? = some (.cells ⟨[.int .i64 z]⟩ T fz)) ∧ 1 ≤ fullE W 0 := by
  obtain ⟨cs, e1, e2, e3⟩ := h.1 0 #[.int .i64 0] 3 (of_decide_eq_true (by kernel_rfl)) (by kernel_rfl)
  obtain ⟨ts, k1, _, k3⟩ := e3 (by kernel_rfl)
  have hts : ts = [3] := Option.some.inj (k1.symm.trans (by kernel_rfl))
  have hsz : cs.size = 1 := e2
  have hc : cs[0]? = some cs[0] := Array.getElem?_eq_getElem (by omega)
  obtain ⟨u, hu, hok⟩ := k3 0 cs[0] hc
  rw [hts] at hu
  have hu' : u = 3 := by
    simp only [List.length_singleton, Nat.mod_one, List.getElem?_cons_zero, Option.some.injEq] at hu
    exact hu.symm
  subst hu'
  have hz : ∃ z : Int, cs[0] = .int .i64 z := by
    have hund : Tryd.prog.underlying 3 = some (.int .i64) := by kernel_rfl
    unfold Cell.ok at hok
    rw [hund] at hok
    clear hund h e1 k1 k3 e3
    revert hok
    generalize cs[0] = v
    intro hok
    cases v with
    | int k n => exact ⟨n, by rw [hok.1]⟩
    | _ => exact False.elim hok
  obtain ⟨z, hz⟩ := hz
  refine ⟨z, ?_, ?_⟩
  · refine ⟨3, (0, 0), e1.trans ?_⟩
    have hcs : cs = ⟨[.int .i64 z]⟩ := by
      apply Array.ext'
      apply List.ext_getElem (by simp; omega)
      intro i h1 h2
      simp at h1
      obtain rfl : i = 0 := by omega
      simpa using hz
    rw [hcs]
  · unfold fullE
    rw [e1]
    simp only
    omega
theorem globAll {W : World} (hL : laidMetH Tryd.prog Rows.scriptNoneRow.laid W) (hS : W.ShapedOpen Tryd.prog) : GlobOk X0 W (topG W) := by
  have hP := laidFacts hL
  obtain ⟨z, hz, hz1⟩ := maxLenIs hS
  refine ⟨fun _ => z, fun k cs hk => ?_⟩
  rcases hk with hk | ⟨hk, rfl⟩
  · simp only [X0] at hk
    split at hk
    · rename_i e
      subst e
      cases hk
      obtain ⟨T, fz, hb⟩ := var_block gPow hP
      refine ⟨topG_own hb, _, T, fz, hb, ptd_ints W (topG W).e .u64 Lib.pow10Tab, ?_⟩
      show _ ≤ fullE W _
      rw [full_var gPow hP]
      simp [globPow]
    · cases hk
  · simp only [X0, List.mem_singleton] at hk
    subst hk
    obtain ⟨T, fz, hb⟩ := hz
    exact ⟨topG_own hb, _, T, fz, hb, ptd_ints W (topG W).e .i64 [z], hz1⟩
end Go.Proofs.YtgiahagbmgnmkaaDoor.Script
/- bodkin: the law ScriptJoins, from its run to its card: for every input it returns true and its arguments read as before. -/
set_option linter.unusedSimpArgs false
set_option linter.unusedVariables false
namespace Go.Proofs.YtgiahagbmgnmkaaDoor.scriptJoins
open Go Go.ChangeShapes Go.WideShapes Go.ChangeAt Go.RowKit Pv G
abbrev T0 : Ty := .str
abbrev T1 : Ty := .str
def Law : Prop := ∀ (y0 : T0.ty) (y1 : T1.ty), T0.ok y0 → T1.ok y1 → Ans X0 6 [.d (T0.argD y0), .d (T1.argD y1)] (.d (.bool true))
theorem law : Law := fun y0 y1 ok0 ok1 => by
  show Ans X0 _ [.d (.str y0), .d (.str y1)] _
  by_cases h : y0.length ≤ 500
  · by_cases h2 : y1.length ≤ 500
    · have hl1 : (y0 ++ [10]).length ≤ 501 := by simp; omega
      have hl3 : (y0 ++ [10] ++ y1).length ≤ 1001 := by simp; omega
      have s1 := Script.short_pieces (s := y0) (by omega)
      have s2 := Script.short_pieces (s := y1) (by omega)
      have s3 := Script.short_pieces (s := y0 ++ [10] ++ y1) (by omega)
      have hp : Script.pieces 10 (y0 ++ [10] ++ y1) = Script.pieces 10 y0 ++ Script.pieces 10 y1 := by
        rw [List.append_assoc]; exact Script.pieces_append 10 y1 y0
      have hc1 := List.count_le_length (a := (10 : UInt8)) (l := y0)
      have hc2 := List.count_le_length (a := (10 : UInt8)) (l := y1)
      have hc3 := List.count_le_length (a := (10 : UInt8)) (l := y0 ++ [10] ++ y1)
      have n1 : (Script.pieces 10 y0).length ≤ 501 := by rw [Script.pieces_length]; omega
      have n2 : (Script.pieces 10 y1).length ≤ 501 := by rw [Script.pieces_length]; omega
      have n3 : (Script.pieces 10 (y0 ++ [10] ++ y1)).length ≤ 1002 := by rw [Script.pieces_length]; omega
      obtain ⟨fa, fb, fc⟩ := Script.alL_append (Script.pieces 10 y0) (Script.pieces 10 y1)
      rw [← hp] at fa fb fc
      cases ha : (Script.alL (Script.pieces 10 y0)).2 with
      | succ j =>
        cases hb : (Script.alL (Script.pieces 10 y1)).2 with
        | succ m => exact Script.jA y0 y1 _ _ _ _ _ [] j m h h2 rfl rfl hl1 hl3 rfl rfl rfl s1 s2 s3 (Script.alL_err ha) (Script.alL_err hb) (fa j ha)
        | zero => exact Script.jB y0 y1 _ _ _ _ _ _ j h h2 rfl rfl hl1 hl3 rfl rfl rfl s1 s2 s3 (Script.alL_err ha) (Script.pairE _ 0 hb) (fa j ha)
      | zero =>
        cases hb : (Script.alL (Script.pieces 10 y1)).2 with
        | succ m =>
          have hm : m ≤ 1000000 := by
            have := Script.alL_le (Script.pieces 10 y1)
            omega
          exact Script.jC y0 y1 _ _ _ _ _ _ m _ h h2 rfl rfl hl1 hl3 rfl rfl rfl s1 s2 s3 (Script.pairE _ 0 ha) (Script.alL_err hb) (fb m ha hb) rfl hm (by omega)
        | zero =>
          have hz := Script.alL_ops s3 (by omega)
          have hx := (Script.alL_ops s1 (by omega)).1
          have hy := (Script.alL_ops s2 (by omega)).1
          have e := fc ha hb
          rw [e] at hz
          exact Script.jD y0 y1 _ _ _ _ _ _ _ _ h h2 rfl rfl hl1 hl3 rfl rfl rfl s1 s2 s3 (Script.pairE _ 0 ha) (Script.pairE _ 0 hb) e rfl hz (by rw [List.length_append]) hx hy
    · exact Script.jBigB y0 y1 h (by omega)
  · exact Script.jBigA y0 y1 (by omega)
theorem own : ownKnob Tryd.prog.godebug = none := by kernel_rfl
set_option maxRecDepth 100000 in
theorem contract (H : Type) (enc : TypeId × Value → H) (W : World) (base : Nat) (args : Array Value) (ds gs : List (DataW H)) (before : List MemPlace)
    (hval : ∀ (j : Nat) t v, Tryd.f6.params[j]? = some t → args[j]? = some v → Value.okWide Tryd.prog W .any base t v)
    (hW : DataW.Whole enc Tryd.prog Tryd.f6.params.toList Rows.scriptJoinsSpec.vars false W args.toList ds gs before)
    (hsz : (DataW.weightsEach Tryd.prog (Tryd.f6.params.toList ++ Rows.scriptJoinsSpec.plain.varTypes Tryd.prog) (ds ++ gs)).all (· ≤ reachBytes) = true)
    (hL : laidMetH Tryd.prog Rows.scriptJoinsRow.laid W) (hS : W.ShapedOpen Tryd.prog) :
    Calls Tryd.prog 6 args W fun e W' => ∃ v, e = .returned v ∧ Rows.scriptJoinsSpec.post enc Tryd.prog Tryd.f6 false true false false W args v W' := by
  have hW' := hW
  have hlt := hW.lt
  obtain ⟨p, q, hA0, hV, rfl, hfz, hnd⟩ := hW
  have hA : DataW.TrodAll enc Tryd.prog W 0 (fun _ => true) true Tryd.f6.params.toList args.toList ds p := hA0
  rw [Tryd.params6] at hA hval hsz
  obtain ⟨v0, vs0, d0, ds0, p0, q0, hargs, rfl, rfl, h0, r0⟩ := trodAll_cons hA
  obtain ⟨v1, vs1, d1, ds1, p1, q1, rfl, rfl, rfl, h1, r1⟩ := trodAll_cons r0
  obtain ⟨rfl, rfl, rfl⟩ := trodAll_nil r1
  obtain rfl : args = #[v0, v1] := by cases args; simp_all
  obtain ⟨rfl, rfl⟩ := trodVars_none hV
  obtain ⟨y0, o0, e0⟩ := open_arg (T := T0) (by kernel_rfl) (hval 0 _ v0 rfl rfl) h0 (fun n hn => of_decide_eq_true (List.all_eq_true.1 hsz n (DataW.weights_mem_each (j := 0) rfl rfl n hn)))
  obtain ⟨y1, o1, e1⟩ := open_arg (T := T1) (by kernel_rfl) (hval 1 _ v1 rfl rfl) h1 (fun n hn => of_decide_eq_true (List.all_eq_true.1 hsz n (DataW.weights_mem_each (j := 1) rfl rfl n hn)))
  obtain ⟨K, hK⟩ := law y0 y1 o0 o1
  have run := hK K (Nat.le_refl K)
  have hp : PtV X0 W (topG W) [v0, v1] [.d (T0.argD y0), .d (T1.argD y1)] := by
    refine ⟨rfl, fun j v x k1 k2 => ?_⟩
    match j with
    | 0 => simp at k1 k2; subst k1; subst k2; exact e0 _ _
    | 1 => simp at k1 k2; subst k1; subst k2; exact e1 _ _
    | j + 2 => simp at k1
  clear hA0
  simp only [List.append_nil] at hW'
  refine (law_calls run rfl (Script.globAll hL hS) hp).mono fun e W' ⟨he, hb⟩ => ?_
  subst he
  exact ⟨_, rfl, post_of_below (pa := _) (pv := []) hW' (fun _ _ _ => trodAll_cons_mk (shut_bool Tryd.underlying4 _) trodAll_mk0)
    (fun sp hsp => (trodAll_cons_mk (WideElems.Trod_stays (by kernel_rfl) (by kernel_rfl) (of_decide_eq_true (by kernel_rfl)) h0 (fun x hx => hb.same (hlt x (by simp [hx]))) (fun x hx => hsp x (by simp [hx]))) (trodAll_cons_mk (WideElems.Trod_stays (by kernel_rfl) (by kernel_rfl) (of_decide_eq_true (by kernel_rfl)) h1 (fun x hx => hb.same (hlt x (by simp [hx]))) (fun x hx => hsp x (by simp [hx]))) trodAll_mk0)))
    (fun _ _ => rfl) (by simp) hb (ok_one (by kernel_rfl) rfl (okWide_bool_mk Tryd.underlying4 _))⟩

/-- A datum's cells. -/
def flatW : Nat → DataW Unit → List Value
  | _, .lit (.int k n) => [.int k n]
  | _, .lit (.string s) => [.string ⟨s.toArray⟩]
  | f + 1, .agg ds => ds.flatMap (flatW f)
  | _, _ => []
/-- A variable's cells, laid. -/
def layAt (h : Array Obj) (g : Option Nat) (cs : Array Value) : Array Obj :=
  match g with
  | some g => h.modify g (fun o => match o with
    | .cells _ t frozen => .cells cs t frozen
    | o => o)
  | none => h
/-- A world for the witness: each listed variable holds what is listed. -/
noncomputable def laidWorld (os : Os) : World :=
  { World.holding Tryd.prog os ⟨#[], #[], []⟩ with heap := Rows.scriptJoinsRow.laid.foldl (fun h x => layAt h (Tryd.prog.globalNamed x.1) (flatW 3 x.2).toArray) (World.holding Tryd.prog os ⟨#[], #[], []⟩).heap }
abbrev argW : Array Value := #[.string ⟨#[]⟩, .string ⟨#[]⟩]
theorem laid_met (os : Os) : laidMet Tryd.prog Rows.scriptJoinsRow.laid ((laidWorld os).forCall (fun _ _ => 0) ⟨#[], argW, []⟩).memory :=
  laidMet_of_run3 8 (by kernel_rfl) (by kernel_rfl) (by kernel_rfl)
theorem reads (os : Os) {H : Type} (enc : TypeId × Value → H) : ∃ places, DataW.whole enc Tryd.prog ((laidWorld os).forCall (fun _ _ => 0) ⟨#[], argW, []⟩).memory Tryd.f6.params.toList Rows.scriptJoinsSpec.vars false argW.toList 8 = some ([.lit (.string []), .lit (.string [])], [], places) :=
  ⟨[], by kernel_rfl⟩
set_option maxRecDepth 100000 in
theorem lifted (os : Os) (started : os.Started) (H : Type) (enc : TypeId × Value → H) (F : Stop.Interp) :
    ReturnsInHanded {} Tryd.checked os 6 .any ((OpenSpec.ofChange Rows.scriptJoinsSpec).preRow enc Tryd.prog Tryd.f6 Rows.scriptJoinsRow.domain false Rows.scriptJoinsRow.laid) (((OpenSpec.ofChange Rows.scriptJoinsSpec).at F).post enc Tryd.prog Tryd.f6 false true false false) := by
  obtain ⟨places, hx⟩ := reads os enc
  refine returnsInHanded_of_row (C := Tryd.checked) (s := OpenSpec.ofChange Rows.scriptJoinsSpec) own started (by kernel_rfl) Tryd.func6
    (witness_row_at (enc := enc) (C := Tryd.checked) false (laidWorld os) argW rfl (by kernel_rfl) (by kernel_rfl) (by kernel_rfl)
      (OpenSpec.preRow_of_cond 8 hx (by kernel_rfl) (fun k hk => by cases hk) (by kernel_rfl) (laid_met os))) ?_
  intro W base args ds gs before hval hW _ _ hsz hL hS _
  exact contract H enc W base args ds gs before hval hW hsz hL hS
theorem said : Rows.ScriptJoinsSaid :=
  OpenClaim.holds_of_cond 6 Tryd.f6 rfl rfl rfl rfl rfl rfl rfl ⟨rfl, rfl, rfl, rfl, rfl⟩ rfl rfl rfl rfl rfl (by kernel_rfl) Tryd.func6 (by kernel_rfl)
    (of_decide_eq_true (by kernel_rfl)) (by unfold Func.isWrapper; first | (rw [if_pos (by decide +kernel)]; kernel_rfl) | (rw [if_neg (by decide +kernel)]; exact ⟨rfl, rfl⟩))
    (fun os started H enc _ F => by rw [OpenClaim.pre_eq_preRow]; exact lifted os started H enc F)
theorem plain (f : FuncId) (fn : Func) (hf : Tryd.pinned.checked.prog.funcNamed "bodkin/bodkinlaw35.ScriptJoins" = some f) (hfn : Tryd.pinned.checked.prog.funcs[f]? = some fn) :
    false = Tryd.pinned.checked.prog.looks [] ∧ ∀ (j : Nat) t, fn.params[j]? = some t → Tryd.pinned.checked.prog.wantsStandIn t = false := by
  obtain rfl : f = 6 := Option.some.inj ((show Tryd.prog.funcNamed "bodkin/bodkinlaw35.ScriptJoins" = some 6 by kernel_rfl).symm.trans hf) |>.symm
  obtain rfl : fn = Tryd.f6 := (Option.some.inj (Tryd.func6.symm.trans hfn)).symm
  refine ⟨by kernel_rfl, fun j t ht => ?_⟩
  rw [Tryd.params6] at ht
  have hm := Array.mem_of_getElem? ht
  simp at hm
  subst hm
  exact (show Tryd.prog.wantsStandIn 9 = false by kernel_rfl)
/-- ScriptJoins: for every input it returns true. -/
theorem holds : Rows.ScriptJoinsCardSaid :=
  Claim7.holds_tied_plain_at .later [] _ _ _ _ said (fun _ h => by cases h) (by kernel_rfl) (fun _ h => by cases h) scriptJoins_row_tie rfl ⟨rfl, rfl⟩ (by kernel_rfl) rfl plain (by kernel_rfl)
end Go.Proofs.YtgiahagbmgnmkaaDoor.scriptJoins
