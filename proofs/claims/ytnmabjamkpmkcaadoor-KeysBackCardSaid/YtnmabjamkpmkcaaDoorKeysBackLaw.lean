/- bodkin: the law KeysBack, from its run to its card: for every input it returns true and its arguments read as before. -/
import Derived.Test.YtnmabjamkpmkcaaDoorShelf
import Derived.Test.YtnmabjamkpmkcaaDoorChecked
import Derived.Shelf.Strings.Builder1
import Derived.WalkKit
import Derived.BigCall
import Derived.Deep.LoopGhost
import Derived.Below
import Derived.Test.YtnmabjamkpmkcaaDoorRows
import Derived.Lib.LaidTab
import Derived.FnData
import Derived.Test.YtnmabjamkpmkcaaDoorCards
import Derived.Test.YtnmabjamkpmkcaaDoorTie
import Derived.ProofKit
import Derived.OpenShut
import Derived.JoinedCond
import Derived.Carry
import Derived.SizedLaws
import Derived.Deep.DeepHandedRow
import Derived.Deep.DeepLaidRun
import Derived.Test.YtnmabjamkpmkcaaDoorMKeysBackLaw4
/- Keys: paths, printed by a program of mine. -/
set_option maxRecDepth 100000
set_option linter.unusedSimpArgs false
set_option linter.unusedVariables false
namespace Go.Proofs.YtnmabjamkpmkcaaDoor.Keys
open Go Pv G
set_option maxHeartbeats 4000000 in
theorem told0 : told0_T := by
  intro s hs h2
  exact pV 12 [(0, .v (V.d (D.str (subst1 (92 : UInt8) [(92 : UInt8), (92 : UInt8)] s)))), (1, .v (V.d (D.str (subst1 (10 : UInt8) [(92 : UInt8), (110 : UInt8)] (subst1 (92 : UInt8) [(92 : UInt8), (92 : UInt8)] s)))))] (cC (@repM (subst1 (92 : UInt8) [(92 : UInt8), (92 : UInt8)] s) (by (first | assumption | (((try simp only [SA] at *); (try simp (disch := omega) only [SB, reduceCtorEq] at *)) <;> first | omega | assumption | (refine ⟨?_, ?_⟩ <;> assumption))))) (cC (@repN (s) (by (first | assumption | (((try simp only [SA] at *); (try simp (disch := omega) only [SB, reduceCtorEq] at *)) <;> first | omega | assumption | (refine ⟨?_, ?_⟩ <;> assumption))))) nilE)) (by kernel_rfl) rfl rfl
theorem toldR : toldR_T := fun s hs => told0 s hs (by
  have := subst1_len 92 [92, 92] 2 (by simp) (by omega) s
  omega)
set_option maxHeartbeats 4000000 in
theorem ln0a : ln0a_T := by
  intro w n t h
  have h0 : (decide (w < (1 : Int))) = true := by (first | assumption | (((try simp only [SA] at *); (try simp (disch := omega) only [SB, reduceCtorEq] at *)) <;> first | omega | assumption | (refine ⟨?_, ?_⟩ <;> assumption)))
  exact pV 12 [(2, bt), (3, bt), (4, bt), (5, bt)] (cP h0 (cP h0 (cP h0 (cP h0 nilE)))) (by kernel_rfl) rfl rfl
set_option maxHeartbeats 4000000 in
theorem ln0b : ln0b_T := by
  intro w n t h
  have h0 : (decide (w < (1 : Int))) = false := by (first | assumption | (((try simp only [SA] at *); (try simp (disch := omega) only [SB, reduceCtorEq] at *)) <;> first | omega | assumption | (refine ⟨?_, ?_⟩ <;> assumption)))
  have h1 : (decide (w ≥ (11 : Int))) = true := by (first | assumption | (((try simp only [SA] at *); (try simp (disch := omega) only [SB, reduceCtorEq] at *)) <;> first | omega | assumption | (refine ⟨?_, ?_⟩ <;> assumption)))
  exact pV 12 [(2, bf), (3, bf), (5, bf), (7, bf), (8, bt)] (cP h1 (cP h0 (cP h0 (cP h0 (cP h0 nilE))))) (by kernel_rfl) rfl rfl
set_option maxHeartbeats 4000000 in
theorem lnT1 : lnT1_T := by
  intro w n t hw ht g2 g3 g4 g5 hn ho e1 e2 e3
  have h0 : (decide (w < (1 : Int))) = false := by (first | assumption | (((try simp only [SA] at *); (try simp (disch := omega) only [SB, reduceCtorEq] at *)) <;> first | omega | assumption | (refine ⟨?_, ?_⟩ <;> assumption) | (refine ⟨?_, ?_, ?_⟩ <;> assumption) | (intros; assumption) | (right; right; assumption) | (right; left; assumption) | (left; assumption)))
  have h1 : (decide (w ≥ (11 : Int))) = false := by (first | assumption | (((try simp only [SA] at *); (try simp (disch := omega) only [SB, reduceCtorEq] at *)) <;> first | omega | assumption | (refine ⟨?_, ?_⟩ <;> assumption) | (refine ⟨?_, ?_, ?_⟩ <;> assumption) | (intros; assumption) | (right; right; assumption) | (right; left; assumption) | (left; assumption)))
  have h2 : (w == (1 : Int)) = true := by (first | assumption | (((try simp only [SA] at *); (try simp (disch := omega) only [SB, reduceCtorEq] at *)) <;> first | omega | assumption | (refine ⟨?_, ?_⟩ <;> assumption) | (refine ⟨?_, ?_, ?_⟩ <;> assumption) | (intros; assumption) | (right; right; assumption) | (right; left; assumption) | (left; assumption)))
  have h3 : (!(((refW ((nameW w) ++ (sp (tell t)))) == w) && (((refN ((nameW w) ++ (sp (tell t)))) == n) && (((refT ((nameW w) ++ (sp (tell t)))) == t) && true)))) = false := by (first | assumption | (((try simp only [SA] at *); (try simp (disch := omega) only [SB, reduceCtorEq] at *)) <;> first | omega | assumption | (refine ⟨?_, ?_⟩ <;> assumption) | (refine ⟨?_, ?_, ?_⟩ <;> assumption) | (intros; assumption) | (right; right; assumption) | (right; left; assumption) | (left; assumption)))
  exact pV 12 [(2, bf), (3, bf), (5, bf), (7, bf), (8, bf), (10, .v (V.d (D.ref globNames ((0 : Nat) + ((Int.toNat w) * (1 : Nat)))))), (11, .v (V.d (D.str (nameW w)))), (14, bt), (16, .v (V.d (D.str (tell t)))), (17, .v (V.d (D.str (sp (tell t))))), (18, .v (V.d (D.str ((nameW w) ++ (sp (tell t)))))), (19, .v (V.d (D.tup [(D.agg [(D.int IntKind.i64 (refW ((nameW w) ++ (sp (tell t))))), (D.int IntKind.i64 (refN ((nameW w) ++ (sp (tell t))))), (D.str (refT ((nameW w) ++ (sp (tell t)))))]), (D.int IntKind.i64 (0 : Int))]))), (28, bf)] (cP h3 (cC (@parseYes ((nameW w) ++ (sp (tell t))) g5 hn ho) (cP (@strAdd (nameW w) (sp (tell t)) (by (first | assumption | (((try simp only [SA] at *); (try simp (disch := omega) only [SB, reduceCtorEq] at *)) <;> first | omega | assumption | (refine ⟨?_, ?_⟩ <;> assumption) | (refine ⟨?_, ?_, ?_⟩ <;> assumption) | (intros; assumption) | (right; right; assumption) | (right; left; assumption) | (left; assumption)))) (by (first | assumption | (((try simp only [SA] at *); (try simp (disch := omega) only [SB, reduceCtorEq] at *)) <;> first | omega | assumption | (refine ⟨?_, ?_⟩ <;> assumption) | (refine ⟨?_, ?_, ?_⟩ <;> assumption) | (intros; assumption) | (right; right; assumption) | (right; left; assumption) | (left; assumption))))) (cP (@strSp (tell t) (by (first | assumption | (((try simp only [SA] at *); (try simp (disch := omega) only [SB, reduceCtorEq] at *)) <;> first | omega | assumption | (refine ⟨?_, ?_⟩ <;> assumption) | (refine ⟨?_, ?_, ?_⟩ <;> assumption) | (intros; assumption) | (right; right; assumption) | (right; left; assumption) | (left; assumption))))) (cC (@toldR (t) ht) (cP h2 (cP (@loadName (w) ([(Ob.cells [(V.d (D.int IntKind.i64 w)), (V.d (D.int IntKind.i64 n)), (V.d (D.str t))])]) (by (first | assumption | (((try simp only [SA] at *); (try simp (disch := omega) only [SB, reduceCtorEq] at *)) <;> first | omega | assumption | (refine ⟨?_, ?_⟩ <;> assumption) | (refine ⟨?_, ?_, ?_⟩ <;> assumption) | (intros; assumption) | (right; right; assumption) | (right; left; assumption) | (left; assumption)))) (by (first | assumption | (((try simp only [SA] at *); (try simp (disch := omega) only [SB, reduceCtorEq] at *)) <;> first | omega | assumption | (refine ⟨?_, ?_⟩ <;> assumption) | (refine ⟨?_, ?_, ?_⟩ <;> assumption) | (intros; assumption) | (right; right; assumption) | (right; left; assumption) | (left; assumption))))) (cP (@iaddrName (w) (by (first | assumption | (((try simp only [SA] at *); (try simp (disch := omega) only [SB, reduceCtorEq] at *)) <;> first | omega | assumption | (refine ⟨?_, ?_⟩ <;> assumption) | (refine ⟨?_, ?_, ?_⟩ <;> assumption) | (intros; assumption) | (right; right; assumption) | (right; left; assumption) | (left; assumption)))) (by (first | assumption | (((try simp only [SA] at *); (try simp (disch := omega) only [SB, reduceCtorEq] at *)) <;> first | omega | assumption | (refine ⟨?_, ?_⟩ <;> assumption) | (refine ⟨?_, ?_, ?_⟩ <;> assumption) | (intros; assumption) | (right; right; assumption) | (right; left; assumption) | (left; assumption))))) (cP h1 (cP h0 (cP h0 (cP h0 (cP h0 nilE))))))))))))) (by kernel_rfl) rfl rfl
set_option maxHeartbeats 4000000 in
theorem lnT2 : lnT2_T := by
  intro w n t hw ht g2 g3 g4 g5 hn ho e1 e2
  have h0 : (decide (w < (1 : Int))) = false := by (first | assumption | (((try simp only [SA] at *); (try simp (disch := omega) only [SB, reduceCtorEq] at *)) <;> first | omega | assumption | (refine ⟨?_, ?_⟩ <;> assumption) | (refine ⟨?_, ?_, ?_⟩ <;> assumption) | (intros; assumption) | (right; right; assumption) | (right; left; assumption) | (left; assumption)))
  have h1 : (decide (w ≥ (11 : Int))) = false := by (first | assumption | (((try simp only [SA] at *); (try simp (disch := omega) only [SB, reduceCtorEq] at *)) <;> first | omega | assumption | (refine ⟨?_, ?_⟩ <;> assumption) | (refine ⟨?_, ?_, ?_⟩ <;> assumption) | (intros; assumption) | (right; right; assumption) | (right; left; assumption) | (left; assumption)))
  have h2 : (w == (1 : Int)) = true := by (first | assumption | (((try simp only [SA] at *); (try simp (disch := omega) only [SB, reduceCtorEq] at *)) <;> first | omega | assumption | (refine ⟨?_, ?_⟩ <;> assumption) | (refine ⟨?_, ?_, ?_⟩ <;> assumption) | (intros; assumption) | (right; right; assumption) | (right; left; assumption) | (left; assumption)))
  have h3 : (!(((refW ((nameW w) ++ (sp (tell t)))) == w) && (((refN ((nameW w) ++ (sp (tell t)))) == n) && (((refT ((nameW w) ++ (sp (tell t)))) == t) && true)))) = true := by (first | assumption | (((try simp only [SA] at *); (try simp (disch := omega) only [SB, reduceCtorEq] at *)) <;> first | omega | assumption | (refine ⟨?_, ?_⟩ <;> assumption) | (refine ⟨?_, ?_, ?_⟩ <;> assumption) | (intros; assumption) | (right; right; assumption) | (right; left; assumption) | (left; assumption)))
  exact pV 12 [(2, bf), (3, bf), (5, bf), (7, bf), (8, bf), (10, .v (V.d (D.ref globNames ((0 : Nat) + ((Int.toNat w) * (1 : Nat)))))), (11, .v (V.d (D.str (nameW w)))), (14, bt), (16, .v (V.d (D.str (tell t)))), (17, .v (V.d (D.str (sp (tell t))))), (18, .v (V.d (D.str ((nameW w) ++ (sp (tell t)))))), (19, .v (V.d (D.tup [(D.agg [(D.int IntKind.i64 (refW ((nameW w) ++ (sp (tell t))))), (D.int IntKind.i64 (refN ((nameW w) ++ (sp (tell t))))), (D.str (refT ((nameW w) ++ (sp (tell t)))))]), (D.int IntKind.i64 (0 : Int))]))), (28, bt)] (cP h3 (cC (@parseYes ((nameW w) ++ (sp (tell t))) g5 hn ho) (cP (@strAdd (nameW w) (sp (tell t)) (by (first | assumption | (((try simp only [SA] at *); (try simp (disch := omega) only [SB, reduceCtorEq] at *)) <;> first | omega | assumption | (refine ⟨?_, ?_⟩ <;> assumption) | (refine ⟨?_, ?_, ?_⟩ <;> assumption) | (intros; assumption) | (right; right; assumption) | (right; left; assumption) | (left; assumption)))) (by (first | assumption | (((try simp only [SA] at *); (try simp (disch := omega) only [SB, reduceCtorEq] at *)) <;> first | omega | assumption | (refine ⟨?_, ?_⟩ <;> assumption) | (refine ⟨?_, ?_, ?_⟩ <;> assumption) | (intros; assumption) | (right; right; assumption) | (right; left; assumption) | (left; assumption))))) (cP (@strSp (tell t) (by (first | assumption | (((try simp only [SA] at *); (try simp (disch := omega) only [SB, reduceCtorEq] at *)) <;> first | omega | assumption | (refine ⟨?_, ?_⟩ <;> assumption) | (refine ⟨?_, ?_, ?_⟩ <;> assumption) | (intros; assumption) | (right; right; assumption) | (right; left; assumption) | (left; assumption))))) (cC (@toldR (t) ht) (cP h2 (cP (@loadName (w) ([(Ob.cells [(V.d (D.int IntKind.i64 w)), (V.d (D.int IntKind.i64 n)), (V.d (D.str t))])]) (by (first | assumption | (((try simp only [SA] at *); (try simp (disch := omega) only [SB, reduceCtorEq] at *)) <;> first | omega | assumption | (refine ⟨?_, ?_⟩ <;> assumption) | (refine ⟨?_, ?_, ?_⟩ <;> assumption) | (intros; assumption) | (right; right; assumption) | (right; left; assumption) | (left; assumption)))) (by (first | assumption | (((try simp only [SA] at *); (try simp (disch := omega) only [SB, reduceCtorEq] at *)) <;> first | omega | assumption | (refine ⟨?_, ?_⟩ <;> assumption) | (refine ⟨?_, ?_, ?_⟩ <;> assumption) | (intros; assumption) | (right; right; assumption) | (right; left; assumption) | (left; assumption))))) (cP (@iaddrName (w) (by (first | assumption | (((try simp only [SA] at *); (try simp (disch := omega) only [SB, reduceCtorEq] at *)) <;> first | omega | assumption | (refine ⟨?_, ?_⟩ <;> assumption) | (refine ⟨?_, ?_, ?_⟩ <;> assumption) | (intros; assumption) | (right; right; assumption) | (right; left; assumption) | (left; assumption)))) (by (first | assumption | (((try simp only [SA] at *); (try simp (disch := omega) only [SB, reduceCtorEq] at *)) <;> first | omega | assumption | (refine ⟨?_, ?_⟩ <;> assumption) | (refine ⟨?_, ?_, ?_⟩ <;> assumption) | (intros; assumption) | (right; right; assumption) | (right; left; assumption) | (left; assumption))))) (cP h1 (cP h0 (cP h0 (cP h0 (cP h0 nilE))))))))))))) (by kernel_rfl) rfl rfl
set_option maxHeartbeats 4000000 in
theorem lnM1 : lnM1_T := by
  intro w n t hw k0 k1 g2 g3 g4 g5 hn ho e1 e2 e3
  have h0 : (decide (w < (1 : Int))) = false := by (first | assumption | (((try simp only [SA] at *); (try simp (disch := omega) only [SB, reduceCtorEq] at *)) <;> first | omega | assumption | (refine ⟨?_, ?_⟩ <;> assumption) | (refine ⟨?_, ?_, ?_⟩ <;> assumption) | (intros; assumption) | (right; right; assumption) | (right; left; assumption) | (left; assumption)))
  have h1 : (decide (w ≥ (11 : Int))) = false := by (first | assumption | (((try simp only [SA] at *); (try simp (disch := omega) only [SB, reduceCtorEq] at *)) <;> first | omega | assumption | (refine ⟨?_, ?_⟩ <;> assumption) | (refine ⟨?_, ?_, ?_⟩ <;> assumption) | (intros; assumption) | (right; right; assumption) | (right; left; assumption) | (left; assumption)))
  have h2 : (w == (1 : Int)) = false := by (first | assumption | (((try simp only [SA] at *); (try simp (disch := omega) only [SB, reduceCtorEq] at *)) <;> first | omega | assumption | (refine ⟨?_, ?_⟩ <;> assumption) | (refine ⟨?_, ?_, ?_⟩ <;> assumption) | (intros; assumption) | (right; right; assumption) | (right; left; assumption) | (left; assumption)))
  rcases Bool.eq_false_or_eq_true (w == (3 : Int)) with h3 | h3
  · have h4 : (!(((refW ((nameW w) ++ (sp (itoaF n)))) == w) && (((refN ((nameW w) ++ (sp (itoaF n)))) == n) && (((refT ((nameW w) ++ (sp (itoaF n)))) == t) && true)))) = false := by (first | assumption | (((try simp only [SA] at *); (try simp (disch := omega) only [SB, reduceCtorEq] at *)) <;> first | omega | assumption | (refine ⟨?_, ?_⟩ <;> assumption) | (refine ⟨?_, ?_, ?_⟩ <;> assumption) | (intros; assumption) | (right; right; assumption) | (right; left; assumption) | (left; assumption)))
    exact pV 12 [(2, bf), (3, bf), (5, bf), (7, bf), (8, bf), (10, .v (V.d (D.ref globNames ((0 : Nat) + ((Int.toNat w) * (1 : Nat)))))), (11, .v (V.d (D.str (nameW w)))), (14, bf), (18, bt), (19, bt), (20, bt), (29, .v (V.d (D.str (itoaF n)))), (30, .v (V.d (D.str (sp (itoaF n))))), (31, .v (V.d (D.str ((nameW w) ++ (sp (itoaF n)))))), (32, .v (V.d (D.tup [(D.agg [(D.int IntKind.i64 (refW ((nameW w) ++ (sp (itoaF n))))), (D.int IntKind.i64 (refN ((nameW w) ++ (sp (itoaF n))))), (D.str (refT ((nameW w) ++ (sp (itoaF n)))))]), (D.int IntKind.i64 (0 : Int))]))), (41, bf)] (cP h4 (cC (@parseYes ((nameW w) ++ (sp (itoaF n))) g5 hn ho) (cP (@strAdd (nameW w) (sp (itoaF n)) (by (first | assumption | (((try simp only [SA] at *); (try simp (disch := omega) only [SB, reduceCtorEq] at *)) <;> first | omega | assumption | (refine ⟨?_, ?_⟩ <;> assumption) | (refine ⟨?_, ?_, ?_⟩ <;> assumption) | (intros; assumption) | (right; right; assumption) | (right; left; assumption) | (left; assumption)))) (by (first | assumption | (((try simp only [SA] at *); (try simp (disch := omega) only [SB, reduceCtorEq] at *)) <;> first | omega | assumption | (refine ⟨?_, ?_⟩ <;> assumption) | (refine ⟨?_, ?_, ?_⟩ <;> assumption) | (intros; assumption) | (right; right; assumption) | (right; left; assumption) | (left; assumption))))) (cP (@strSp (itoaF n) (by (first | assumption | (((try simp only [SA] at *); (try simp (disch := omega) only [SB, reduceCtorEq] at *)) <;> first | omega | assumption | (refine ⟨?_, ?_⟩ <;> assumption) | (refine ⟨?_, ?_, ?_⟩ <;> assumption) | (intros; assumption) | (right; right; assumption) | (right; left; assumption) | (left; assumption))))) (cC (@itoaN (n) k0 k1) (cP h3 (cP h3 (cP h3 (cP h2 (cP (@loadName (w) ([(Ob.cells [(V.d (D.int IntKind.i64 w)), (V.d (D.int IntKind.i64 n)), (V.d (D.str t))])]) (by (first | assumption | (((try simp only [SA] at *); (try simp (disch := omega) only [SB, reduceCtorEq] at *)) <;> first | omega | assumption | (refine ⟨?_, ?_⟩ <;> assumption) | (refine ⟨?_, ?_, ?_⟩ <;> assumption) | (intros; assumption) | (right; right; assumption) | (right; left; assumption) | (left; assumption)))) (by (first | assumption | (((try simp only [SA] at *); (try simp (disch := omega) only [SB, reduceCtorEq] at *)) <;> first | omega | assumption | (refine ⟨?_, ?_⟩ <;> assumption) | (refine ⟨?_, ?_, ?_⟩ <;> assumption) | (intros; assumption) | (right; right; assumption) | (right; left; assumption) | (left; assumption))))) (cP (@iaddrName (w) (by (first | assumption | (((try simp only [SA] at *); (try simp (disch := omega) only [SB, reduceCtorEq] at *)) <;> first | omega | assumption | (refine ⟨?_, ?_⟩ <;> assumption) | (refine ⟨?_, ?_, ?_⟩ <;> assumption) | (intros; assumption) | (right; right; assumption) | (right; left; assumption) | (left; assumption)))) (by (first | assumption | (((try simp only [SA] at *); (try simp (disch := omega) only [SB, reduceCtorEq] at *)) <;> first | omega | assumption | (refine ⟨?_, ?_⟩ <;> assumption) | (refine ⟨?_, ?_, ?_⟩ <;> assumption) | (intros; assumption) | (right; right; assumption) | (right; left; assumption) | (left; assumption))))) (cP h1 (cP h0 (cP h0 (cP h0 (cP h0 nilE)))))))))))))))) (by kernel_rfl) rfl rfl
  · rcases Bool.eq_false_or_eq_true (w == (4 : Int)) with h4 | h4
    · have h5 : (!(((refW ((nameW w) ++ (sp (itoaF n)))) == w) && (((refN ((nameW w) ++ (sp (itoaF n)))) == n) && (((refT ((nameW w) ++ (sp (itoaF n)))) == t) && true)))) = false := by (first | assumption | (((try simp only [SA] at *); (try simp (disch := omega) only [SB, reduceCtorEq] at *)) <;> first | omega | assumption | (refine ⟨?_, ?_⟩ <;> assumption) | (refine ⟨?_, ?_, ?_⟩ <;> assumption) | (intros; assumption) | (right; right; assumption) | (right; left; assumption) | (left; assumption)))
      exact pV 12 [(2, bf), (3, bf), (5, bf), (7, bf), (8, bf), (10, .v (V.d (D.ref globNames ((0 : Nat) + ((Int.toNat w) * (1 : Nat)))))), (11, .v (V.d (D.str (nameW w)))), (14, bf), (18, bf), (19, bf), (21, bf), (22, bt), (23, bt), (24, bt), (30, .v (V.d (D.str (itoaF n)))), (31, .v (V.d (D.str (sp (itoaF n))))), (32, .v (V.d (D.str ((nameW w) ++ (sp (itoaF n)))))), (33, .v (V.d (D.tup [(D.agg [(D.int IntKind.i64 (refW ((nameW w) ++ (sp (itoaF n))))), (D.int IntKind.i64 (refN ((nameW w) ++ (sp (itoaF n))))), (D.str (refT ((nameW w) ++ (sp (itoaF n)))))]), (D.int IntKind.i64 (0 : Int))]))), (42, bf)] (cP h5 (cC (@parseYes ((nameW w) ++ (sp (itoaF n))) g5 hn ho) (cP (@strAdd (nameW w) (sp (itoaF n)) (by (first | assumption | (((try simp only [SA] at *); (try simp (disch := omega) only [SB, reduceCtorEq] at *)) <;> first | omega | assumption | (refine ⟨?_, ?_⟩ <;> assumption) | (refine ⟨?_, ?_, ?_⟩ <;> assumption) | (intros; assumption) | (right; right; assumption) | (right; left; assumption) | (left; assumption)))) (by (first | assumption | (((try simp only [SA] at *); (try simp (disch := omega) only [SB, reduceCtorEq] at *)) <;> first | omega | assumption | (refine ⟨?_, ?_⟩ <;> assumption) | (refine ⟨?_, ?_, ?_⟩ <;> assumption) | (intros; assumption) | (right; right; assumption) | (right; left; assumption) | (left; assumption))))) (cP (@strSp (itoaF n) (by (first | assumption | (((try simp only [SA] at *); (try simp (disch := omega) only [SB, reduceCtorEq] at *)) <;> first | omega | assumption | (refine ⟨?_, ?_⟩ <;> assumption) | (refine ⟨?_, ?_, ?_⟩ <;> assumption) | (intros; assumption) | (right; right; assumption) | (right; left; assumption) | (left; assumption))))) (cC (@itoaN (n) k0 k1) (cP h4 (cP h4 (cP h4 (cP h3 (cP h3 (cP h3 (cP h2 (cP (@loadName (w) ([(Ob.cells [(V.d (D.int IntKind.i64 w)), (V.d (D.int IntKind.i64 n)), (V.d (D.str t))])]) (by (first | assumption | (((try simp only [SA] at *); (try simp (disch := omega) only [SB, reduceCtorEq] at *)) <;> first | omega | assumption | (refine ⟨?_, ?_⟩ <;> assumption) | (refine ⟨?_, ?_, ?_⟩ <;> assumption) | (intros; assumption) | (right; right; assumption) | (right; left; assumption) | (left; assumption)))) (by (first | assumption | (((try simp only [SA] at *); (try simp (disch := omega) only [SB, reduceCtorEq] at *)) <;> first | omega | assumption | (refine ⟨?_, ?_⟩ <;> assumption) | (refine ⟨?_, ?_, ?_⟩ <;> assumption) | (intros; assumption) | (right; right; assumption) | (right; left; assumption) | (left; assumption))))) (cP (@iaddrName (w) (by (first | assumption | (((try simp only [SA] at *); (try simp (disch := omega) only [SB, reduceCtorEq] at *)) <;> first | omega | assumption | (refine ⟨?_, ?_⟩ <;> assumption) | (refine ⟨?_, ?_, ?_⟩ <;> assumption) | (intros; assumption) | (right; right; assumption) | (right; left; assumption) | (left; assumption)))) (by (first | assumption | (((try simp only [SA] at *); (try simp (disch := omega) only [SB, reduceCtorEq] at *)) <;> first | omega | assumption | (refine ⟨?_, ?_⟩ <;> assumption) | (refine ⟨?_, ?_, ?_⟩ <;> assumption) | (intros; assumption) | (right; right; assumption) | (right; left; assumption) | (left; assumption))))) (cP h1 (cP h0 (cP h0 (cP h0 (cP h0 nilE))))))))))))))))))) (by kernel_rfl) rfl rfl
    · rcases Bool.eq_false_or_eq_true (w == (9 : Int)) with h5 | h5
      · have h6 : (!(((refW ((nameW w) ++ (sp (itoaF n)))) == w) && (((refN ((nameW w) ++ (sp (itoaF n)))) == n) && (((refT ((nameW w) ++ (sp (itoaF n)))) == t) && true)))) = false := by (first | assumption | (((try simp only [SA] at *); (try simp (disch := omega) only [SB, reduceCtorEq] at *)) <;> first | omega | assumption | (refine ⟨?_, ?_⟩ <;> assumption) | (refine ⟨?_, ?_, ?_⟩ <;> assumption) | (intros; assumption) | (right; right; assumption) | (right; left; assumption) | (left; assumption)))
        exact pV 12 [(2, bf), (3, bf), (5, bf), (7, bf), (8, bf), (10, .v (V.d (D.ref globNames ((0 : Nat) + ((Int.toNat w) * (1 : Nat)))))), (11, .v (V.d (D.str (nameW w)))), (14, bf), (18, bf), (19, bf), (21, bf), (22, bf), (23, bf), (25, bf), (26, bt), (27, bt), (28, bt), (31, .v (V.d (D.str (itoaF n)))), (32, .v (V.d (D.str (sp (itoaF n))))), (33, .v (V.d (D.str ((nameW w) ++ (sp (itoaF n)))))), (34, .v (V.d (D.tup [(D.agg [(D.int IntKind.i64 (refW ((nameW w) ++ (sp (itoaF n))))), (D.int IntKind.i64 (refN ((nameW w) ++ (sp (itoaF n))))), (D.str (refT ((nameW w) ++ (sp (itoaF n)))))]), (D.int IntKind.i64 (0 : Int))]))), (43, bf)] (cP h6 (cC (@parseYes ((nameW w) ++ (sp (itoaF n))) g5 hn ho) (cP (@strAdd (nameW w) (sp (itoaF n)) (by (first | assumption | (((try simp only [SA] at *); (try simp (disch := omega) only [SB, reduceCtorEq] at *)) <;> first | omega | assumption | (refine ⟨?_, ?_⟩ <;> assumption) | (refine ⟨?_, ?_, ?_⟩ <;> assumption) | (intros; assumption) | (right; right; assumption) | (right; left; assumption) | (left; assumption)))) (by (first | assumption | (((try simp only [SA] at *); (try simp (disch := omega) only [SB, reduceCtorEq] at *)) <;> first | omega | assumption | (refine ⟨?_, ?_⟩ <;> assumption) | (refine ⟨?_, ?_, ?_⟩ <;> assumption) | (intros; assumption) | (right; right; assumption) | (right; left; assumption) | (left; assumption))))) (cP (@strSp (itoaF n) (by (first | assumption | (((try simp only [SA] at *); (try simp (disch := omega) only [SB, reduceCtorEq] at *)) <;> first | omega | assumption | (refine ⟨?_, ?_⟩ <;> assumption) | (refine ⟨?_, ?_, ?_⟩ <;> assumption) | (intros; assumption) | (right; right; assumption) | (right; left; assumption) | (left; assumption))))) (cC (@itoaN (n) k0 k1) (cP h5 (cP h5 (cP h5 (cP h4 (cP h4 (cP h4 (cP h3 (cP h3 (cP h3 (cP h2 (cP (@loadName (w) ([(Ob.cells [(V.d (D.int IntKind.i64 w)), (V.d (D.int IntKind.i64 n)), (V.d (D.str t))])]) (by (first | assumption | (((try simp only [SA] at *); (try simp (disch := omega) only [SB, reduceCtorEq] at *)) <;> first | omega | assumption | (refine ⟨?_, ?_⟩ <;> assumption) | (refine ⟨?_, ?_, ?_⟩ <;> assumption) | (intros; assumption) | (right; right; assumption) | (right; left; assumption) | (left; assumption)))) (by (first | assumption | (((try simp only [SA] at *); (try simp (disch := omega) only [SB, reduceCtorEq] at *)) <;> first | omega | assumption | (refine ⟨?_, ?_⟩ <;> assumption) | (refine ⟨?_, ?_, ?_⟩ <;> assumption) | (intros; assumption) | (right; right; assumption) | (right; left; assumption) | (left; assumption))))) (cP (@iaddrName (w) (by (first | assumption | (((try simp only [SA] at *); (try simp (disch := omega) only [SB, reduceCtorEq] at *)) <;> first | omega | assumption | (refine ⟨?_, ?_⟩ <;> assumption) | (refine ⟨?_, ?_, ?_⟩ <;> assumption) | (intros; assumption) | (right; right; assumption) | (right; left; assumption) | (left; assumption)))) (by (first | assumption | (((try simp only [SA] at *); (try simp (disch := omega) only [SB, reduceCtorEq] at *)) <;> first | omega | assumption | (refine ⟨?_, ?_⟩ <;> assumption) | (refine ⟨?_, ?_, ?_⟩ <;> assumption) | (intros; assumption) | (right; right; assumption) | (right; left; assumption) | (left; assumption))))) (cP h1 (cP h0 (cP h0 (cP h0 (cP h0 nilE)))))))))))))))))))))) (by kernel_rfl) rfl rfl
      · have h6 : (w == (10 : Int)) = true := by (first | assumption | (((try simp only [SA] at *); (try simp (disch := omega) only [SB, reduceCtorEq] at *)) <;> first | omega | assumption | (refine ⟨?_, ?_⟩ <;> assumption) | (refine ⟨?_, ?_, ?_⟩ <;> assumption) | (intros; assumption) | (right; right; assumption) | (right; left; assumption) | (left; assumption)))
        have h7 : (!(((refW ((nameW w) ++ (sp (itoaF n)))) == w) && (((refN ((nameW w) ++ (sp (itoaF n)))) == n) && (((refT ((nameW w) ++ (sp (itoaF n)))) == t) && true)))) = false := by (first | assumption | (((try simp only [SA] at *); (try simp (disch := omega) only [SB, reduceCtorEq] at *)) <;> first | omega | assumption | (refine ⟨?_, ?_⟩ <;> assumption) | (refine ⟨?_, ?_, ?_⟩ <;> assumption) | (intros; assumption) | (right; right; assumption) | (right; left; assumption) | (left; assumption)))
        exact pV 12 [(2, bf), (3, bf), (5, bf), (7, bf), (8, bf), (10, .v (V.d (D.ref globNames ((0 : Nat) + ((Int.toNat w) * (1 : Nat)))))), (11, .v (V.d (D.str (nameW w)))), (14, bf), (18, bf), (19, bf), (21, bf), (22, bf), (23, bf), (25, bf), (26, bf), (27, bf), (29, bf), (30, bt), (32, .v (V.d (D.str (itoaF n)))), (33, .v (V.d (D.str (sp (itoaF n))))), (34, .v (V.d (D.str ((nameW w) ++ (sp (itoaF n)))))), (35, .v (V.d (D.tup [(D.agg [(D.int IntKind.i64 (refW ((nameW w) ++ (sp (itoaF n))))), (D.int IntKind.i64 (refN ((nameW w) ++ (sp (itoaF n))))), (D.str (refT ((nameW w) ++ (sp (itoaF n)))))]), (D.int IntKind.i64 (0 : Int))]))), (44, bf)] (cP h7 (cC (@parseYes ((nameW w) ++ (sp (itoaF n))) g5 hn ho) (cP (@strAdd (nameW w) (sp (itoaF n)) (by (first | assumption | (((try simp only [SA] at *); (try simp (disch := omega) only [SB, reduceCtorEq] at *)) <;> first | omega | assumption | (refine ⟨?_, ?_⟩ <;> assumption) | (refine ⟨?_, ?_, ?_⟩ <;> assumption) | (intros; assumption) | (right; right; assumption) | (right; left; assumption) | (left; assumption)))) (by (first | assumption | (((try simp only [SA] at *); (try simp (disch := omega) only [SB, reduceCtorEq] at *)) <;> first | omega | assumption | (refine ⟨?_, ?_⟩ <;> assumption) | (refine ⟨?_, ?_, ?_⟩ <;> assumption) | (intros; assumption) | (right; right; assumption) | (right; left; assumption) | (left; assumption))))) (cP (@strSp (itoaF n) (by (first | assumption | (((try simp only [SA] at *); (try simp (disch := omega) only [SB, reduceCtorEq] at *)) <;> first | omega | assumption | (refine ⟨?_, ?_⟩ <;> assumption) | (refine ⟨?_, ?_, ?_⟩ <;> assumption) | (intros; assumption) | (right; right; assumption) | (right; left; assumption) | (left; assumption))))) (cC (@itoaN (n) k0 k1) (cP h6 (cP h5 (cP h5 (cP h5 (cP h4 (cP h4 (cP h4 (cP h3 (cP h3 (cP h3 (cP h2 (cP (@loadName (w) ([(Ob.cells [(V.d (D.int IntKind.i64 w)), (V.d (D.int IntKind.i64 n)), (V.d (D.str t))])]) (by (first | assumption | (((try simp only [SA] at *); (try simp (disch := omega) only [SB, reduceCtorEq] at *)) <;> first | omega | assumption | (refine ⟨?_, ?_⟩ <;> assumption) | (refine ⟨?_, ?_, ?_⟩ <;> assumption) | (intros; assumption) | (right; right; assumption) | (right; left; assumption) | (left; assumption)))) (by (first | assumption | (((try simp only [SA] at *); (try simp (disch := omega) only [SB, reduceCtorEq] at *)) <;> first | omega | assumption | (refine ⟨?_, ?_⟩ <;> assumption) | (refine ⟨?_, ?_, ?_⟩ <;> assumption) | (intros; assumption) | (right; right; assumption) | (right; left; assumption) | (left; assumption))))) (cP (@iaddrName (w) (by (first | assumption | (((try simp only [SA] at *); (try simp (disch := omega) only [SB, reduceCtorEq] at *)) <;> first | omega | assumption | (refine ⟨?_, ?_⟩ <;> assumption) | (refine ⟨?_, ?_, ?_⟩ <;> assumption) | (intros; assumption) | (right; right; assumption) | (right; left; assumption) | (left; assumption)))) (by (first | assumption | (((try simp only [SA] at *); (try simp (disch := omega) only [SB, reduceCtorEq] at *)) <;> first | omega | assumption | (refine ⟨?_, ?_⟩ <;> assumption) | (refine ⟨?_, ?_, ?_⟩ <;> assumption) | (intros; assumption) | (right; right; assumption) | (right; left; assumption) | (left; assumption))))) (cP h1 (cP h0 (cP h0 (cP h0 (cP h0 nilE))))))))))))))))))))))) (by kernel_rfl) rfl rfl
set_option maxHeartbeats 4000000 in
theorem lnM2 : lnM2_T := by
  intro w n t hw k0 k1 g2 g3 g4 g5 hn ho e1 e2 e3
  have h0 : (decide (w < (1 : Int))) = false := by (first | assumption | (((try simp only [SA] at *); (try simp (disch := omega) only [SB, reduceCtorEq] at *)) <;> first | omega | assumption | (refine ⟨?_, ?_⟩ <;> assumption) | (refine ⟨?_, ?_, ?_⟩ <;> assumption) | (intros; assumption) | (right; right; assumption) | (right; left; assumption) | (left; assumption)))
  have h1 : (decide (w ≥ (11 : Int))) = false := by (first | assumption | (((try simp only [SA] at *); (try simp (disch := omega) only [SB, reduceCtorEq] at *)) <;> first | omega | assumption | (refine ⟨?_, ?_⟩ <;> assumption) | (refine ⟨?_, ?_, ?_⟩ <;> assumption) | (intros; assumption) | (right; right; assumption) | (right; left; assumption) | (left; assumption)))
  have h2 : (w == (1 : Int)) = false := by (first | assumption | (((try simp only [SA] at *); (try simp (disch := omega) only [SB, reduceCtorEq] at *)) <;> first | omega | assumption | (refine ⟨?_, ?_⟩ <;> assumption) | (refine ⟨?_, ?_, ?_⟩ <;> assumption) | (intros; assumption) | (right; right; assumption) | (right; left; assumption) | (left; assumption)))
  rcases Bool.eq_false_or_eq_true (w == (3 : Int)) with h3 | h3
  · have h4 : (!(((refW ((nameW w) ++ (sp (itoaF n)))) == w) && (((refN ((nameW w) ++ (sp (itoaF n)))) == n) && (((refT ((nameW w) ++ (sp (itoaF n)))) == t) && true)))) = true := by (first | assumption | (((try simp only [SA] at *); (try simp (disch := omega) only [SB, reduceCtorEq] at *)) <;> first | omega | assumption | (refine ⟨?_, ?_⟩ <;> assumption) | (refine ⟨?_, ?_, ?_⟩ <;> assumption) | (intros; assumption) | (right; right; assumption) | (right; left; assumption) | (left; assumption)))
    exact pV 12 [(2, bf), (3, bf), (5, bf), (7, bf), (8, bf), (10, .v (V.d (D.ref globNames ((0 : Nat) + ((Int.toNat w) * (1 : Nat)))))), (11, .v (V.d (D.str (nameW w)))), (14, bf), (18, bt), (19, bt), (20, bt), (29, .v (V.d (D.str (itoaF n)))), (30, .v (V.d (D.str (sp (itoaF n))))), (31, .v (V.d (D.str ((nameW w) ++ (sp (itoaF n)))))), (32, .v (V.d (D.tup [(D.agg [(D.int IntKind.i64 (refW ((nameW w) ++ (sp (itoaF n))))), (D.int IntKind.i64 (refN ((nameW w) ++ (sp (itoaF n))))), (D.str (refT ((nameW w) ++ (sp (itoaF n)))))]), (D.int IntKind.i64 (0 : Int))]))), (41, bt)] (cP h4 (cC (@parseYes ((nameW w) ++ (sp (itoaF n))) g5 hn ho) (cP (@strAdd (nameW w) (sp (itoaF n)) (by (first | assumption | (((try simp only [SA] at *); (try simp (disch := omega) only [SB, reduceCtorEq] at *)) <;> first | omega | assumption | (refine ⟨?_, ?_⟩ <;> assumption) | (refine ⟨?_, ?_, ?_⟩ <;> assumption) | (intros; assumption) | (right; right; assumption) | (right; left; assumption) | (left; assumption)))) (by (first | assumption | (((try simp only [SA] at *); (try simp (disch := omega) only [SB, reduceCtorEq] at *)) <;> first | omega | assumption | (refine ⟨?_, ?_⟩ <;> assumption) | (refine ⟨?_, ?_, ?_⟩ <;> assumption) | (intros; assumption) | (right; right; assumption) | (right; left; assumption) | (left; assumption))))) (cP (@strSp (itoaF n) (by (first | assumption | (((try simp only [SA] at *); (try simp (disch := omega) only [SB, reduceCtorEq] at *)) <;> first | omega | assumption | (refine ⟨?_, ?_⟩ <;> assumption) | (refine ⟨?_, ?_, ?_⟩ <;> assumption) | (intros; assumption) | (right; right; assumption) | (right; left; assumption) | (left; assumption))))) (cC (@itoaN (n) k0 k1) (cP h3 (cP h3 (cP h3 (cP h2 (cP (@loadName (w) ([(Ob.cells [(V.d (D.int IntKind.i64 w)), (V.d (D.int IntKind.i64 n)), (V.d (D.str t))])]) (by (first | assumption | (((try simp only [SA] at *); (try simp (disch := omega) only [SB, reduceCtorEq] at *)) <;> first | omega | assumption | (refine ⟨?_, ?_⟩ <;> assumption) | (refine ⟨?_, ?_, ?_⟩ <;> assumption) | (intros; assumption) | (right; right; assumption) | (right; left; assumption) | (left; assumption)))) (by (first | assumption | (((try simp only [SA] at *); (try simp (disch := omega) only [SB, reduceCtorEq] at *)) <;> first | omega | assumption | (refine ⟨?_, ?_⟩ <;> assumption) | (refine ⟨?_, ?_, ?_⟩ <;> assumption) | (intros; assumption) | (right; right; assumption) | (right; left; assumption) | (left; assumption))))) (cP (@iaddrName (w) (by (first | assumption | (((try simp only [SA] at *); (try simp (disch := omega) only [SB, reduceCtorEq] at *)) <;> first | omega | assumption | (refine ⟨?_, ?_⟩ <;> assumption) | (refine ⟨?_, ?_, ?_⟩ <;> assumption) | (intros; assumption) | (right; right; assumption) | (right; left; assumption) | (left; assumption)))) (by (first | assumption | (((try simp only [SA] at *); (try simp (disch := omega) only [SB, reduceCtorEq] at *)) <;> first | omega | assumption | (refine ⟨?_, ?_⟩ <;> assumption) | (refine ⟨?_, ?_, ?_⟩ <;> assumption) | (intros; assumption) | (right; right; assumption) | (right; left; assumption) | (left; assumption))))) (cP h1 (cP h0 (cP h0 (cP h0 (cP h0 nilE)))))))))))))))) (by kernel_rfl) rfl rfl
  · rcases Bool.eq_false_or_eq_true (w == (4 : Int)) with h4 | h4
    · have h5 : (!(((refW ((nameW w) ++ (sp (itoaF n)))) == w) && (((refN ((nameW w) ++ (sp (itoaF n)))) == n) && (((refT ((nameW w) ++ (sp (itoaF n)))) == t) && true)))) = true := by (first | assumption | (((try simp only [SA] at *); (try simp (disch := omega) only [SB, reduceCtorEq] at *)) <;> first | omega | assumption | (refine ⟨?_, ?_⟩ <;> assumption) | (refine ⟨?_, ?_, ?_⟩ <;> assumption) | (intros; assumption) | (right; right; assumption) | (right; left; assumption) | (left; assumption)))
      exact pV 12 [(2, bf), (3, bf), (5, bf), (7, bf), (8, bf), (10, .v (V.d (D.ref globNames ((0 : Nat) + ((Int.toNat w) * (1 : Nat)))))), (11, .v (V.d (D.str (nameW w)))), (14, bf), (18, bf), (19, bf), (21, bf), (22, bt), (23, bt), (24, bt), (30, .v (V.d (D.str (itoaF n)))), (31, .v (V.d (D.str (sp (itoaF n))))), (32, .v (V.d (D.str ((nameW w) ++ (sp (itoaF n)))))), (33, .v (V.d (D.tup [(D.agg [(D.int IntKind.i64 (refW ((nameW w) ++ (sp (itoaF n))))), (D.int IntKind.i64 (refN ((nameW w) ++ (sp (itoaF n))))), (D.str (refT ((nameW w) ++ (sp (itoaF n)))))]), (D.int IntKind.i64 (0 : Int))]))), (42, bt)] (cP h5 (cC (@parseYes ((nameW w) ++ (sp (itoaF n))) g5 hn ho) (cP (@strAdd (nameW w) (sp (itoaF n)) (by (first | assumption | (((try simp only [SA] at *); (try simp (disch := omega) only [SB, reduceCtorEq] at *)) <;> first | omega | assumption | (refine ⟨?_, ?_⟩ <;> assumption) | (refine ⟨?_, ?_, ?_⟩ <;> assumption) | (intros; assumption) | (right; right; assumption) | (right; left; assumption) | (left; assumption)))) (by (first | assumption | (((try simp only [SA] at *); (try simp (disch := omega) only [SB, reduceCtorEq] at *)) <;> first | omega | assumption | (refine ⟨?_, ?_⟩ <;> assumption) | (refine ⟨?_, ?_, ?_⟩ <;> assumption) | (intros; assumption) | (right; right; assumption) | (right; left; assumption) | (left; assumption))))) (cP (@strSp (itoaF n) (by (first | assumption | (((try simp only [SA] at *); (try simp (disch := omega) only [SB, reduceCtorEq] at *)) <;> first | omega | assumption | (refine ⟨?_, ?_⟩ <;> assumption) | (refine ⟨?_, ?_, ?_⟩ <;> assumption) | (intros; assumption) | (right; right; assumption) | (right; left; assumption) | (left; assumption))))) (cC (@itoaN (n) k0 k1) (cP h4 (cP h4 (cP h4 (cP h3 (cP h3 (cP h3 (cP h2 (cP (@loadName (w) ([(Ob.cells [(V.d (D.int IntKind.i64 w)), (V.d (D.int IntKind.i64 n)), (V.d (D.str t))])]) (by (first | assumption | (((try simp only [SA] at *); (try simp (disch := omega) only [SB, reduceCtorEq] at *)) <;> first | omega | assumption | (refine ⟨?_, ?_⟩ <;> assumption) | (refine ⟨?_, ?_, ?_⟩ <;> assumption) | (intros; assumption) | (right; right; assumption) | (right; left; assumption) | (left; assumption)))) (by (first | assumption | (((try simp only [SA] at *); (try simp (disch := omega) only [SB, reduceCtorEq] at *)) <;> first | omega | assumption | (refine ⟨?_, ?_⟩ <;> assumption) | (refine ⟨?_, ?_, ?_⟩ <;> assumption) | (intros; assumption) | (right; right; assumption) | (right; left; assumption) | (left; assumption))))) (cP (@iaddrName (w) (by (first | assumption | (((try simp only [SA] at *); (try simp (disch := omega) only [SB, reduceCtorEq] at *)) <;> first | omega | assumption | (refine ⟨?_, ?_⟩ <;> assumption) | (refine ⟨?_, ?_, ?_⟩ <;> assumption) | (intros; assumption) | (right; right; assumption) | (right; left; assumption) | (left; assumption)))) (by (first | assumption | (((try simp only [SA] at *); (try simp (disch := omega) only [SB, reduceCtorEq] at *)) <;> first | omega | assumption | (refine ⟨?_, ?_⟩ <;> assumption) | (refine ⟨?_, ?_, ?_⟩ <;> assumption) | (intros; assumption) | (right; right; assumption) | (right; left; assumption) | (left; assumption))))) (cP h1 (cP h0 (cP h0 (cP h0 (cP h0 nilE))))))))))))))))))) (by kernel_rfl) rfl rfl
    · rcases Bool.eq_false_or_eq_true (w == (9 : Int)) with h5 | h5
      · have h6 : (!(((refW ((nameW w) ++ (sp (itoaF n)))) == w) && (((refN ((nameW w) ++ (sp (itoaF n)))) == n) && (((refT ((nameW w) ++ (sp (itoaF n)))) == t) && true)))) = true := by (first | assumption | (((try simp only [SA] at *); (try simp (disch := omega) only [SB, reduceCtorEq] at *)) <;> first | omega | assumption | (refine ⟨?_, ?_⟩ <;> assumption) | (refine ⟨?_, ?_, ?_⟩ <;> assumption) | (intros; assumption) | (right; right; assumption) | (right; left; assumption) | (left; assumption)))
        exact pV 12 [(2, bf), (3, bf), (5, bf), (7, bf), (8, bf), (10, .v (V.d (D.ref globNames ((0 : Nat) + ((Int.toNat w) * (1 : Nat)))))), (11, .v (V.d (D.str (nameW w)))), (14, bf), (18, bf), (19, bf), (21, bf), (22, bf), (23, bf), (25, bf), (26, bt), (27, bt), (28, bt), (31, .v (V.d (D.str (itoaF n)))), (32, .v (V.d (D.str (sp (itoaF n))))), (33, .v (V.d (D.str ((nameW w) ++ (sp (itoaF n)))))), (34, .v (V.d (D.tup [(D.agg [(D.int IntKind.i64 (refW ((nameW w) ++ (sp (itoaF n))))), (D.int IntKind.i64 (refN ((nameW w) ++ (sp (itoaF n))))), (D.str (refT ((nameW w) ++ (sp (itoaF n)))))]), (D.int IntKind.i64 (0 : Int))]))), (43, bt)] (cP h6 (cC (@parseYes ((nameW w) ++ (sp (itoaF n))) g5 hn ho) (cP (@strAdd (nameW w) (sp (itoaF n)) (by (first | assumption | (((try simp only [SA] at *); (try simp (disch := omega) only [SB, reduceCtorEq] at *)) <;> first | omega | assumption | (refine ⟨?_, ?_⟩ <;> assumption) | (refine ⟨?_, ?_, ?_⟩ <;> assumption) | (intros; assumption) | (right; right; assumption) | (right; left; assumption) | (left; assumption)))) (by (first | assumption | (((try simp only [SA] at *); (try simp (disch := omega) only [SB, reduceCtorEq] at *)) <;> first | omega | assumption | (refine ⟨?_, ?_⟩ <;> assumption) | (refine ⟨?_, ?_, ?_⟩ <;> assumption) | (intros; assumption) | (right; right; assumption) | (right; left; assumption) | (left; assumption))))) (cP (@strSp (itoaF n) (by (first | assumption | (((try simp only [SA] at *); (try simp (disch := omega) only [SB, reduceCtorEq] at *)) <;> first | omega | assumption | (refine ⟨?_, ?_⟩ <;> assumption) | (refine ⟨?_, ?_, ?_⟩ <;> assumption) | (intros; assumption) | (right; right; assumption) | (right; left; assumption) | (left; assumption))))) (cC (@itoaN (n) k0 k1) (cP h5 (cP h5 (cP h5 (cP h4 (cP h4 (cP h4 (cP h3 (cP h3 (cP h3 (cP h2 (cP (@loadName (w) ([(Ob.cells [(V.d (D.int IntKind.i64 w)), (V.d (D.int IntKind.i64 n)), (V.d (D.str t))])]) (by (first | assumption | (((try simp only [SA] at *); (try simp (disch := omega) only [SB, reduceCtorEq] at *)) <;> first | omega | assumption | (refine ⟨?_, ?_⟩ <;> assumption) | (refine ⟨?_, ?_, ?_⟩ <;> assumption) | (intros; assumption) | (right; right; assumption) | (right; left; assumption) | (left; assumption)))) (by (first | assumption | (((try simp only [SA] at *); (try simp (disch := omega) only [SB, reduceCtorEq] at *)) <;> first | omega | assumption | (refine ⟨?_, ?_⟩ <;> assumption) | (refine ⟨?_, ?_, ?_⟩ <;> assumption) | (intros; assumption) | (right; right; assumption) | (right; left; assumption) | (left; assumption))))) (cP (@iaddrName (w) (by (first | assumption | (((try simp only [SA] at *); (try simp (disch := omega) only [SB, reduceCtorEq] at *)) <;> first | omega | assumption | (refine ⟨?_, ?_⟩ <;> assumption) | (refine ⟨?_, ?_, ?_⟩ <;> assumption) | (intros; assumption) | (right; right; assumption) | (right; left; assumption) | (left; assumption)))) (by (first | assumption | (((try simp only [SA] at *); (try simp (disch := omega) only [SB, reduceCtorEq] at *)) <;> first | omega | assumption | (refine ⟨?_, ?_⟩ <;> assumption) | (refine ⟨?_, ?_, ?_⟩ <;> assumption) | (intros; assumption) | (right; right; assumption) | (right; left; assumption) | (left; assumption))))) (cP h1 (cP h0 (cP h0 (cP h0 (cP h0 nilE)))))))))))))))))))))) (by kernel_rfl) rfl rfl
      · have h6 : (w == (10 : Int)) = true := by (first | assumption | (((try simp only [SA] at *); (try simp (disch := omega) only [SB, reduceCtorEq] at *)) <;> first | omega | assumption | (refine ⟨?_, ?_⟩ <;> assumption) | (refine ⟨?_, ?_, ?_⟩ <;> assumption) | (intros; assumption) | (right; right; assumption) | (right; left; assumption) | (left; assumption)))
        have h7 : (!(((refW ((nameW w) ++ (sp (itoaF n)))) == w) && (((refN ((nameW w) ++ (sp (itoaF n)))) == n) && (((refT ((nameW w) ++ (sp (itoaF n)))) == t) && true)))) = true := by (first | assumption | (((try simp only [SA] at *); (try simp (disch := omega) only [SB, reduceCtorEq] at *)) <;> first | omega | assumption | (refine ⟨?_, ?_⟩ <;> assumption) | (refine ⟨?_, ?_, ?_⟩ <;> assumption) | (intros; assumption) | (right; right; assumption) | (right; left; assumption) | (left; assumption)))
        exact pV 12 [(2, bf), (3, bf), (5, bf), (7, bf), (8, bf), (10, .v (V.d (D.ref globNames ((0 : Nat) + ((Int.toNat w) * (1 : Nat)))))), (11, .v (V.d (D.str (nameW w)))), (14, bf), (18, bf), (19, bf), (21, bf), (22, bf), (23, bf), (25, bf), (26, bf), (27, bf), (29, bf), (30, bt), (32, .v (V.d (D.str (itoaF n)))), (33, .v (V.d (D.str (sp (itoaF n))))), (34, .v (V.d (D.str ((nameW w) ++ (sp (itoaF n)))))), (35, .v (V.d (D.tup [(D.agg [(D.int IntKind.i64 (refW ((nameW w) ++ (sp (itoaF n))))), (D.int IntKind.i64 (refN ((nameW w) ++ (sp (itoaF n))))), (D.str (refT ((nameW w) ++ (sp (itoaF n)))))]), (D.int IntKind.i64 (0 : Int))]))), (44, bt)] (cP h7 (cC (@parseYes ((nameW w) ++ (sp (itoaF n))) g5 hn ho) (cP (@strAdd (nameW w) (sp (itoaF n)) (by (first | assumption | (((try simp only [SA] at *); (try simp (disch := omega) only [SB, reduceCtorEq] at *)) <;> first | omega | assumption | (refine ⟨?_, ?_⟩ <;> assumption) | (refine ⟨?_, ?_, ?_⟩ <;> assumption) | (intros; assumption) | (right; right; assumption) | (right; left; assumption) | (left; assumption)))) (by (first | assumption | (((try simp only [SA] at *); (try simp (disch := omega) only [SB, reduceCtorEq] at *)) <;> first | omega | assumption | (refine ⟨?_, ?_⟩ <;> assumption) | (refine ⟨?_, ?_, ?_⟩ <;> assumption) | (intros; assumption) | (right; right; assumption) | (right; left; assumption) | (left; assumption))))) (cP (@strSp (itoaF n) (by (first | assumption | (((try simp only [SA] at *); (try simp (disch := omega) only [SB, reduceCtorEq] at *)) <;> first | omega | assumption | (refine ⟨?_, ?_⟩ <;> assumption) | (refine ⟨?_, ?_, ?_⟩ <;> assumption) | (intros; assumption) | (right; right; assumption) | (right; left; assumption) | (left; assumption))))) (cC (@itoaN (n) k0 k1) (cP h6 (cP h5 (cP h5 (cP h5 (cP h4 (cP h4 (cP h4 (cP h3 (cP h3 (cP h3 (cP h2 (cP (@loadName (w) ([(Ob.cells [(V.d (D.int IntKind.i64 w)), (V.d (D.int IntKind.i64 n)), (V.d (D.str t))])]) (by (first | assumption | (((try simp only [SA] at *); (try simp (disch := omega) only [SB, reduceCtorEq] at *)) <;> first | omega | assumption | (refine ⟨?_, ?_⟩ <;> assumption) | (refine ⟨?_, ?_, ?_⟩ <;> assumption) | (intros; assumption) | (right; right; assumption) | (right; left; assumption) | (left; assumption)))) (by (first | assumption | (((try simp only [SA] at *); (try simp (disch := omega) only [SB, reduceCtorEq] at *)) <;> first | omega | assumption | (refine ⟨?_, ?_⟩ <;> assumption) | (refine ⟨?_, ?_, ?_⟩ <;> assumption) | (intros; assumption) | (right; right; assumption) | (right; left; assumption) | (left; assumption))))) (cP (@iaddrName (w) (by (first | assumption | (((try simp only [SA] at *); (try simp (disch := omega) only [SB, reduceCtorEq] at *)) <;> first | omega | assumption | (refine ⟨?_, ?_⟩ <;> assumption) | (refine ⟨?_, ?_, ?_⟩ <;> assumption) | (intros; assumption) | (right; right; assumption) | (right; left; assumption) | (left; assumption)))) (by (first | assumption | (((try simp only [SA] at *); (try simp (disch := omega) only [SB, reduceCtorEq] at *)) <;> first | omega | assumption | (refine ⟨?_, ?_⟩ <;> assumption) | (refine ⟨?_, ?_, ?_⟩ <;> assumption) | (intros; assumption) | (right; right; assumption) | (right; left; assumption) | (left; assumption))))) (cP h1 (cP h0 (cP h0 (cP h0 (cP h0 nilE))))))))))))))))))))))) (by kernel_rfl) rfl rfl
set_option maxHeartbeats 4000000 in
theorem lnM3 : lnM3_T := by
  intro w n t hw k0 k1 g2 g3 g4 g5 hn ho
  have h0 : (decide (w < (1 : Int))) = false := by (first | assumption | (((try simp only [SA] at *); (try simp (disch := omega) only [SB, reduceCtorEq] at *)) <;> first | omega | assumption | (refine ⟨?_, ?_⟩ <;> assumption) | (refine ⟨?_, ?_, ?_⟩ <;> assumption) | (intros; assumption) | (right; right; assumption) | (right; left; assumption) | (left; assumption)))
  have h1 : (decide (w ≥ (11 : Int))) = false := by (first | assumption | (((try simp only [SA] at *); (try simp (disch := omega) only [SB, reduceCtorEq] at *)) <;> first | omega | assumption | (refine ⟨?_, ?_⟩ <;> assumption) | (refine ⟨?_, ?_, ?_⟩ <;> assumption) | (intros; assumption) | (right; right; assumption) | (right; left; assumption) | (left; assumption)))
  have h2 : (w == (1 : Int)) = false := by (first | assumption | (((try simp only [SA] at *); (try simp (disch := omega) only [SB, reduceCtorEq] at *)) <;> first | omega | assumption | (refine ⟨?_, ?_⟩ <;> assumption) | (refine ⟨?_, ?_, ?_⟩ <;> assumption) | (intros; assumption) | (right; right; assumption) | (right; left; assumption) | (left; assumption)))
  rcases Bool.eq_false_or_eq_true (w == (3 : Int)) with h3 | h3
  · exact pV 12 [(2, bf), (3, bf), (5, bf), (7, bf), (8, bf), (10, .v (V.d (D.ref globNames ((0 : Nat) + ((Int.toNat w) * (1 : Nat)))))), (11, .v (V.d (D.str (nameW w)))), (14, bf), (18, bt), (19, bt), (20, bt), (29, .v (V.d (D.str (itoaF n)))), (30, .v (V.d (D.str (sp (itoaF n))))), (31, .v (V.d (D.str ((nameW w) ++ (sp (itoaF n)))))), (32, .v (V.d (D.tup [(D.agg [(D.int IntKind.i64 (0 : Int)), (D.int IntKind.i64 (0 : Int)), (D.str [])]), (D.int IntKind.i64 (4 : Int))])))] (cC (@parseNo ((nameW w) ++ (sp (itoaF n))) g5 hn ho) (cP (@strAdd (nameW w) (sp (itoaF n)) (by (first | assumption | (((try simp only [SA] at *); (try simp (disch := omega) only [SB, reduceCtorEq] at *)) <;> first | omega | assumption | (refine ⟨?_, ?_⟩ <;> assumption) | (refine ⟨?_, ?_, ?_⟩ <;> assumption) | (intros; assumption) | (right; right; assumption) | (right; left; assumption) | (left; assumption)))) (by (first | assumption | (((try simp only [SA] at *); (try simp (disch := omega) only [SB, reduceCtorEq] at *)) <;> first | omega | assumption | (refine ⟨?_, ?_⟩ <;> assumption) | (refine ⟨?_, ?_, ?_⟩ <;> assumption) | (intros; assumption) | (right; right; assumption) | (right; left; assumption) | (left; assumption))))) (cP (@strSp (itoaF n) (by (first | assumption | (((try simp only [SA] at *); (try simp (disch := omega) only [SB, reduceCtorEq] at *)) <;> first | omega | assumption | (refine ⟨?_, ?_⟩ <;> assumption) | (refine ⟨?_, ?_, ?_⟩ <;> assumption) | (intros; assumption) | (right; right; assumption) | (right; left; assumption) | (left; assumption))))) (cC (@itoaN (n) k0 k1) (cP h3 (cP h3 (cP h3 (cP h2 (cP (@loadName (w) ([(Ob.cells [(V.d (D.int IntKind.i64 w)), (V.d (D.int IntKind.i64 n)), (V.d (D.str t))])]) (by (first | assumption | (((try simp only [SA] at *); (try simp (disch := omega) only [SB, reduceCtorEq] at *)) <;> first | omega | assumption | (refine ⟨?_, ?_⟩ <;> assumption) | (refine ⟨?_, ?_, ?_⟩ <;> assumption) | (intros; assumption) | (right; right; assumption) | (right; left; assumption) | (left; assumption)))) (by (first | assumption | (((try simp only [SA] at *); (try simp (disch := omega) only [SB, reduceCtorEq] at *)) <;> first | omega | assumption | (refine ⟨?_, ?_⟩ <;> assumption) | (refine ⟨?_, ?_, ?_⟩ <;> assumption) | (intros; assumption) | (right; right; assumption) | (right; left; assumption) | (left; assumption))))) (cP (@iaddrName (w) (by (first | assumption | (((try simp only [SA] at *); (try simp (disch := omega) only [SB, reduceCtorEq] at *)) <;> first | omega | assumption | (refine ⟨?_, ?_⟩ <;> assumption) | (refine ⟨?_, ?_, ?_⟩ <;> assumption) | (intros; assumption) | (right; right; assumption) | (right; left; assumption) | (left; assumption)))) (by (first | assumption | (((try simp only [SA] at *); (try simp (disch := omega) only [SB, reduceCtorEq] at *)) <;> first | omega | assumption | (refine ⟨?_, ?_⟩ <;> assumption) | (refine ⟨?_, ?_, ?_⟩ <;> assumption) | (intros; assumption) | (right; right; assumption) | (right; left; assumption) | (left; assumption))))) (cP h1 (cP h0 (cP h0 (cP h0 (cP h0 nilE))))))))))))))) (by kernel_rfl) rfl rfl
  · rcases Bool.eq_false_or_eq_true (w == (4 : Int)) with h4 | h4
    · exact pV 12 [(2, bf), (3, bf), (5, bf), (7, bf), (8, bf), (10, .v (V.d (D.ref globNames ((0 : Nat) + ((Int.toNat w) * (1 : Nat)))))), (11, .v (V.d (D.str (nameW w)))), (14, bf), (18, bf), (19, bf), (21, bf), (22, bt), (23, bt), (24, bt), (30, .v (V.d (D.str (itoaF n)))), (31, .v (V.d (D.str (sp (itoaF n))))), (32, .v (V.d (D.str ((nameW w) ++ (sp (itoaF n)))))), (33, .v (V.d (D.tup [(D.agg [(D.int IntKind.i64 (0 : Int)), (D.int IntKind.i64 (0 : Int)), (D.str [])]), (D.int IntKind.i64 (4 : Int))])))] (cC (@parseNo ((nameW w) ++ (sp (itoaF n))) g5 hn ho) (cP (@strAdd (nameW w) (sp (itoaF n)) (by (first | assumption | (((try simp only [SA] at *); (try simp (disch := omega) only [SB, reduceCtorEq] at *)) <;> first | omega | assumption | (refine ⟨?_, ?_⟩ <;> assumption) | (refine ⟨?_, ?_, ?_⟩ <;> assumption) | (intros; assumption) | (right; right; assumption) | (right; left; assumption) | (left; assumption)))) (by (first | assumption | (((try simp only [SA] at *); (try simp (disch := omega) only [SB, reduceCtorEq] at *)) <;> first | omega | assumption | (refine ⟨?_, ?_⟩ <;> assumption) | (refine ⟨?_, ?_, ?_⟩ <;> assumption) | (intros; assumption) | (right; right; assumption) | (right; left; assumption) | (left; assumption))))) (cP (@strSp (itoaF n) (by (first | assumption | (((try simp only [SA] at *); (try simp (disch := omega) only [SB, reduceCtorEq] at *)) <;> first | omega | assumption | (refine ⟨?_, ?_⟩ <;> assumption) | (refine ⟨?_, ?_, ?_⟩ <;> assumption) | (intros; assumption) | (right; right; assumption) | (right; left; assumption) | (left; assumption))))) (cC (@itoaN (n) k0 k1) (cP h4 (cP h4 (cP h4 (cP h3 (cP h3 (cP h3 (cP h2 (cP (@loadName (w) ([(Ob.cells [(V.d (D.int IntKind.i64 w)), (V.d (D.int IntKind.i64 n)), (V.d (D.str t))])]) (by (first | assumption | (((try simp only [SA] at *); (try simp (disch := omega) only [SB, reduceCtorEq] at *)) <;> first | omega | assumption | (refine ⟨?_, ?_⟩ <;> assumption) | (refine ⟨?_, ?_, ?_⟩ <;> assumption) | (intros; assumption) | (right; right; assumption) | (right; left; assumption) | (left; assumption)))) (by (first | assumption | (((try simp only [SA] at *); (try simp (disch := omega) only [SB, reduceCtorEq] at *)) <;> first | omega | assumption | (refine ⟨?_, ?_⟩ <;> assumption) | (refine ⟨?_, ?_, ?_⟩ <;> assumption) | (intros; assumption) | (right; right; assumption) | (right; left; assumption) | (left; assumption))))) (cP (@iaddrName (w) (by (first | assumption | (((try simp only [SA] at *); (try simp (disch := omega) only [SB, reduceCtorEq] at *)) <;> first | omega | assumption | (refine ⟨?_, ?_⟩ <;> assumption) | (refine ⟨?_, ?_, ?_⟩ <;> assumption) | (intros; assumption) | (right; right; assumption) | (right; left; assumption) | (left; assumption)))) (by (first | assumption | (((try simp only [SA] at *); (try simp (disch := omega) only [SB, reduceCtorEq] at *)) <;> first | omega | assumption | (refine ⟨?_, ?_⟩ <;> assumption) | (refine ⟨?_, ?_, ?_⟩ <;> assumption) | (intros; assumption) | (right; right; assumption) | (right; left; assumption) | (left; assumption))))) (cP h1 (cP h0 (cP h0 (cP h0 (cP h0 nilE)))))))))))))))))) (by kernel_rfl) rfl rfl
    · rcases Bool.eq_false_or_eq_true (w == (9 : Int)) with h5 | h5
      · exact pV 12 [(2, bf), (3, bf), (5, bf), (7, bf), (8, bf), (10, .v (V.d (D.ref globNames ((0 : Nat) + ((Int.toNat w) * (1 : Nat)))))), (11, .v (V.d (D.str (nameW w)))), (14, bf), (18, bf), (19, bf), (21, bf), (22, bf), (23, bf), (25, bf), (26, bt), (27, bt), (28, bt), (31, .v (V.d (D.str (itoaF n)))), (32, .v (V.d (D.str (sp (itoaF n))))), (33, .v (V.d (D.str ((nameW w) ++ (sp (itoaF n)))))), (34, .v (V.d (D.tup [(D.agg [(D.int IntKind.i64 (0 : Int)), (D.int IntKind.i64 (0 : Int)), (D.str [])]), (D.int IntKind.i64 (4 : Int))])))] (cC (@parseNo ((nameW w) ++ (sp (itoaF n))) g5 hn ho) (cP (@strAdd (nameW w) (sp (itoaF n)) (by (first | assumption | (((try simp only [SA] at *); (try simp (disch := omega) only [SB, reduceCtorEq] at *)) <;> first | omega | assumption | (refine ⟨?_, ?_⟩ <;> assumption) | (refine ⟨?_, ?_, ?_⟩ <;> assumption) | (intros; assumption) | (right; right; assumption) | (right; left; assumption) | (left; assumption)))) (by (first | assumption | (((try simp only [SA] at *); (try simp (disch := omega) only [SB, reduceCtorEq] at *)) <;> first | omega | assumption | (refine ⟨?_, ?_⟩ <;> assumption) | (refine ⟨?_, ?_, ?_⟩ <;> assumption) | (intros; assumption) | (right; right; assumption) | (right; left; assumption) | (left; assumption))))) (cP (@strSp (itoaF n) (by (first | assumption | (((try simp only [SA] at *); (try simp (disch := omega) only [SB, reduceCtorEq] at *)) <;> first | omega | assumption | (refine ⟨?_, ?_⟩ <;> assumption) | (refine ⟨?_, ?_, ?_⟩ <;> assumption) | (intros; assumption) | (right; right; assumption) | (right; left; assumption) | (left; assumption))))) (cC (@itoaN (n) k0 k1) (cP h5 (cP h5 (cP h5 (cP h4 (cP h4 (cP h4 (cP h3 (cP h3 (cP h3 (cP h2 (cP (@loadName (w) ([(Ob.cells [(V.d (D.int IntKind.i64 w)), (V.d (D.int IntKind.i64 n)), (V.d (D.str t))])]) (by (first | assumption | (((try simp only [SA] at *); (try simp (disch := omega) only [SB, reduceCtorEq] at *)) <;> first | omega | assumption | (refine ⟨?_, ?_⟩ <;> assumption) | (refine ⟨?_, ?_, ?_⟩ <;> assumption) | (intros; assumption) | (right; right; assumption) | (right; left; assumption) | (left; assumption)))) (by (first | assumption | (((try simp only [SA] at *); (try simp (disch := omega) only [SB, reduceCtorEq] at *)) <;> first | omega | assumption | (refine ⟨?_, ?_⟩ <;> assumption) | (refine ⟨?_, ?_, ?_⟩ <;> assumption) | (intros; assumption) | (right; right; assumption) | (right; left; assumption) | (left; assumption))))) (cP (@iaddrName (w) (by (first | assumption | (((try simp only [SA] at *); (try simp (disch := omega) only [SB, reduceCtorEq] at *)) <;> first | omega | assumption | (refine ⟨?_, ?_⟩ <;> assumption) | (refine ⟨?_, ?_, ?_⟩ <;> assumption) | (intros; assumption) | (right; right; assumption) | (right; left; assumption) | (left; assumption)))) (by (first | assumption | (((try simp only [SA] at *); (try simp (disch := omega) only [SB, reduceCtorEq] at *)) <;> first | omega | assumption | (refine ⟨?_, ?_⟩ <;> assumption) | (refine ⟨?_, ?_, ?_⟩ <;> assumption) | (intros; assumption) | (right; right; assumption) | (right; left; assumption) | (left; assumption))))) (cP h1 (cP h0 (cP h0 (cP h0 (cP h0 nilE))))))))))))))))))))) (by kernel_rfl) rfl rfl
      · have h6 : (w == (10 : Int)) = true := by (first | assumption | (((try simp only [SA] at *); (try simp (disch := omega) only [SB, reduceCtorEq] at *)) <;> first | omega | assumption | (refine ⟨?_, ?_⟩ <;> assumption) | (refine ⟨?_, ?_, ?_⟩ <;> assumption) | (intros; assumption) | (right; right; assumption) | (right; left; assumption) | (left; assumption)))
        exact pV 12 [(2, bf), (3, bf), (5, bf), (7, bf), (8, bf), (10, .v (V.d (D.ref globNames ((0 : Nat) + ((Int.toNat w) * (1 : Nat)))))), (11, .v (V.d (D.str (nameW w)))), (14, bf), (18, bf), (19, bf), (21, bf), (22, bf), (23, bf), (25, bf), (26, bf), (27, bf), (29, bf), (30, bt), (32, .v (V.d (D.str (itoaF n)))), (33, .v (V.d (D.str (sp (itoaF n))))), (34, .v (V.d (D.str ((nameW w) ++ (sp (itoaF n)))))), (35, .v (V.d (D.tup [(D.agg [(D.int IntKind.i64 (0 : Int)), (D.int IntKind.i64 (0 : Int)), (D.str [])]), (D.int IntKind.i64 (4 : Int))])))] (cC (@parseNo ((nameW w) ++ (sp (itoaF n))) g5 hn ho) (cP (@strAdd (nameW w) (sp (itoaF n)) (by (first | assumption | (((try simp only [SA] at *); (try simp (disch := omega) only [SB, reduceCtorEq] at *)) <;> first | omega | assumption | (refine ⟨?_, ?_⟩ <;> assumption) | (refine ⟨?_, ?_, ?_⟩ <;> assumption) | (intros; assumption) | (right; right; assumption) | (right; left; assumption) | (left; assumption)))) (by (first | assumption | (((try simp only [SA] at *); (try simp (disch := omega) only [SB, reduceCtorEq] at *)) <;> first | omega | assumption | (refine ⟨?_, ?_⟩ <;> assumption) | (refine ⟨?_, ?_, ?_⟩ <;> assumption) | (intros; assumption) | (right; right; assumption) | (right; left; assumption) | (left; assumption))))) (cP (@strSp (itoaF n) (by (first | assumption | (((try simp only [SA] at *); (try simp (disch := omega) only [SB, reduceCtorEq] at *)) <;> first | omega | assumption | (refine ⟨?_, ?_⟩ <;> assumption) | (refine ⟨?_, ?_, ?_⟩ <;> assumption) | (intros; assumption) | (right; right; assumption) | (right; left; assumption) | (left; assumption))))) (cC (@itoaN (n) k0 k1) (cP h6 (cP h5 (cP h5 (cP h5 (cP h4 (cP h4 (cP h4 (cP h3 (cP h3 (cP h3 (cP h2 (cP (@loadName (w) ([(Ob.cells [(V.d (D.int IntKind.i64 w)), (V.d (D.int IntKind.i64 n)), (V.d (D.str t))])]) (by (first | assumption | (((try simp only [SA] at *); (try simp (disch := omega) only [SB, reduceCtorEq] at *)) <;> first | omega | assumption | (refine ⟨?_, ?_⟩ <;> assumption) | (refine ⟨?_, ?_, ?_⟩ <;> assumption) | (intros; assumption) | (right; right; assumption) | (right; left; assumption) | (left; assumption)))) (by (first | assumption | (((try simp only [SA] at *); (try simp (disch := omega) only [SB, reduceCtorEq] at *)) <;> first | omega | assumption | (refine ⟨?_, ?_⟩ <;> assumption) | (refine ⟨?_, ?_, ?_⟩ <;> assumption) | (intros; assumption) | (right; right; assumption) | (right; left; assumption) | (left; assumption))))) (cP (@iaddrName (w) (by (first | assumption | (((try simp only [SA] at *); (try simp (disch := omega) only [SB, reduceCtorEq] at *)) <;> first | omega | assumption | (refine ⟨?_, ?_⟩ <;> assumption) | (refine ⟨?_, ?_, ?_⟩ <;> assumption) | (intros; assumption) | (right; right; assumption) | (right; left; assumption) | (left; assumption)))) (by (first | assumption | (((try simp only [SA] at *); (try simp (disch := omega) only [SB, reduceCtorEq] at *)) <;> first | omega | assumption | (refine ⟨?_, ?_⟩ <;> assumption) | (refine ⟨?_, ?_, ?_⟩ <;> assumption) | (intros; assumption) | (right; right; assumption) | (right; left; assumption) | (left; assumption))))) (cP h1 (cP h0 (cP h0 (cP h0 (cP h0 nilE)))))))))))))))))))))) (by kernel_rfl) rfl rfl
set_option maxHeartbeats 4000000 in
theorem lnW1 : lnW1_T := by
  intro w n t hw g5 hn ho e1 e2 e3
  have h0 : (decide (w < (1 : Int))) = false := by (first | assumption | (((try simp only [SA] at *); (try simp (disch := omega) only [SB, reduceCtorEq] at *)) <;> first | omega | assumption | (refine ⟨?_, ?_⟩ <;> assumption) | (refine ⟨?_, ?_, ?_⟩ <;> assumption) | (intros; assumption) | (right; right; assumption) | (right; left; assumption) | (left; assumption)))
  have h1 : (decide (w ≥ (11 : Int))) = false := by (first | assumption | (((try simp only [SA] at *); (try simp (disch := omega) only [SB, reduceCtorEq] at *)) <;> first | omega | assumption | (refine ⟨?_, ?_⟩ <;> assumption) | (refine ⟨?_, ?_, ?_⟩ <;> assumption) | (intros; assumption) | (right; right; assumption) | (right; left; assumption) | (left; assumption)))
  have h2 : (w == (1 : Int)) = false := by (first | assumption | (((try simp only [SA] at *); (try simp (disch := omega) only [SB, reduceCtorEq] at *)) <;> first | omega | assumption | (refine ⟨?_, ?_⟩ <;> assumption) | (refine ⟨?_, ?_, ?_⟩ <;> assumption) | (intros; assumption) | (right; right; assumption) | (right; left; assumption) | (left; assumption)))
  have h3 : (w == (3 : Int)) = false := by (first | assumption | (((try simp only [SA] at *); (try simp (disch := omega) only [SB, reduceCtorEq] at *)) <;> first | omega | assumption | (refine ⟨?_, ?_⟩ <;> assumption) | (refine ⟨?_, ?_, ?_⟩ <;> assumption) | (intros; assumption) | (right; right; assumption) | (right; left; assumption) | (left; assumption)))
  have h4 : (w == (4 : Int)) = false := by (first | assumption | (((try simp only [SA] at *); (try simp (disch := omega) only [SB, reduceCtorEq] at *)) <;> first | omega | assumption | (refine ⟨?_, ?_⟩ <;> assumption) | (refine ⟨?_, ?_, ?_⟩ <;> assumption) | (intros; assumption) | (right; right; assumption) | (right; left; assumption) | (left; assumption)))
  have h5 : (w == (9 : Int)) = false := by (first | assumption | (((try simp only [SA] at *); (try simp (disch := omega) only [SB, reduceCtorEq] at *)) <;> first | omega | assumption | (refine ⟨?_, ?_⟩ <;> assumption) | (refine ⟨?_, ?_, ?_⟩ <;> assumption) | (intros; assumption) | (right; right; assumption) | (right; left; assumption) | (left; assumption)))
  have h6 : (w == (10 : Int)) = false := by (first | assumption | (((try simp only [SA] at *); (try simp (disch := omega) only [SB, reduceCtorEq] at *)) <;> first | omega | assumption | (refine ⟨?_, ?_⟩ <;> assumption) | (refine ⟨?_, ?_, ?_⟩ <;> assumption) | (intros; assumption) | (right; right; assumption) | (right; left; assumption) | (left; assumption)))
  have h7 : (!(((refW (nameW w)) == w) && (((refN (nameW w)) == n) && (((refT (nameW w)) == t) && true)))) = false := by (first | assumption | (((try simp only [SA] at *); (try simp (disch := omega) only [SB, reduceCtorEq] at *)) <;> first | omega | assumption | (refine ⟨?_, ?_⟩ <;> assumption) | (refine ⟨?_, ?_, ?_⟩ <;> assumption) | (intros; assumption) | (right; right; assumption) | (right; left; assumption) | (left; assumption)))
  exact pV 12 [(2, bf), (3, bf), (5, bf), (7, bf), (8, bf), (10, .v (V.d (D.ref globNames ((0 : Nat) + ((Int.toNat w) * (1 : Nat)))))), (11, .v (V.d (D.str (nameW w)))), (14, bf), (18, bf), (19, bf), (21, bf), (22, bf), (23, bf), (25, bf), (26, bf), (27, bf), (29, bf), (30, bf), (31, .v (V.d (D.tup [(D.agg [(D.int IntKind.i64 (refW (nameW w))), (D.int IntKind.i64 (refN (nameW w))), (D.str (refT (nameW w)))]), (D.int IntKind.i64 (0 : Int))]))), (40, bf)] (cP h7 (cC (@parseYes (nameW w) (by (first | assumption | (((try simp only [SA] at *); (try simp (disch := omega) only [SB, reduceCtorEq] at *)) <;> first | omega | assumption | (refine ⟨?_, ?_⟩ <;> assumption) | (refine ⟨?_, ?_, ?_⟩ <;> assumption) | (intros; assumption) | (right; right; assumption) | (right; left; assumption) | (left; assumption)))) hn ho) (cP h6 (cP h5 (cP h5 (cP h5 (cP h4 (cP h4 (cP h4 (cP h3 (cP h3 (cP h3 (cP h2 (cP (@loadName (w) ([(Ob.cells [(V.d (D.int IntKind.i64 w)), (V.d (D.int IntKind.i64 n)), (V.d (D.str t))])]) (by (first | assumption | (((try simp only [SA] at *); (try simp (disch := omega) only [SB, reduceCtorEq] at *)) <;> first | omega | assumption | (refine ⟨?_, ?_⟩ <;> assumption) | (refine ⟨?_, ?_, ?_⟩ <;> assumption) | (intros; assumption) | (right; right; assumption) | (right; left; assumption) | (left; assumption)))) (by (first | assumption | (((try simp only [SA] at *); (try simp (disch := omega) only [SB, reduceCtorEq] at *)) <;> first | omega | assumption | (refine ⟨?_, ?_⟩ <;> assumption) | (refine ⟨?_, ?_, ?_⟩ <;> assumption) | (intros; assumption) | (right; right; assumption) | (right; left; assumption) | (left; assumption))))) (cP (@iaddrName (w) (by (first | assumption | (((try simp only [SA] at *); (try simp (disch := omega) only [SB, reduceCtorEq] at *)) <;> first | omega | assumption | (refine ⟨?_, ?_⟩ <;> assumption) | (refine ⟨?_, ?_, ?_⟩ <;> assumption) | (intros; assumption) | (right; right; assumption) | (right; left; assumption) | (left; assumption)))) (by (first | assumption | (((try simp only [SA] at *); (try simp (disch := omega) only [SB, reduceCtorEq] at *)) <;> first | omega | assumption | (refine ⟨?_, ?_⟩ <;> assumption) | (refine ⟨?_, ?_, ?_⟩ <;> assumption) | (intros; assumption) | (right; right; assumption) | (right; left; assumption) | (left; assumption))))) (cP h1 (cP h0 (cP h0 (cP h0 (cP h0 nilE)))))))))))))))))))) (by kernel_rfl) rfl rfl
set_option maxHeartbeats 4000000 in
theorem lnW2 : lnW2_T := by
  intro w n t hw g5 hn ho e1 e2
  have h0 : (decide (w < (1 : Int))) = false := by (first | assumption | (((try simp only [SA] at *); (try simp (disch := omega) only [SB, reduceCtorEq] at *)) <;> first | omega | assumption | (refine ⟨?_, ?_⟩ <;> assumption) | (refine ⟨?_, ?_, ?_⟩ <;> assumption) | (intros; assumption) | (right; right; assumption) | (right; left; assumption) | (left; assumption)))
  have h1 : (decide (w ≥ (11 : Int))) = false := by (first | assumption | (((try simp only [SA] at *); (try simp (disch := omega) only [SB, reduceCtorEq] at *)) <;> first | omega | assumption | (refine ⟨?_, ?_⟩ <;> assumption) | (refine ⟨?_, ?_, ?_⟩ <;> assumption) | (intros; assumption) | (right; right; assumption) | (right; left; assumption) | (left; assumption)))
  have h2 : (w == (1 : Int)) = false := by (first | assumption | (((try simp only [SA] at *); (try simp (disch := omega) only [SB, reduceCtorEq] at *)) <;> first | omega | assumption | (refine ⟨?_, ?_⟩ <;> assumption) | (refine ⟨?_, ?_, ?_⟩ <;> assumption) | (intros; assumption) | (right; right; assumption) | (right; left; assumption) | (left; assumption)))
  have h3 : (w == (3 : Int)) = false := by (first | assumption | (((try simp only [SA] at *); (try simp (disch := omega) only [SB, reduceCtorEq] at *)) <;> first | omega | assumption | (refine ⟨?_, ?_⟩ <;> assumption) | (refine ⟨?_, ?_, ?_⟩ <;> assumption) | (intros; assumption) | (right; right; assumption) | (right; left; assumption) | (left; assumption)))
  have h4 : (w == (4 : Int)) = false := by (first | assumption | (((try simp only [SA] at *); (try simp (disch := omega) only [SB, reduceCtorEq] at *)) <;> first | omega | assumption | (refine ⟨?_, ?_⟩ <;> assumption) | (refine ⟨?_, ?_, ?_⟩ <;> assumption) | (intros; assumption) | (right; right; assumption) | (right; left; assumption) | (left; assumption)))
  have h5 : (w == (9 : Int)) = false := by (first | assumption | (((try simp only [SA] at *); (try simp (disch := omega) only [SB, reduceCtorEq] at *)) <;> first | omega | assumption | (refine ⟨?_, ?_⟩ <;> assumption) | (refine ⟨?_, ?_, ?_⟩ <;> assumption) | (intros; assumption) | (right; right; assumption) | (right; left; assumption) | (left; assumption)))
  have h6 : (w == (10 : Int)) = false := by (first | assumption | (((try simp only [SA] at *); (try simp (disch := omega) only [SB, reduceCtorEq] at *)) <;> first | omega | assumption | (refine ⟨?_, ?_⟩ <;> assumption) | (refine ⟨?_, ?_, ?_⟩ <;> assumption) | (intros; assumption) | (right; right; assumption) | (right; left; assumption) | (left; assumption)))
  have h7 : (!(((refW (nameW w)) == w) && (((refN (nameW w)) == n) && (((refT (nameW w)) == t) && true)))) = true := by (first | assumption | (((try simp only [SA] at *); (try simp (disch := omega) only [SB, reduceCtorEq] at *)) <;> first | omega | assumption | (refine ⟨?_, ?_⟩ <;> assumption) | (refine ⟨?_, ?_, ?_⟩ <;> assumption) | (intros; assumption) | (right; right; assumption) | (right; left; assumption) | (left; assumption)))
  exact pV 12 [(2, bf), (3, bf), (5, bf), (7, bf), (8, bf), (10, .v (V.d (D.ref globNames ((0 : Nat) + ((Int.toNat w) * (1 : Nat)))))), (11, .v (V.d (D.str (nameW w)))), (14, bf), (18, bf), (19, bf), (21, bf), (22, bf), (23, bf), (25, bf), (26, bf), (27, bf), (29, bf), (30, bf), (31, .v (V.d (D.tup [(D.agg [(D.int IntKind.i64 (refW (nameW w))), (D.int IntKind.i64 (refN (nameW w))), (D.str (refT (nameW w)))]), (D.int IntKind.i64 (0 : Int))]))), (40, bt)] (cP h7 (cC (@parseYes (nameW w) (by (first | assumption | (((try simp only [SA] at *); (try simp (disch := omega) only [SB, reduceCtorEq] at *)) <;> first | omega | assumption | (refine ⟨?_, ?_⟩ <;> assumption) | (refine ⟨?_, ?_, ?_⟩ <;> assumption) | (intros; assumption) | (right; right; assumption) | (right; left; assumption) | (left; assumption)))) hn ho) (cP h6 (cP h5 (cP h5 (cP h5 (cP h4 (cP h4 (cP h4 (cP h3 (cP h3 (cP h3 (cP h2 (cP (@loadName (w) ([(Ob.cells [(V.d (D.int IntKind.i64 w)), (V.d (D.int IntKind.i64 n)), (V.d (D.str t))])]) (by (first | assumption | (((try simp only [SA] at *); (try simp (disch := omega) only [SB, reduceCtorEq] at *)) <;> first | omega | assumption | (refine ⟨?_, ?_⟩ <;> assumption) | (refine ⟨?_, ?_, ?_⟩ <;> assumption) | (intros; assumption) | (right; right; assumption) | (right; left; assumption) | (left; assumption)))) (by (first | assumption | (((try simp only [SA] at *); (try simp (disch := omega) only [SB, reduceCtorEq] at *)) <;> first | omega | assumption | (refine ⟨?_, ?_⟩ <;> assumption) | (refine ⟨?_, ?_, ?_⟩ <;> assumption) | (intros; assumption) | (right; right; assumption) | (right; left; assumption) | (left; assumption))))) (cP (@iaddrName (w) (by (first | assumption | (((try simp only [SA] at *); (try simp (disch := omega) only [SB, reduceCtorEq] at *)) <;> first | omega | assumption | (refine ⟨?_, ?_⟩ <;> assumption) | (refine ⟨?_, ?_, ?_⟩ <;> assumption) | (intros; assumption) | (right; right; assumption) | (right; left; assumption) | (left; assumption)))) (by (first | assumption | (((try simp only [SA] at *); (try simp (disch := omega) only [SB, reduceCtorEq] at *)) <;> first | omega | assumption | (refine ⟨?_, ?_⟩ <;> assumption) | (refine ⟨?_, ?_, ?_⟩ <;> assumption) | (intros; assumption) | (right; right; assumption) | (right; left; assumption) | (left; assumption))))) (cP h1 (cP h0 (cP h0 (cP h0 (cP h0 nilE)))))))))))))))))))) (by kernel_rfl) rfl rfl
set_option maxHeartbeats 4000000 in
theorem lnW3 : lnW3_T := by
  intro w n t hw g5 hn ho e1 e2 e3
  have h0 : (decide (w < (1 : Int))) = false := by (first | assumption | (((try simp only [SA] at *); (try simp (disch := omega) only [SB, reduceCtorEq] at *)) <;> first | omega | assumption | (refine ⟨?_, ?_⟩ <;> assumption) | (refine ⟨?_, ?_, ?_⟩ <;> assumption) | (intros; assumption) | (right; right; assumption) | (right; left; assumption) | (left; assumption)))
  have h1 : (decide (w ≥ (11 : Int))) = false := by (first | assumption | (((try simp only [SA] at *); (try simp (disch := omega) only [SB, reduceCtorEq] at *)) <;> first | omega | assumption | (refine ⟨?_, ?_⟩ <;> assumption) | (refine ⟨?_, ?_, ?_⟩ <;> assumption) | (intros; assumption) | (right; right; assumption) | (right; left; assumption) | (left; assumption)))
  have h2 : (w == (1 : Int)) = false := by (first | assumption | (((try simp only [SA] at *); (try simp (disch := omega) only [SB, reduceCtorEq] at *)) <;> first | omega | assumption | (refine ⟨?_, ?_⟩ <;> assumption) | (refine ⟨?_, ?_, ?_⟩ <;> assumption) | (intros; assumption) | (right; right; assumption) | (right; left; assumption) | (left; assumption)))
  have h3 : (w == (3 : Int)) = false := by (first | assumption | (((try simp only [SA] at *); (try simp (disch := omega) only [SB, reduceCtorEq] at *)) <;> first | omega | assumption | (refine ⟨?_, ?_⟩ <;> assumption) | (refine ⟨?_, ?_, ?_⟩ <;> assumption) | (intros; assumption) | (right; right; assumption) | (right; left; assumption) | (left; assumption)))
  have h4 : (w == (4 : Int)) = false := by (first | assumption | (((try simp only [SA] at *); (try simp (disch := omega) only [SB, reduceCtorEq] at *)) <;> first | omega | assumption | (refine ⟨?_, ?_⟩ <;> assumption) | (refine ⟨?_, ?_, ?_⟩ <;> assumption) | (intros; assumption) | (right; right; assumption) | (right; left; assumption) | (left; assumption)))
  have h5 : (w == (9 : Int)) = false := by (first | assumption | (((try simp only [SA] at *); (try simp (disch := omega) only [SB, reduceCtorEq] at *)) <;> first | omega | assumption | (refine ⟨?_, ?_⟩ <;> assumption) | (refine ⟨?_, ?_, ?_⟩ <;> assumption) | (intros; assumption) | (right; right; assumption) | (right; left; assumption) | (left; assumption)))
  have h6 : (w == (10 : Int)) = false := by (first | assumption | (((try simp only [SA] at *); (try simp (disch := omega) only [SB, reduceCtorEq] at *)) <;> first | omega | assumption | (refine ⟨?_, ?_⟩ <;> assumption) | (refine ⟨?_, ?_, ?_⟩ <;> assumption) | (intros; assumption) | (right; right; assumption) | (right; left; assumption) | (left; assumption)))
  have h7 : (!(((refW (nameW w)) == w) && (((refN (nameW w)) == n) && (((refT (nameW w)) == t) && true)))) = true := by (first | assumption | (((try simp only [SA] at *); (try simp (disch := omega) only [SB, reduceCtorEq] at *)) <;> first | omega | assumption | (refine ⟨?_, ?_⟩ <;> assumption) | (refine ⟨?_, ?_, ?_⟩ <;> assumption) | (intros; assumption) | (right; right; assumption) | (right; left; assumption) | (left; assumption)))
  exact pV 12 [(2, bf), (3, bf), (5, bf), (7, bf), (8, bf), (10, .v (V.d (D.ref globNames ((0 : Nat) + ((Int.toNat w) * (1 : Nat)))))), (11, .v (V.d (D.str (nameW w)))), (14, bf), (18, bf), (19, bf), (21, bf), (22, bf), (23, bf), (25, bf), (26, bf), (27, bf), (29, bf), (30, bf), (31, .v (V.d (D.tup [(D.agg [(D.int IntKind.i64 (refW (nameW w))), (D.int IntKind.i64 (refN (nameW w))), (D.str (refT (nameW w)))]), (D.int IntKind.i64 (0 : Int))]))), (40, bt)] (cP h7 (cC (@parseYes (nameW w) (by (first | assumption | (((try simp only [SA] at *); (try simp (disch := omega) only [SB, reduceCtorEq] at *)) <;> first | omega | assumption | (refine ⟨?_, ?_⟩ <;> assumption) | (refine ⟨?_, ?_, ?_⟩ <;> assumption) | (intros; assumption) | (right; right; assumption) | (right; left; assumption) | (left; assumption)))) hn ho) (cP h6 (cP h5 (cP h5 (cP h5 (cP h4 (cP h4 (cP h4 (cP h3 (cP h3 (cP h3 (cP h2 (cP (@loadName (w) ([(Ob.cells [(V.d (D.int IntKind.i64 w)), (V.d (D.int IntKind.i64 n)), (V.d (D.str t))])]) (by (first | assumption | (((try simp only [SA] at *); (try simp (disch := omega) only [SB, reduceCtorEq] at *)) <;> first | omega | assumption | (refine ⟨?_, ?_⟩ <;> assumption) | (refine ⟨?_, ?_, ?_⟩ <;> assumption) | (intros; assumption) | (right; right; assumption) | (right; left; assumption) | (left; assumption)))) (by (first | assumption | (((try simp only [SA] at *); (try simp (disch := omega) only [SB, reduceCtorEq] at *)) <;> first | omega | assumption | (refine ⟨?_, ?_⟩ <;> assumption) | (refine ⟨?_, ?_, ?_⟩ <;> assumption) | (intros; assumption) | (right; right; assumption) | (right; left; assumption) | (left; assumption))))) (cP (@iaddrName (w) (by (first | assumption | (((try simp only [SA] at *); (try simp (disch := omega) only [SB, reduceCtorEq] at *)) <;> first | omega | assumption | (refine ⟨?_, ?_⟩ <;> assumption) | (refine ⟨?_, ?_, ?_⟩ <;> assumption) | (intros; assumption) | (right; right; assumption) | (right; left; assumption) | (left; assumption)))) (by (first | assumption | (((try simp only [SA] at *); (try simp (disch := omega) only [SB, reduceCtorEq] at *)) <;> first | omega | assumption | (refine ⟨?_, ?_⟩ <;> assumption) | (refine ⟨?_, ?_, ?_⟩ <;> assumption) | (intros; assumption) | (right; right; assumption) | (right; left; assumption) | (left; assumption))))) (cP h1 (cP h0 (cP h0 (cP h0 (cP h0 nilE)))))))))))))))))))) (by kernel_rfl) rfl rfl
set_option maxHeartbeats 4000000 in
theorem hs0 : hs0_T := by
  intro w n t h
  rcases Bool.eq_false_or_eq_true (decide (w < (1 : Int))) with h0 | h0
  · exact pV 12 [(2, bt), (3, bt), (4, bt), (5, bt)] (cP h0 (cP h0 (cP h0 (cP h0 nilE)))) (by kernel_rfl) rfl rfl
  · have h1 : (decide (w > (10 : Int))) = true := by (first | assumption | (((try simp only [SA] at *); (try simp (disch := omega) only [SB, reduceCtorEq] at *)) <;> first | omega | assumption | (refine ⟨?_, ?_⟩ <;> assumption) | (refine ⟨?_, ?_, ?_⟩ <;> assumption) | (intros; assumption) | (right; right; assumption)))
    exact pV 12 [(2, bf), (3, bf), (5, bf), (7, bf), (8, bt), (9, bt), (10, bt), (11, bt), (12, bt), (13, bt)] (cP h1 (cP h1 (cP h1 (cP h1 (cP h1 (cP h1 (cP h0 (cP h0 (cP h0 (cP h0 nilE)))))))))) (by kernel_rfl) rfl rfl
set_option maxHeartbeats 4000000 in
theorem hs1 : hs1_T := by
  intro w n t h0 h1 ht
  have h0 : (decide (w < (1 : Int))) = false := by (first | assumption | (((try simp only [SA] at *); (try simp (disch := omega) only [SB, reduceCtorEq] at *)) <;> first | omega | assumption | (refine ⟨?_, ?_⟩ <;> assumption) | (refine ⟨?_, ?_, ?_⟩ <;> assumption) | (intros; assumption) | (right; right; assumption)))
  have h1 : (decide (w > (10 : Int))) = false := by (first | assumption | (((try simp only [SA] at *); (try simp (disch := omega) only [SB, reduceCtorEq] at *)) <;> first | omega | assumption | (refine ⟨?_, ?_⟩ <;> assumption) | (refine ⟨?_, ?_, ?_⟩ <;> assumption) | (intros; assumption) | (right; right; assumption)))
  have h2 : (w != (1 : Int)) = true := by (first | assumption | (((try simp only [SA] at *); (try simp (disch := omega) only [SB, reduceCtorEq] at *)) <;> first | omega | assumption | (refine ⟨?_, ?_⟩ <;> assumption) | (refine ⟨?_, ?_, ?_⟩ <;> assumption) | (intros; assumption) | (right; right; assumption)))
  have h3 : (!(t == [])) = true := by (first | assumption | (((try simp only [SA] at *); (try simp (disch := omega) only [SB, reduceCtorEq] at *)) <;> first | omega | assumption | (refine ⟨?_, ?_⟩ <;> assumption) | (refine ⟨?_, ?_, ?_⟩ <;> assumption) | (intros; assumption) | (right; right; assumption)))
  exact pV 12 [(2, bf), (3, bf), (5, bf), (7, bf), (8, bf), (9, bf), (11, bf), (13, bf), (14, bt), (15, bt), (17, bt), (18, .v (V.d (D.bool !(t == [])))), (19, bf), (20, bt), (21, bf), (22, bt), (23, bt), (24, bt), (25, bt), (26, bt), (27, bt), (28, bt)] (cP h3 (cP h3 (cP h3 (cP h3 (cP h3 (cP h3 (cP h3 (cP h1 (cP h2 (cP h1 (cP (@strNe (t) ([])) (cP h2 (cP h2 (cP h2 (cP h1 (cP h1 (cP h1 (cP h1 (cP h0 (cP h0 (cP h0 (cP h0 nilE)))))))))))))))))))))) (by kernel_rfl) rfl rfl
set_option maxHeartbeats 4000000 in
theorem hs2a : hs2a_T := by
  intro w n t h0 hn
  have h0 : (decide (w < (1 : Int))) = false := by (first | assumption | (((try simp only [SA] at *); (try simp (disch := omega) only [SB, reduceCtorEq] at *)) <;> first | omega | assumption | (refine ⟨?_, ?_⟩ <;> assumption) | (refine ⟨?_, ?_, ?_⟩ <;> assumption) | (intros; assumption) | (right; right; assumption)))
  have h1 : (decide (w > (10 : Int))) = false := by (first | assumption | (((try simp only [SA] at *); (try simp (disch := omega) only [SB, reduceCtorEq] at *)) <;> first | omega | assumption | (refine ⟨?_, ?_⟩ <;> assumption) | (refine ⟨?_, ?_, ?_⟩ <;> assumption) | (intros; assumption) | (right; right; assumption)))
  have h2 : (w != (1 : Int)) = false := by (first | assumption | (((try simp only [SA] at *); (try simp (disch := omega) only [SB, reduceCtorEq] at *)) <;> first | omega | assumption | (refine ⟨?_, ?_⟩ <;> assumption) | (refine ⟨?_, ?_, ?_⟩ <;> assumption) | (intros; assumption) | (right; right; assumption)))
  have h3 : (w == (3 : Int)) = false := by (first | assumption | (((try simp only [SA] at *); (try simp (disch := omega) only [SB, reduceCtorEq] at *)) <;> first | omega | assumption | (refine ⟨?_, ?_⟩ <;> assumption) | (refine ⟨?_, ?_, ?_⟩ <;> assumption) | (intros; assumption) | (right; right; assumption)))
  have h4 : (w == (4 : Int)) = false := by (first | assumption | (((try simp only [SA] at *); (try simp (disch := omega) only [SB, reduceCtorEq] at *)) <;> first | omega | assumption | (refine ⟨?_, ?_⟩ <;> assumption) | (refine ⟨?_, ?_, ?_⟩ <;> assumption) | (intros; assumption) | (right; right; assumption)))
  have h5 : (w == (9 : Int)) = false := by (first | assumption | (((try simp only [SA] at *); (try simp (disch := omega) only [SB, reduceCtorEq] at *)) <;> first | omega | assumption | (refine ⟨?_, ?_⟩ <;> assumption) | (refine ⟨?_, ?_, ?_⟩ <;> assumption) | (intros; assumption) | (right; right; assumption)))
  have h6 : (!(w == (10 : Int))) = true := by (first | assumption | (((try simp only [SA] at *); (try simp (disch := omega) only [SB, reduceCtorEq] at *)) <;> first | omega | assumption | (refine ⟨?_, ?_⟩ <;> assumption) | (refine ⟨?_, ?_, ?_⟩ <;> assumption) | (intros; assumption) | (right; right; assumption)))
  have h7 : (n != (0 : Int)) = true := by (first | assumption | (((try simp only [SA] at *); (try simp (disch := omega) only [SB, reduceCtorEq] at *)) <;> first | omega | assumption | (refine ⟨?_, ?_⟩ <;> assumption) | (refine ⟨?_, ?_, ?_⟩ <;> assumption) | (intros; assumption) | (right; right; assumption)))
  exact pV 12 [(2, bf), (3, bf), (5, bf), (7, bf), (8, bf), (9, bf), (11, bf), (13, bf), (14, bf), (15, bf), (16, bf), (17, bf), (18, bf), (19, bf), (26, bf), (27, bf), (29, bf), (30, bf), (31, bf), (33, bf), (34, bf), (35, bf), (37, bf), (40, bt), (41, bt), (43, bt), (46, bt), (48, bt)] (cP h7 (cP h6 (cP h6 (cP h6 (cP h6 (cP h5 (cP h5 (cP h5 (cP h4 (cP h4 (cP h4 (cP h3 (cP h3 (cP h3 (cP h1 (cP h2 (cP h1 (cP h2 (cP h2 (cP h2 (cP h1 (cP h1 (cP h1 (cP h1 (cP h0 (cP h0 (cP h0 (cP h0 nilE)))))))))))))))))))))))))))) (by kernel_rfl) rfl rfl
set_option maxHeartbeats 4000000 in
theorem hs2b : hs2b_T := by
  intro w n t hw ht hn
  have h0 : (decide (w < (1 : Int))) = false := by (first | assumption | (((try simp only [SA] at *); (try simp (disch := omega) only [SB, reduceCtorEq] at *)) <;> first | omega | assumption | (refine ⟨?_, ?_⟩ <;> assumption) | (refine ⟨?_, ?_, ?_⟩ <;> assumption) | (intros; assumption) | (right; right; assumption)))
  have h1 : (decide (w > (10 : Int))) = false := by (first | assumption | (((try simp only [SA] at *); (try simp (disch := omega) only [SB, reduceCtorEq] at *)) <;> first | omega | assumption | (refine ⟨?_, ?_⟩ <;> assumption) | (refine ⟨?_, ?_, ?_⟩ <;> assumption) | (intros; assumption) | (right; right; assumption)))
  have h2 : (w != (1 : Int)) = true := by (first | assumption | (((try simp only [SA] at *); (try simp (disch := omega) only [SB, reduceCtorEq] at *)) <;> first | omega | assumption | (refine ⟨?_, ?_⟩ <;> assumption) | (refine ⟨?_, ?_, ?_⟩ <;> assumption) | (intros; assumption) | (right; right; assumption)))
  have h3 : (!(t == [])) = false := by (first | assumption | (((try simp only [SA] at *); (try simp (disch := omega) only [SB, reduceCtorEq] at *)) <;> first | omega | assumption | (refine ⟨?_, ?_⟩ <;> assumption) | (refine ⟨?_, ?_, ?_⟩ <;> assumption) | (intros; assumption) | (right; right; assumption)))
  have h4 : (w == (3 : Int)) = false := by (first | assumption | (((try simp only [SA] at *); (try simp (disch := omega) only [SB, reduceCtorEq] at *)) <;> first | omega | assumption | (refine ⟨?_, ?_⟩ <;> assumption) | (refine ⟨?_, ?_, ?_⟩ <;> assumption) | (intros; assumption) | (right; right; assumption)))
  have h5 : (w == (4 : Int)) = false := by (first | assumption | (((try simp only [SA] at *); (try simp (disch := omega) only [SB, reduceCtorEq] at *)) <;> first | omega | assumption | (refine ⟨?_, ?_⟩ <;> assumption) | (refine ⟨?_, ?_, ?_⟩ <;> assumption) | (intros; assumption) | (right; right; assumption)))
  have h6 : (w == (9 : Int)) = false := by (first | assumption | (((try simp only [SA] at *); (try simp (disch := omega) only [SB, reduceCtorEq] at *)) <;> first | omega | assumption | (refine ⟨?_, ?_⟩ <;> assumption) | (refine ⟨?_, ?_, ?_⟩ <;> assumption) | (intros; assumption) | (right; right; assumption)))
  have h7 : (!(w == (10 : Int))) = true := by (first | assumption | (((try simp only [SA] at *); (try simp (disch := omega) only [SB, reduceCtorEq] at *)) <;> first | omega | assumption | (refine ⟨?_, ?_⟩ <;> assumption) | (refine ⟨?_, ?_, ?_⟩ <;> assumption) | (intros; assumption) | (right; right; assumption)))
  have h8 : (n != (0 : Int)) = true := by (first | assumption | (((try simp only [SA] at *); (try simp (disch := omega) only [SB, reduceCtorEq] at *)) <;> first | omega | assumption | (refine ⟨?_, ?_⟩ <;> assumption) | (refine ⟨?_, ?_, ?_⟩ <;> assumption) | (intros; assumption) | (right; right; assumption)))
  exact pV 12 [(2, bf), (3, bf), (5, bf), (7, bf), (8, bf), (9, bf), (11, bf), (13, bf), (14, bt), (15, bt), (17, bt), (18, .v (V.d (D.bool !(t == [])))), (19, bf), (20, bt), (21, bf), (22, bf), (23, bf), (25, bf), (28, bf), (29, bf), (31, bf), (32, bf), (33, bf), (35, bf), (36, bf), (37, bf), (39, bf), (40, bf), (41, bf), (42, bt), (43, bt), (45, bt), (47, bf), (48, bt), (49, bf), (50, bt)] (cP h8 (cP h3 (cP h7 (cP h3 (cP h7 (cP h7 (cP h7 (cP h3 (cP h3 (cP h6 (cP h6 (cP h6 (cP h5 (cP h5 (cP h5 (cP h4 (cP h4 (cP h4 (cP h3 (cP h3 (cP h3 (cP h1 (cP h2 (cP h1 (cP (@strNe (t) ([])) (cP h2 (cP h2 (cP h2 (cP h1 (cP h1 (cP h1 (cP h1 (cP h0 (cP h0 (cP h0 (cP h0 nilE)))))))))))))))))))))))))))))))))))) (by kernel_rfl) rfl rfl
set_option maxHeartbeats 4000000 in
theorem hs3a : hs3a_T := by
  intro w n t h0 hn
  have h0 : (decide (w < (1 : Int))) = false := by (first | assumption | (((try simp only [SA] at *); (try simp (disch := omega) only [SB, reduceCtorEq] at *)) <;> first | omega | assumption | (refine ⟨?_, ?_⟩ <;> assumption) | (refine ⟨?_, ?_, ?_⟩ <;> assumption) | (intros; assumption) | (right; right; assumption)))
  have h1 : (decide (w > (10 : Int))) = false := by (first | assumption | (((try simp only [SA] at *); (try simp (disch := omega) only [SB, reduceCtorEq] at *)) <;> first | omega | assumption | (refine ⟨?_, ?_⟩ <;> assumption) | (refine ⟨?_, ?_, ?_⟩ <;> assumption) | (intros; assumption) | (right; right; assumption)))
  have h2 : (w != (1 : Int)) = false := by (first | assumption | (((try simp only [SA] at *); (try simp (disch := omega) only [SB, reduceCtorEq] at *)) <;> first | omega | assumption | (refine ⟨?_, ?_⟩ <;> assumption) | (refine ⟨?_, ?_, ?_⟩ <;> assumption) | (intros; assumption) | (right; right; assumption)))
  have h3 : (w == (3 : Int)) = false := by (first | assumption | (((try simp only [SA] at *); (try simp (disch := omega) only [SB, reduceCtorEq] at *)) <;> first | omega | assumption | (refine ⟨?_, ?_⟩ <;> assumption) | (refine ⟨?_, ?_, ?_⟩ <;> assumption) | (intros; assumption) | (right; right; assumption)))
  have h4 : (w == (4 : Int)) = false := by (first | assumption | (((try simp only [SA] at *); (try simp (disch := omega) only [SB, reduceCtorEq] at *)) <;> first | omega | assumption | (refine ⟨?_, ?_⟩ <;> assumption) | (refine ⟨?_, ?_, ?_⟩ <;> assumption) | (intros; assumption) | (right; right; assumption)))
  have h5 : (w == (9 : Int)) = false := by (first | assumption | (((try simp only [SA] at *); (try simp (disch := omega) only [SB, reduceCtorEq] at *)) <;> first | omega | assumption | (refine ⟨?_, ?_⟩ <;> assumption) | (refine ⟨?_, ?_, ?_⟩ <;> assumption) | (intros; assumption) | (right; right; assumption)))
  have h6 : (!(w == (10 : Int))) = true := by (first | assumption | (((try simp only [SA] at *); (try simp (disch := omega) only [SB, reduceCtorEq] at *)) <;> first | omega | assumption | (refine ⟨?_, ?_⟩ <;> assumption) | (refine ⟨?_, ?_, ?_⟩ <;> assumption) | (intros; assumption) | (right; right; assumption)))
  have h7 : (n != (0 : Int)) = false := by (first | assumption | (((try simp only [SA] at *); (try simp (disch := omega) only [SB, reduceCtorEq] at *)) <;> first | omega | assumption | (refine ⟨?_, ?_⟩ <;> assumption) | (refine ⟨?_, ?_, ?_⟩ <;> assumption) | (intros; assumption) | (right; right; assumption)))
  have h8 : (decide (n ≥ (0 : Int))) = true := by (first | assumption | (((try simp only [SA] at *); (try simp (disch := omega) only [SB, reduceCtorEq] at *)) <;> first | omega | assumption | (refine ⟨?_, ?_⟩ <;> assumption) | (refine ⟨?_, ?_, ?_⟩ <;> assumption) | (intros; assumption) | (right; right; assumption)))
  exact (pV (v := V.d (D.bool (decide (n ≤ (999999999999 : Int))))) 12 [(2, bf), (3, bf), (5, bf), (7, bf), (8, bf), (9, bf), (11, bf), (13, bf), (14, bf), (15, bf), (16, bf), (17, bf), (18, bf), (19, bf), (26, bf), (27, bf), (29, bf), (30, bf), (31, bf), (33, bf), (34, bf), (35, bf), (37, bf), (40, bt), (41, bt), (43, bt), (46, bt), (48, bf), (51, bf), (52, bf), (54, bf), (56, bf), (57, bf), (60, bt), (61, bt), (63, bt), (65, bt)] (cP h8 (cP h8 (cP h8 (cP h8 (cP h4 (cP h3 (cP h3 (cP h3 (cP h3 (cP h7 (cP h6 (cP h6 (cP h6 (cP h6 (cP h5 (cP h5 (cP h5 (cP h4 (cP h4 (cP h4 (cP h3 (cP h3 (cP h3 (cP h1 (cP h2 (cP h1 (cP h2 (cP h2 (cP h2 (cP h1 (cP h1 (cP h1 (cP h1 (cP h0 (cP h0 (cP h0 (cP h0 nilE))))))))))))))))))))))))))))))))))))) (by kernel_rfl) rfl rfl).to (by ((try simp (disch := omega) only [wrapId, sizeOne, sizeStr, List.length_cons, List.length_nil, wrapU8, toNatAdd, toNatSucc] at *) <;> (try simp only [Int.toNat_natCast, beq_iff_eq, beq_eq_false_iff_ne, bne_iff_ne, bne_eq_false_iff_eq, ne_eq, Int.natCast_eq_zero, Int.natCast_inj] at *) <;> first | (simp (disch := omega) [Ty.enc, wrapId, toNatPred, toNatAdd, toNatSucc, sizeOne, sizeStr, List.length_cons, List.length_nil, wrapU8, ltF, ltT, Ty.slD, *]; done) | (subst_vars; simp (disch := omega) [Ty.enc, wrapId, toNatPred, toNatAdd, toNatSucc, sizeOne, sizeStr, List.length_cons, List.length_nil, wrapU8, ltF, ltT, Ty.slD, *]; done)))
set_option maxHeartbeats 4000000 in
theorem hs3b : hs3b_T := by
  intro w n t hw ht hn
  have h0 : (decide (w < (1 : Int))) = false := by (first | assumption | (((try simp only [SA] at *); (try simp (disch := omega) only [SB, reduceCtorEq] at *)) <;> first | omega | assumption | (refine ⟨?_, ?_⟩ <;> assumption) | (refine ⟨?_, ?_, ?_⟩ <;> assumption) | (intros; assumption) | (right; right; assumption)))
  have h1 : (decide (w > (10 : Int))) = false := by (first | assumption | (((try simp only [SA] at *); (try simp (disch := omega) only [SB, reduceCtorEq] at *)) <;> first | omega | assumption | (refine ⟨?_, ?_⟩ <;> assumption) | (refine ⟨?_, ?_, ?_⟩ <;> assumption) | (intros; assumption) | (right; right; assumption)))
  have h2 : (w != (1 : Int)) = true := by (first | assumption | (((try simp only [SA] at *); (try simp (disch := omega) only [SB, reduceCtorEq] at *)) <;> first | omega | assumption | (refine ⟨?_, ?_⟩ <;> assumption) | (refine ⟨?_, ?_, ?_⟩ <;> assumption) | (intros; assumption) | (right; right; assumption)))
  have h3 : (!(t == [])) = false := by (first | assumption | (((try simp only [SA] at *); (try simp (disch := omega) only [SB, reduceCtorEq] at *)) <;> first | omega | assumption | (refine ⟨?_, ?_⟩ <;> assumption) | (refine ⟨?_, ?_, ?_⟩ <;> assumption) | (intros; assumption) | (right; right; assumption)))
  have h4 : (w == (3 : Int)) = false := by (first | assumption | (((try simp only [SA] at *); (try simp (disch := omega) only [SB, reduceCtorEq] at *)) <;> first | omega | assumption | (refine ⟨?_, ?_⟩ <;> assumption) | (refine ⟨?_, ?_, ?_⟩ <;> assumption) | (intros; assumption) | (right; right; assumption)))
  have h5 : (w == (4 : Int)) = false := by (first | assumption | (((try simp only [SA] at *); (try simp (disch := omega) only [SB, reduceCtorEq] at *)) <;> first | omega | assumption | (refine ⟨?_, ?_⟩ <;> assumption) | (refine ⟨?_, ?_, ?_⟩ <;> assumption) | (intros; assumption) | (right; right; assumption)))
  have h6 : (w == (9 : Int)) = false := by (first | assumption | (((try simp only [SA] at *); (try simp (disch := omega) only [SB, reduceCtorEq] at *)) <;> first | omega | assumption | (refine ⟨?_, ?_⟩ <;> assumption) | (refine ⟨?_, ?_, ?_⟩ <;> assumption) | (intros; assumption) | (right; right; assumption)))
  have h7 : (!(w == (10 : Int))) = true := by (first | assumption | (((try simp only [SA] at *); (try simp (disch := omega) only [SB, reduceCtorEq] at *)) <;> first | omega | assumption | (refine ⟨?_, ?_⟩ <;> assumption) | (refine ⟨?_, ?_, ?_⟩ <;> assumption) | (intros; assumption) | (right; right; assumption)))
  have h8 : (n != (0 : Int)) = false := by (first | assumption | (((try simp only [SA] at *); (try simp (disch := omega) only [SB, reduceCtorEq] at *)) <;> first | omega | assumption | (refine ⟨?_, ?_⟩ <;> assumption) | (refine ⟨?_, ?_, ?_⟩ <;> assumption) | (intros; assumption) | (right; right; assumption)))
  have h9 : (decide (n ≥ (0 : Int))) = true := by (first | assumption | (((try simp only [SA] at *); (try simp (disch := omega) only [SB, reduceCtorEq] at *)) <;> first | omega | assumption | (refine ⟨?_, ?_⟩ <;> assumption) | (refine ⟨?_, ?_, ?_⟩ <;> assumption) | (intros; assumption) | (right; right; assumption)))
  exact (pV (v := V.d (D.bool (decide (n ≤ (999999999999 : Int))))) 12 [(2, bf), (3, bf), (5, bf), (7, bf), (8, bf), (9, bf), (11, bf), (13, bf), (14, bt), (15, bt), (17, bt), (18, .v (V.d (D.bool !(t == [])))), (19, bf), (20, bt), (21, bf), (22, bf), (23, bf), (25, bf), (28, bf), (29, bf), (31, bf), (32, bf), (33, bf), (35, bf), (36, bf), (37, bf), (39, bf), (40, bf), (41, bf), (42, bt), (43, bt), (45, bt), (47, bf), (48, bt), (49, bf), (50, bf), (53, bf), (54, bf), (56, bf), (58, bf), (59, bf), (62, bt), (63, bt), (65, bt), (67, bt)] (cP h9 (cP h9 (cP h9 (cP h9 (cP h5 (cP h4 (cP h4 (cP h4 (cP h4 (cP h8 (cP h3 (cP h7 (cP h3 (cP h7 (cP h7 (cP h7 (cP h3 (cP h3 (cP h6 (cP h6 (cP h6 (cP h5 (cP h5 (cP h5 (cP h4 (cP h4 (cP h4 (cP h3 (cP h3 (cP h3 (cP h1 (cP h2 (cP h1 (cP (@strNe (t) ([])) (cP h2 (cP h2 (cP h2 (cP h1 (cP h1 (cP h1 (cP h1 (cP h0 (cP h0 (cP h0 (cP h0 nilE))))))))))))))))))))))))))))))))))))))))))))) (by kernel_rfl) rfl rfl).to (by ((try simp (disch := omega) only [wrapId, sizeOne, sizeStr, List.length_cons, List.length_nil, wrapU8, toNatAdd, toNatSucc] at *) <;> (try simp only [Int.toNat_natCast, beq_iff_eq, beq_eq_false_iff_ne, bne_iff_ne, bne_eq_false_iff_eq, ne_eq, Int.natCast_eq_zero, Int.natCast_inj] at *) <;> first | (simp (disch := omega) [Ty.enc, wrapId, toNatPred, toNatAdd, toNatSucc, sizeOne, sizeStr, List.length_cons, List.length_nil, wrapU8, ltF, ltT, Ty.slD, *]; done) | (subst_vars; simp (disch := omega) [Ty.enc, wrapId, toNatPred, toNatAdd, toNatSucc, sizeOne, sizeStr, List.length_cons, List.length_nil, wrapU8, ltF, ltT, Ty.slD, *]; done)))
set_option maxHeartbeats 4000000 in
theorem hs4a : hs4a_T := by
  intro w n t hw ht hn
  have h0 : (decide (w < (1 : Int))) = false := by (first | assumption | (((try simp only [SA] at *); (try simp (disch := omega) only [SB, reduceCtorEq] at *)) <;> first | omega | assumption | (refine ⟨?_, ?_⟩ <;> assumption) | (refine ⟨?_, ?_, ?_⟩ <;> assumption) | (intros; assumption) | (right; right; assumption)))
  have h1 : (decide (w > (10 : Int))) = false := by (first | assumption | (((try simp only [SA] at *); (try simp (disch := omega) only [SB, reduceCtorEq] at *)) <;> first | omega | assumption | (refine ⟨?_, ?_⟩ <;> assumption) | (refine ⟨?_, ?_, ?_⟩ <;> assumption) | (intros; assumption) | (right; right; assumption)))
  have h2 : (w != (1 : Int)) = true := by (first | assumption | (((try simp only [SA] at *); (try simp (disch := omega) only [SB, reduceCtorEq] at *)) <;> first | omega | assumption | (refine ⟨?_, ?_⟩ <;> assumption) | (refine ⟨?_, ?_, ?_⟩ <;> assumption) | (intros; assumption) | (right; right; assumption)))
  have h3 : (!(t == [])) = false := by (first | assumption | (((try simp only [SA] at *); (try simp (disch := omega) only [SB, reduceCtorEq] at *)) <;> first | omega | assumption | (refine ⟨?_, ?_⟩ <;> assumption) | (refine ⟨?_, ?_, ?_⟩ <;> assumption) | (intros; assumption) | (right; right; assumption)))
  rcases Bool.eq_false_or_eq_true (w == (3 : Int)) with h4 | h4
  · have h5 : (decide (n ≥ (1 : Int))) = false := by (first | assumption | (((try simp only [SA] at *); (try simp (disch := omega) only [SB, reduceCtorEq] at *)) <;> first | omega | assumption | (refine ⟨?_, ?_⟩ <;> assumption) | (refine ⟨?_, ?_, ?_⟩ <;> assumption) | (intros; assumption) | (right; right; assumption)))
    exact pV 12 [(2, bf), (3, bf), (5, bf), (7, bf), (8, bf), (9, bf), (11, bf), (13, bf), (14, bt), (15, bt), (17, bt), (18, .v (V.d (D.bool !(t == [])))), (19, bf), (20, bt), (21, bf), (22, bf), (23, bf), (25, bf), (28, bt), (29, bt), (30, bt), (37, bf), (38, bf), (42, bf), (44, bf), (48, bt), (49, bt), (50, bt), (51, bt), (55, bf), (56, bf), (57, bf), (58, bf)] (cP h5 (cP h5 (cP h5 (cP h5 (cP h4 (cP h4 (cP h4 (cP h4 (cP h3 (cP h3 (cP h3 (cP h3 (cP h4 (cP h4 (cP h4 (cP h3 (cP h3 (cP h3 (cP h1 (cP h2 (cP h1 (cP (@strNe (t) ([])) (cP h2 (cP h2 (cP h2 (cP h1 (cP h1 (cP h1 (cP h1 (cP h0 (cP h0 (cP h0 (cP h0 nilE))))))))))))))))))))))))))))))))) (by kernel_rfl) rfl rfl
  · have h5 : (w == (4 : Int)) = true := by (first | assumption | (((try simp only [SA] at *); (try simp (disch := omega) only [SB, reduceCtorEq] at *)) <;> first | omega | assumption | (refine ⟨?_, ?_⟩ <;> assumption) | (refine ⟨?_, ?_, ?_⟩ <;> assumption) | (intros; assumption) | (right; right; assumption)))
    have h6 : (decide (n ≥ (1 : Int))) = false := by (first | assumption | (((try simp only [SA] at *); (try simp (disch := omega) only [SB, reduceCtorEq] at *)) <;> first | omega | assumption | (refine ⟨?_, ?_⟩ <;> assumption) | (refine ⟨?_, ?_, ?_⟩ <;> assumption) | (intros; assumption) | (right; right; assumption)))
    exact pV 12 [(2, bf), (3, bf), (5, bf), (7, bf), (8, bf), (9, bf), (11, bf), (13, bf), (14, bt), (15, bt), (17, bt), (18, .v (V.d (D.bool !(t == [])))), (19, bf), (20, bt), (21, bf), (22, bf), (23, bf), (25, bf), (28, bf), (29, bf), (31, bf), (32, bt), (33, bt), (34, bt), (38, bf), (39, bf), (43, bf), (45, bf), (49, bf), (50, bf), (52, bf), (54, bf), (55, bt), (58, bf), (59, bf), (60, bf), (61, bf)] (cP h6 (cP h6 (cP h6 (cP h6 (cP h5 (cP h4 (cP h4 (cP h4 (cP h4 (cP h3 (cP h3 (cP h3 (cP h3 (cP h5 (cP h5 (cP h5 (cP h4 (cP h4 (cP h4 (cP h3 (cP h3 (cP h3 (cP h1 (cP h2 (cP h1 (cP (@strNe (t) ([])) (cP h2 (cP h2 (cP h2 (cP h1 (cP h1 (cP h1 (cP h1 (cP h0 (cP h0 (cP h0 (cP h0 nilE))))))))))))))))))))))))))))))))))))) (by kernel_rfl) rfl rfl
set_option maxHeartbeats 4000000 in
theorem hs4b : hs4b_T := by
  intro w n t hw ht hn
  have h0 : (decide (w < (1 : Int))) = false := by (first | assumption | (((try simp only [SA] at *); (try simp (disch := omega) only [SB, reduceCtorEq] at *)) <;> first | omega | assumption | (refine ⟨?_, ?_⟩ <;> assumption) | (refine ⟨?_, ?_, ?_⟩ <;> assumption) | (intros; assumption) | (right; right; assumption)))
  have h1 : (decide (w > (10 : Int))) = false := by (first | assumption | (((try simp only [SA] at *); (try simp (disch := omega) only [SB, reduceCtorEq] at *)) <;> first | omega | assumption | (refine ⟨?_, ?_⟩ <;> assumption) | (refine ⟨?_, ?_, ?_⟩ <;> assumption) | (intros; assumption) | (right; right; assumption)))
  have h2 : (w != (1 : Int)) = true := by (first | assumption | (((try simp only [SA] at *); (try simp (disch := omega) only [SB, reduceCtorEq] at *)) <;> first | omega | assumption | (refine ⟨?_, ?_⟩ <;> assumption) | (refine ⟨?_, ?_, ?_⟩ <;> assumption) | (intros; assumption) | (right; right; assumption)))
  have h3 : (!(t == [])) = false := by (first | assumption | (((try simp only [SA] at *); (try simp (disch := omega) only [SB, reduceCtorEq] at *)) <;> first | omega | assumption | (refine ⟨?_, ?_⟩ <;> assumption) | (refine ⟨?_, ?_, ?_⟩ <;> assumption) | (intros; assumption) | (right; right; assumption)))
  rcases Bool.eq_false_or_eq_true (w == (3 : Int)) with h4 | h4
  · have h5 : (decide (n ≥ (1 : Int))) = true := by (first | assumption | (((try simp only [SA] at *); (try simp (disch := omega) only [SB, reduceCtorEq] at *)) <;> first | omega | assumption | (refine ⟨?_, ?_⟩ <;> assumption) | (refine ⟨?_, ?_, ?_⟩ <;> assumption) | (intros; assumption) | (right; right; assumption)))
    exact (pV (v := V.d (D.bool (decide (n ≤ (10 : Int))))) 12 [(2, bf), (3, bf), (5, bf), (7, bf), (8, bf), (9, bf), (11, bf), (13, bf), (14, bt), (15, bt), (17, bt), (18, .v (V.d (D.bool !(t == [])))), (19, bf), (20, bt), (21, bf), (22, bf), (23, bf), (25, bf), (28, bt), (29, bt), (30, bt), (37, bf), (38, bf), (42, bf), (44, bf), (48, bt), (49, bt), (50, bt), (51, bt), (55, bt), (56, bt), (58, bt), (60, bt)] (cP h5 (cP h5 (cP h5 (cP h5 (cP h4 (cP h4 (cP h4 (cP h4 (cP h3 (cP h3 (cP h3 (cP h3 (cP h4 (cP h4 (cP h4 (cP h3 (cP h3 (cP h3 (cP h1 (cP h2 (cP h1 (cP (@strNe (t) ([])) (cP h2 (cP h2 (cP h2 (cP h1 (cP h1 (cP h1 (cP h1 (cP h0 (cP h0 (cP h0 (cP h0 nilE))))))))))))))))))))))))))))))))) (by kernel_rfl) rfl rfl).to (by ((try simp (disch := omega) only [wrapId, sizeOne, sizeStr, List.length_cons, List.length_nil, wrapU8, toNatAdd, toNatSucc] at *) <;> (try simp only [Int.toNat_natCast, beq_iff_eq, beq_eq_false_iff_ne, bne_iff_ne, bne_eq_false_iff_eq, ne_eq, Int.natCast_eq_zero, Int.natCast_inj] at *) <;> first | (simp (disch := omega) [Ty.enc, wrapId, toNatPred, toNatAdd, toNatSucc, sizeOne, sizeStr, List.length_cons, List.length_nil, wrapU8, ltF, ltT, Ty.slD, *]; done) | (subst_vars; simp (disch := omega) [Ty.enc, wrapId, toNatPred, toNatAdd, toNatSucc, sizeOne, sizeStr, List.length_cons, List.length_nil, wrapU8, ltF, ltT, Ty.slD, *]; done)))
  · have h5 : (w == (4 : Int)) = true := by (first | assumption | (((try simp only [SA] at *); (try simp (disch := omega) only [SB, reduceCtorEq] at *)) <;> first | omega | assumption | (refine ⟨?_, ?_⟩ <;> assumption) | (refine ⟨?_, ?_, ?_⟩ <;> assumption) | (intros; assumption) | (right; right; assumption)))
    have h6 : (decide (n ≥ (1 : Int))) = true := by (first | assumption | (((try simp only [SA] at *); (try simp (disch := omega) only [SB, reduceCtorEq] at *)) <;> first | omega | assumption | (refine ⟨?_, ?_⟩ <;> assumption) | (refine ⟨?_, ?_, ?_⟩ <;> assumption) | (intros; assumption) | (right; right; assumption)))
    exact (pV (v := V.d (D.bool (decide (n ≤ (10 : Int))))) 12 [(2, bf), (3, bf), (5, bf), (7, bf), (8, bf), (9, bf), (11, bf), (13, bf), (14, bt), (15, bt), (17, bt), (18, .v (V.d (D.bool !(t == [])))), (19, bf), (20, bt), (21, bf), (22, bf), (23, bf), (25, bf), (28, bf), (29, bf), (31, bf), (32, bt), (33, bt), (34, bt), (38, bf), (39, bf), (43, bf), (45, bf), (49, bf), (50, bf), (52, bf), (54, bf), (55, bt), (58, bt), (59, bt), (61, bt), (63, bt)] (cP h6 (cP h6 (cP h6 (cP h6 (cP h5 (cP h4 (cP h4 (cP h4 (cP h4 (cP h3 (cP h3 (cP h3 (cP h3 (cP h5 (cP h5 (cP h5 (cP h4 (cP h4 (cP h4 (cP h3 (cP h3 (cP h3 (cP h1 (cP h2 (cP h1 (cP (@strNe (t) ([])) (cP h2 (cP h2 (cP h2 (cP h1 (cP h1 (cP h1 (cP h1 (cP h0 (cP h0 (cP h0 (cP h0 nilE))))))))))))))))))))))))))))))))))))) (by kernel_rfl) rfl rfl).to (by ((try simp (disch := omega) only [wrapId, sizeOne, sizeStr, List.length_cons, List.length_nil, wrapU8, toNatAdd, toNatSucc] at *) <;> (try simp only [Int.toNat_natCast, beq_iff_eq, beq_eq_false_iff_ne, bne_iff_ne, bne_eq_false_iff_eq, ne_eq, Int.natCast_eq_zero, Int.natCast_inj] at *) <;> first | (simp (disch := omega) [Ty.enc, wrapId, toNatPred, toNatAdd, toNatSucc, sizeOne, sizeStr, List.length_cons, List.length_nil, wrapU8, ltF, ltT, Ty.slD, *]; done) | (subst_vars; simp (disch := omega) [Ty.enc, wrapId, toNatPred, toNatAdd, toNatSucc, sizeOne, sizeStr, List.length_cons, List.length_nil, wrapU8, ltF, ltT, Ty.slD, *]; done)))
set_option maxHeartbeats 4000000 in
theorem hs4c : hs4c_T := by
  intro w n t hw ht hn hm
  have h0 : (decide (w < (1 : Int))) = false := by (first | assumption | (((try simp only [SA] at *); (try simp (disch := omega) only [SB, reduceCtorEq] at *)) <;> first | omega | assumption | (refine ⟨?_, ?_⟩ <;> assumption) | (refine ⟨?_, ?_, ?_⟩ <;> assumption) | (intros; assumption) | (right; right; assumption)))
  have h1 : (decide (w > (10 : Int))) = false := by (first | assumption | (((try simp only [SA] at *); (try simp (disch := omega) only [SB, reduceCtorEq] at *)) <;> first | omega | assumption | (refine ⟨?_, ?_⟩ <;> assumption) | (refine ⟨?_, ?_, ?_⟩ <;> assumption) | (intros; assumption) | (right; right; assumption)))
  have h2 : (w != (1 : Int)) = true := by (first | assumption | (((try simp only [SA] at *); (try simp (disch := omega) only [SB, reduceCtorEq] at *)) <;> first | omega | assumption | (refine ⟨?_, ?_⟩ <;> assumption) | (refine ⟨?_, ?_, ?_⟩ <;> assumption) | (intros; assumption) | (right; right; assumption)))
  have h3 : (!(t == [])) = false := by (first | assumption | (((try simp only [SA] at *); (try simp (disch := omega) only [SB, reduceCtorEq] at *)) <;> first | omega | assumption | (refine ⟨?_, ?_⟩ <;> assumption) | (refine ⟨?_, ?_, ?_⟩ <;> assumption) | (intros; assumption) | (right; right; assumption)))
  rcases Bool.eq_false_or_eq_true (w == (3 : Int)) with h4 | h4
  · have h5 : (decide (n ≥ (1 : Int))) = true := by (first | assumption | (((try simp only [SA] at *); (try simp (disch := omega) only [SB, reduceCtorEq] at *)) <;> first | omega | assumption | (refine ⟨?_, ?_⟩ <;> assumption) | (refine ⟨?_, ?_, ?_⟩ <;> assumption) | (intros; assumption) | (right; right; assumption)))
    exact (pV (v := V.d (D.bool (decide (n ≤ (10 : Int))))) 12 [(2, bf), (3, bf), (5, bf), (7, bf), (8, bf), (9, bf), (11, bf), (13, bf), (14, bt), (15, bt), (17, bt), (18, .v (V.d (D.bool !(t == [])))), (19, bf), (20, bt), (21, bf), (22, bf), (23, bf), (25, bf), (28, bt), (29, bt), (30, bt), (37, bf), (38, bf), (42, bf), (44, bf), (48, bt), (49, bt), (50, bt), (51, bt), (55, bt), (56, bt), (58, bt), (60, bt)] (cP h5 (cP h5 (cP h5 (cP h5 (cP h4 (cP h4 (cP h4 (cP h4 (cP h3 (cP h3 (cP h3 (cP h3 (cP h4 (cP h4 (cP h4 (cP h3 (cP h3 (cP h3 (cP h1 (cP h2 (cP h1 (cP (@strNe (t) ([])) (cP h2 (cP h2 (cP h2 (cP h1 (cP h1 (cP h1 (cP h1 (cP h0 (cP h0 (cP h0 (cP h0 nilE))))))))))))))))))))))))))))))))) (by kernel_rfl) rfl rfl).to (by ((try simp (disch := omega) only [wrapId, sizeOne, sizeStr, List.length_cons, List.length_nil, wrapU8, toNatAdd, toNatSucc] at *) <;> (try simp only [Int.toNat_natCast, beq_iff_eq, beq_eq_false_iff_ne, bne_iff_ne, bne_eq_false_iff_eq, ne_eq, Int.natCast_eq_zero, Int.natCast_inj] at *) <;> first | (simp (disch := omega) [Ty.enc, wrapId, toNatPred, toNatAdd, toNatSucc, sizeOne, sizeStr, List.length_cons, List.length_nil, wrapU8, ltF, ltT, Ty.slD, *]; done) | (subst_vars; simp (disch := omega) [Ty.enc, wrapId, toNatPred, toNatAdd, toNatSucc, sizeOne, sizeStr, List.length_cons, List.length_nil, wrapU8, ltF, ltT, Ty.slD, *]; done)))
  · have h5 : (w == (4 : Int)) = true := by (first | assumption | (((try simp only [SA] at *); (try simp (disch := omega) only [SB, reduceCtorEq] at *)) <;> first | omega | assumption | (refine ⟨?_, ?_⟩ <;> assumption) | (refine ⟨?_, ?_, ?_⟩ <;> assumption) | (intros; assumption) | (right; right; assumption)))
    have h6 : (decide (n ≥ (1 : Int))) = true := by (first | assumption | (((try simp only [SA] at *); (try simp (disch := omega) only [SB, reduceCtorEq] at *)) <;> first | omega | assumption | (refine ⟨?_, ?_⟩ <;> assumption) | (refine ⟨?_, ?_, ?_⟩ <;> assumption) | (intros; assumption) | (right; right; assumption)))
    exact (pV (v := V.d (D.bool (decide (n ≤ (10 : Int))))) 12 [(2, bf), (3, bf), (5, bf), (7, bf), (8, bf), (9, bf), (11, bf), (13, bf), (14, bt), (15, bt), (17, bt), (18, .v (V.d (D.bool !(t == [])))), (19, bf), (20, bt), (21, bf), (22, bf), (23, bf), (25, bf), (28, bf), (29, bf), (31, bf), (32, bt), (33, bt), (34, bt), (38, bf), (39, bf), (43, bf), (45, bf), (49, bf), (50, bf), (52, bf), (54, bf), (55, bt), (58, bt), (59, bt), (61, bt), (63, bt)] (cP h6 (cP h6 (cP h6 (cP h6 (cP h5 (cP h4 (cP h4 (cP h4 (cP h4 (cP h3 (cP h3 (cP h3 (cP h3 (cP h5 (cP h5 (cP h5 (cP h4 (cP h4 (cP h4 (cP h3 (cP h3 (cP h3 (cP h1 (cP h2 (cP h1 (cP (@strNe (t) ([])) (cP h2 (cP h2 (cP h2 (cP h1 (cP h1 (cP h1 (cP h1 (cP h0 (cP h0 (cP h0 (cP h0 nilE))))))))))))))))))))))))))))))))))))) (by kernel_rfl) rfl rfl).to (by ((try simp (disch := omega) only [wrapId, sizeOne, sizeStr, List.length_cons, List.length_nil, wrapU8, toNatAdd, toNatSucc] at *) <;> (try simp only [Int.toNat_natCast, beq_iff_eq, beq_eq_false_iff_ne, bne_iff_ne, bne_eq_false_iff_eq, ne_eq, Int.natCast_eq_zero, Int.natCast_inj] at *) <;> first | (simp (disch := omega) [Ty.enc, wrapId, toNatPred, toNatAdd, toNatSucc, sizeOne, sizeStr, List.length_cons, List.length_nil, wrapU8, ltF, ltT, Ty.slD, *]; done) | (subst_vars; simp (disch := omega) [Ty.enc, wrapId, toNatPred, toNatAdd, toNatSucc, sizeOne, sizeStr, List.length_cons, List.length_nil, wrapU8, ltF, ltT, Ty.slD, *]; done)))
set_option maxHeartbeats 4000000 in
theorem hs5a : hs5a_T := by
  intro w n t hw ht hn
  have h0 : (decide (w < (1 : Int))) = false := by (first | assumption | (((try simp only [SA] at *); (try simp (disch := omega) only [SB, reduceCtorEq] at *)) <;> first | omega | assumption | (refine ⟨?_, ?_⟩ <;> assumption) | (refine ⟨?_, ?_, ?_⟩ <;> assumption) | (intros; assumption) | (right; right; assumption)))
  have h1 : (decide (w > (10 : Int))) = false := by (first | assumption | (((try simp only [SA] at *); (try simp (disch := omega) only [SB, reduceCtorEq] at *)) <;> first | omega | assumption | (refine ⟨?_, ?_⟩ <;> assumption) | (refine ⟨?_, ?_, ?_⟩ <;> assumption) | (intros; assumption) | (right; right; assumption)))
  have h2 : (w != (1 : Int)) = true := by (first | assumption | (((try simp only [SA] at *); (try simp (disch := omega) only [SB, reduceCtorEq] at *)) <;> first | omega | assumption | (refine ⟨?_, ?_⟩ <;> assumption) | (refine ⟨?_, ?_, ?_⟩ <;> assumption) | (intros; assumption) | (right; right; assumption)))
  have h3 : (!(t == [])) = false := by (first | assumption | (((try simp only [SA] at *); (try simp (disch := omega) only [SB, reduceCtorEq] at *)) <;> first | omega | assumption | (refine ⟨?_, ?_⟩ <;> assumption) | (refine ⟨?_, ?_, ?_⟩ <;> assumption) | (intros; assumption) | (right; right; assumption)))
  have h4 : (w == (3 : Int)) = false := by (first | assumption | (((try simp only [SA] at *); (try simp (disch := omega) only [SB, reduceCtorEq] at *)) <;> first | omega | assumption | (refine ⟨?_, ?_⟩ <;> assumption) | (refine ⟨?_, ?_, ?_⟩ <;> assumption) | (intros; assumption) | (right; right; assumption)))
  have h5 : (w == (4 : Int)) = false := by (first | assumption | (((try simp only [SA] at *); (try simp (disch := omega) only [SB, reduceCtorEq] at *)) <;> first | omega | assumption | (refine ⟨?_, ?_⟩ <;> assumption) | (refine ⟨?_, ?_, ?_⟩ <;> assumption) | (intros; assumption) | (right; right; assumption)))
  rcases Bool.eq_false_or_eq_true (w == (9 : Int)) with h6 | h6
  · have h7 : (decide (n ≥ (0 : Int))) = false := by (first | assumption | (((try simp only [SA] at *); (try simp (disch := omega) only [SB, reduceCtorEq] at *)) <;> first | omega | assumption | (refine ⟨?_, ?_⟩ <;> assumption) | (refine ⟨?_, ?_, ?_⟩ <;> assumption) | (intros; assumption) | (right; right; assumption)))
    exact pV 12 [(2, bf), (3, bf), (5, bf), (7, bf), (8, bf), (9, bf), (11, bf), (13, bf), (14, bt), (15, bt), (17, bt), (18, .v (V.d (D.bool !(t == [])))), (19, bf), (20, bt), (21, bf), (22, bf), (23, bf), (25, bf), (28, bf), (29, bf), (31, bf), (32, bf), (33, bf), (35, bf), (36, bt), (37, bt), (38, bt), (39, bf), (40, bf), (44, bf), (46, bf), (50, bf), (51, bf), (53, bf), (55, bf), (56, bf), (59, bf), (60, bf), (61, bf), (62, bf)] (cP h7 (cP h7 (cP h7 (cP h7 (cP h5 (cP h4 (cP h4 (cP h4 (cP h4 (cP h3 (cP h3 (cP h3 (cP h3 (cP h6 (cP h6 (cP h6 (cP h5 (cP h5 (cP h5 (cP h4 (cP h4 (cP h4 (cP h3 (cP h3 (cP h3 (cP h1 (cP h2 (cP h1 (cP (@strNe (t) ([])) (cP h2 (cP h2 (cP h2 (cP h1 (cP h1 (cP h1 (cP h1 (cP h0 (cP h0 (cP h0 (cP h0 nilE)))))))))))))))))))))))))))))))))))))))) (by kernel_rfl) rfl rfl
  · have h7 : (!(w == (10 : Int))) = false := by (first | assumption | (((try simp only [SA] at *); (try simp (disch := omega) only [SB, reduceCtorEq] at *)) <;> first | omega | assumption | (refine ⟨?_, ?_⟩ <;> assumption) | (refine ⟨?_, ?_, ?_⟩ <;> assumption) | (intros; assumption) | (right; right; assumption)))
    have h8 : (decide (n ≥ (0 : Int))) = false := by (first | assumption | (((try simp only [SA] at *); (try simp (disch := omega) only [SB, reduceCtorEq] at *)) <;> first | omega | assumption | (refine ⟨?_, ?_⟩ <;> assumption) | (refine ⟨?_, ?_, ?_⟩ <;> assumption) | (intros; assumption) | (right; right; assumption)))
    exact pV 12 [(2, bf), (3, bf), (5, bf), (7, bf), (8, bf), (9, bf), (11, bf), (13, bf), (14, bt), (15, bt), (17, bt), (18, .v (V.d (D.bool !(t == [])))), (19, bf), (20, bt), (21, bf), (22, bf), (23, bf), (25, bf), (28, bf), (29, bf), (31, bf), (32, bf), (33, bf), (35, bf), (36, bf), (37, bf), (39, bf), (40, bf), (41, bf), (42, bf), (43, bf), (44, bf), (45, bf), (46, bf), (47, bf), (51, bf), (52, bf), (54, bf), (56, bf), (57, bf), (60, bf), (61, bf), (62, bf), (63, bf)] (cP h8 (cP h8 (cP h8 (cP h8 (cP h5 (cP h4 (cP h4 (cP h4 (cP h4 (cP h3 (cP h7 (cP h3 (cP h7 (cP h7 (cP h7 (cP h3 (cP h3 (cP h6 (cP h6 (cP h6 (cP h5 (cP h5 (cP h5 (cP h4 (cP h4 (cP h4 (cP h3 (cP h3 (cP h3 (cP h1 (cP h2 (cP h1 (cP (@strNe (t) ([])) (cP h2 (cP h2 (cP h2 (cP h1 (cP h1 (cP h1 (cP h1 (cP h0 (cP h0 (cP h0 (cP h0 nilE)))))))))))))))))))))))))))))))))))))))))))) (by kernel_rfl) rfl rfl
set_option maxHeartbeats 4000000 in
theorem hs5b : hs5b_T := by
  intro w n t hw ht hn
  have h0 : (decide (w < (1 : Int))) = false := by (first | assumption | (((try simp only [SA] at *); (try simp (disch := omega) only [SB, reduceCtorEq] at *)) <;> first | omega | assumption | (refine ⟨?_, ?_⟩ <;> assumption) | (refine ⟨?_, ?_, ?_⟩ <;> assumption) | (intros; assumption) | (right; right; assumption)))
  have h1 : (decide (w > (10 : Int))) = false := by (first | assumption | (((try simp only [SA] at *); (try simp (disch := omega) only [SB, reduceCtorEq] at *)) <;> first | omega | assumption | (refine ⟨?_, ?_⟩ <;> assumption) | (refine ⟨?_, ?_, ?_⟩ <;> assumption) | (intros; assumption) | (right; right; assumption)))
  have h2 : (w != (1 : Int)) = true := by (first | assumption | (((try simp only [SA] at *); (try simp (disch := omega) only [SB, reduceCtorEq] at *)) <;> first | omega | assumption | (refine ⟨?_, ?_⟩ <;> assumption) | (refine ⟨?_, ?_, ?_⟩ <;> assumption) | (intros; assumption) | (right; right; assumption)))
  have h3 : (!(t == [])) = false := by (first | assumption | (((try simp only [SA] at *); (try simp (disch := omega) only [SB, reduceCtorEq] at *)) <;> first | omega | assumption | (refine ⟨?_, ?_⟩ <;> assumption) | (refine ⟨?_, ?_, ?_⟩ <;> assumption) | (intros; assumption) | (right; right; assumption)))
  have h4 : (w == (3 : Int)) = false := by (first | assumption | (((try simp only [SA] at *); (try simp (disch := omega) only [SB, reduceCtorEq] at *)) <;> first | omega | assumption | (refine ⟨?_, ?_⟩ <;> assumption) | (refine ⟨?_, ?_, ?_⟩ <;> assumption) | (intros; assumption) | (right; right; assumption)))
  have h5 : (w == (4 : Int)) = false := by (first | assumption | (((try simp only [SA] at *); (try simp (disch := omega) only [SB, reduceCtorEq] at *)) <;> first | omega | assumption | (refine ⟨?_, ?_⟩ <;> assumption) | (refine ⟨?_, ?_, ?_⟩ <;> assumption) | (intros; assumption) | (right; right; assumption)))
  rcases Bool.eq_false_or_eq_true (w == (9 : Int)) with h6 | h6
  · have h7 : (decide (n ≥ (0 : Int))) = true := by (first | assumption | (((try simp only [SA] at *); (try simp (disch := omega) only [SB, reduceCtorEq] at *)) <;> first | omega | assumption | (refine ⟨?_, ?_⟩ <;> assumption) | (refine ⟨?_, ?_, ?_⟩ <;> assumption) | (intros; assumption) | (right; right; assumption)))
    exact (pV (v := V.d (D.bool (decide (n ≤ (999999999999 : Int))))) 12 [(2, bf), (3, bf), (5, bf), (7, bf), (8, bf), (9, bf), (11, bf), (13, bf), (14, bt), (15, bt), (17, bt), (18, .v (V.d (D.bool !(t == [])))), (19, bf), (20, bt), (21, bf), (22, bf), (23, bf), (25, bf), (28, bf), (29, bf), (31, bf), (32, bf), (33, bf), (35, bf), (36, bt), (37, bt), (38, bt), (39, bf), (40, bf), (44, bf), (46, bf), (50, bf), (51, bf), (53, bf), (55, bf), (56, bf), (59, bt), (60, bt), (62, bt), (64, bt)] (cP h7 (cP h7 (cP h7 (cP h7 (cP h5 (cP h4 (cP h4 (cP h4 (cP h4 (cP h3 (cP h3 (cP h3 (cP h3 (cP h6 (cP h6 (cP h6 (cP h5 (cP h5 (cP h5 (cP h4 (cP h4 (cP h4 (cP h3 (cP h3 (cP h3 (cP h1 (cP h2 (cP h1 (cP (@strNe (t) ([])) (cP h2 (cP h2 (cP h2 (cP h1 (cP h1 (cP h1 (cP h1 (cP h0 (cP h0 (cP h0 (cP h0 nilE)))))))))))))))))))))))))))))))))))))))) (by kernel_rfl) rfl rfl).to (by ((try simp (disch := omega) only [wrapId, sizeOne, sizeStr, List.length_cons, List.length_nil, wrapU8, toNatAdd, toNatSucc] at *) <;> (try simp only [Int.toNat_natCast, beq_iff_eq, beq_eq_false_iff_ne, bne_iff_ne, bne_eq_false_iff_eq, ne_eq, Int.natCast_eq_zero, Int.natCast_inj] at *) <;> first | (simp (disch := omega) [Ty.enc, wrapId, toNatPred, toNatAdd, toNatSucc, sizeOne, sizeStr, List.length_cons, List.length_nil, wrapU8, ltF, ltT, Ty.slD, *]; done) | (subst_vars; simp (disch := omega) [Ty.enc, wrapId, toNatPred, toNatAdd, toNatSucc, sizeOne, sizeStr, List.length_cons, List.length_nil, wrapU8, ltF, ltT, Ty.slD, *]; done)))
  · have h7 : (!(w == (10 : Int))) = false := by (first | assumption | (((try simp only [SA] at *); (try simp (disch := omega) only [SB, reduceCtorEq] at *)) <;> first | omega | assumption | (refine ⟨?_, ?_⟩ <;> assumption) | (refine ⟨?_, ?_, ?_⟩ <;> assumption) | (intros; assumption) | (right; right; assumption)))
    have h8 : (decide (n ≥ (0 : Int))) = true := by (first | assumption | (((try simp only [SA] at *); (try simp (disch := omega) only [SB, reduceCtorEq] at *)) <;> first | omega | assumption | (refine ⟨?_, ?_⟩ <;> assumption) | (refine ⟨?_, ?_, ?_⟩ <;> assumption) | (intros; assumption) | (right; right; assumption)))
    exact (pV (v := V.d (D.bool (decide (n ≤ (999999999999 : Int))))) 12 [(2, bf), (3, bf), (5, bf), (7, bf), (8, bf), (9, bf), (11, bf), (13, bf), (14, bt), (15, bt), (17, bt), (18, .v (V.d (D.bool !(t == [])))), (19, bf), (20, bt), (21, bf), (22, bf), (23, bf), (25, bf), (28, bf), (29, bf), (31, bf), (32, bf), (33, bf), (35, bf), (36, bf), (37, bf), (39, bf), (40, bf), (41, bf), (42, bf), (43, bf), (44, bf), (45, bf), (46, bf), (47, bf), (51, bf), (52, bf), (54, bf), (56, bf), (57, bf), (60, bt), (61, bt), (63, bt), (65, bt)] (cP h8 (cP h8 (cP h8 (cP h8 (cP h5 (cP h4 (cP h4 (cP h4 (cP h4 (cP h3 (cP h7 (cP h3 (cP h7 (cP h7 (cP h7 (cP h3 (cP h3 (cP h6 (cP h6 (cP h6 (cP h5 (cP h5 (cP h5 (cP h4 (cP h4 (cP h4 (cP h3 (cP h3 (cP h3 (cP h1 (cP h2 (cP h1 (cP (@strNe (t) ([])) (cP h2 (cP h2 (cP h2 (cP h1 (cP h1 (cP h1 (cP h1 (cP h0 (cP h0 (cP h0 (cP h0 nilE)))))))))))))))))))))))))))))))))))))))))))) (by kernel_rfl) rfl rfl).to (by ((try simp (disch := omega) only [wrapId, sizeOne, sizeStr, List.length_cons, List.length_nil, wrapU8, toNatAdd, toNatSucc] at *) <;> (try simp only [Int.toNat_natCast, beq_iff_eq, beq_eq_false_iff_ne, bne_iff_ne, bne_eq_false_iff_eq, ne_eq, Int.natCast_eq_zero, Int.natCast_inj] at *) <;> first | (simp (disch := omega) [Ty.enc, wrapId, toNatPred, toNatAdd, toNatSucc, sizeOne, sizeStr, List.length_cons, List.length_nil, wrapU8, ltF, ltT, Ty.slD, *]; done) | (subst_vars; simp (disch := omega) [Ty.enc, wrapId, toNatPred, toNatAdd, toNatSucc, sizeOne, sizeStr, List.length_cons, List.length_nil, wrapU8, ltF, ltT, Ty.slD, *]; done)))
set_option maxHeartbeats 4000000 in
theorem hs5c : hs5c_T := by
  intro w n t hw ht hn hm
  have h0 : (decide (w < (1 : Int))) = false := by (first | assumption | (((try simp only [SA] at *); (try simp (disch := omega) only [SB, reduceCtorEq] at *)) <;> first | omega | assumption | (refine ⟨?_, ?_⟩ <;> assumption) | (refine ⟨?_, ?_, ?_⟩ <;> assumption) | (intros; assumption) | (right; right; assumption)))
  have h1 : (decide (w > (10 : Int))) = false := by (first | assumption | (((try simp only [SA] at *); (try simp (disch := omega) only [SB, reduceCtorEq] at *)) <;> first | omega | assumption | (refine ⟨?_, ?_⟩ <;> assumption) | (refine ⟨?_, ?_, ?_⟩ <;> assumption) | (intros; assumption) | (right; right; assumption)))
  have h2 : (w != (1 : Int)) = true := by (first | assumption | (((try simp only [SA] at *); (try simp (disch := omega) only [SB, reduceCtorEq] at *)) <;> first | omega | assumption | (refine ⟨?_, ?_⟩ <;> assumption) | (refine ⟨?_, ?_, ?_⟩ <;> assumption) | (intros; assumption) | (right; right; assumption)))
  have h3 : (!(t == [])) = false := by (first | assumption | (((try simp only [SA] at *); (try simp (disch := omega) only [SB, reduceCtorEq] at *)) <;> first | omega | assumption | (refine ⟨?_, ?_⟩ <;> assumption) | (refine ⟨?_, ?_, ?_⟩ <;> assumption) | (intros; assumption) | (right; right; assumption)))
  have h4 : (w == (3 : Int)) = false := by (first | assumption | (((try simp only [SA] at *); (try simp (disch := omega) only [SB, reduceCtorEq] at *)) <;> first | omega | assumption | (refine ⟨?_, ?_⟩ <;> assumption) | (refine ⟨?_, ?_, ?_⟩ <;> assumption) | (intros; assumption) | (right; right; assumption)))
  have h5 : (w == (4 : Int)) = false := by (first | assumption | (((try simp only [SA] at *); (try simp (disch := omega) only [SB, reduceCtorEq] at *)) <;> first | omega | assumption | (refine ⟨?_, ?_⟩ <;> assumption) | (refine ⟨?_, ?_, ?_⟩ <;> assumption) | (intros; assumption) | (right; right; assumption)))
  rcases Bool.eq_false_or_eq_true (w == (9 : Int)) with h6 | h6
  · have h7 : (decide (n ≥ (0 : Int))) = true := by (first | assumption | (((try simp only [SA] at *); (try simp (disch := omega) only [SB, reduceCtorEq] at *)) <;> first | omega | assumption | (refine ⟨?_, ?_⟩ <;> assumption) | (refine ⟨?_, ?_, ?_⟩ <;> assumption) | (intros; assumption) | (right; right; assumption)))
    exact (pV (v := V.d (D.bool (decide (n ≤ (999999999999 : Int))))) 12 [(2, bf), (3, bf), (5, bf), (7, bf), (8, bf), (9, bf), (11, bf), (13, bf), (14, bt), (15, bt), (17, bt), (18, .v (V.d (D.bool !(t == [])))), (19, bf), (20, bt), (21, bf), (22, bf), (23, bf), (25, bf), (28, bf), (29, bf), (31, bf), (32, bf), (33, bf), (35, bf), (36, bt), (37, bt), (38, bt), (39, bf), (40, bf), (44, bf), (46, bf), (50, bf), (51, bf), (53, bf), (55, bf), (56, bf), (59, bt), (60, bt), (62, bt), (64, bt)] (cP h7 (cP h7 (cP h7 (cP h7 (cP h5 (cP h4 (cP h4 (cP h4 (cP h4 (cP h3 (cP h3 (cP h3 (cP h3 (cP h6 (cP h6 (cP h6 (cP h5 (cP h5 (cP h5 (cP h4 (cP h4 (cP h4 (cP h3 (cP h3 (cP h3 (cP h1 (cP h2 (cP h1 (cP (@strNe (t) ([])) (cP h2 (cP h2 (cP h2 (cP h1 (cP h1 (cP h1 (cP h1 (cP h0 (cP h0 (cP h0 (cP h0 nilE)))))))))))))))))))))))))))))))))))))))) (by kernel_rfl) rfl rfl).to (by ((try simp (disch := omega) only [wrapId, sizeOne, sizeStr, List.length_cons, List.length_nil, wrapU8, toNatAdd, toNatSucc] at *) <;> (try simp only [Int.toNat_natCast, beq_iff_eq, beq_eq_false_iff_ne, bne_iff_ne, bne_eq_false_iff_eq, ne_eq, Int.natCast_eq_zero, Int.natCast_inj] at *) <;> first | (simp (disch := omega) [Ty.enc, wrapId, toNatPred, toNatAdd, toNatSucc, sizeOne, sizeStr, List.length_cons, List.length_nil, wrapU8, ltF, ltT, Ty.slD, *]; done) | (subst_vars; simp (disch := omega) [Ty.enc, wrapId, toNatPred, toNatAdd, toNatSucc, sizeOne, sizeStr, List.length_cons, List.length_nil, wrapU8, ltF, ltT, Ty.slD, *]; done)))
  · have h7 : (!(w == (10 : Int))) = false := by (first | assumption | (((try simp only [SA] at *); (try simp (disch := omega) only [SB, reduceCtorEq] at *)) <;> first | omega | assumption | (refine ⟨?_, ?_⟩ <;> assumption) | (refine ⟨?_, ?_, ?_⟩ <;> assumption) | (intros; assumption) | (right; right; assumption)))
    have h8 : (decide (n ≥ (0 : Int))) = true := by (first | assumption | (((try simp only [SA] at *); (try simp (disch := omega) only [SB, reduceCtorEq] at *)) <;> first | omega | assumption | (refine ⟨?_, ?_⟩ <;> assumption) | (refine ⟨?_, ?_, ?_⟩ <;> assumption) | (intros; assumption) | (right; right; assumption)))
    exact (pV (v := V.d (D.bool (decide (n ≤ (999999999999 : Int))))) 12 [(2, bf), (3, bf), (5, bf), (7, bf), (8, bf), (9, bf), (11, bf), (13, bf), (14, bt), (15, bt), (17, bt), (18, .v (V.d (D.bool !(t == [])))), (19, bf), (20, bt), (21, bf), (22, bf), (23, bf), (25, bf), (28, bf), (29, bf), (31, bf), (32, bf), (33, bf), (35, bf), (36, bf), (37, bf), (39, bf), (40, bf), (41, bf), (42, bf), (43, bf), (44, bf), (45, bf), (46, bf), (47, bf), (51, bf), (52, bf), (54, bf), (56, bf), (57, bf), (60, bt), (61, bt), (63, bt), (65, bt)] (cP h8 (cP h8 (cP h8 (cP h8 (cP h5 (cP h4 (cP h4 (cP h4 (cP h4 (cP h3 (cP h7 (cP h3 (cP h7 (cP h7 (cP h7 (cP h3 (cP h3 (cP h6 (cP h6 (cP h6 (cP h5 (cP h5 (cP h5 (cP h4 (cP h4 (cP h4 (cP h3 (cP h3 (cP h3 (cP h1 (cP h2 (cP h1 (cP (@strNe (t) ([])) (cP h2 (cP h2 (cP h2 (cP h1 (cP h1 (cP h1 (cP h1 (cP h0 (cP h0 (cP h0 (cP h0 nilE)))))))))))))))))))))))))))))))))))))))))))) (by kernel_rfl) rfl rfl).to (by ((try simp (disch := omega) only [wrapId, sizeOne, sizeStr, List.length_cons, List.length_nil, wrapU8, toNatAdd, toNatSucc] at *) <;> (try simp only [Int.toNat_natCast, beq_iff_eq, beq_eq_false_iff_ne, bne_iff_ne, bne_eq_false_iff_eq, ne_eq, Int.natCast_eq_zero, Int.natCast_inj] at *) <;> first | (simp (disch := omega) [Ty.enc, wrapId, toNatPred, toNatAdd, toNatSucc, sizeOne, sizeStr, List.length_cons, List.length_nil, wrapU8, ltF, ltT, Ty.slD, *]; done) | (subst_vars; simp (disch := omega) [Ty.enc, wrapId, toNatPred, toNatAdd, toNatSucc, sizeOne, sizeStr, List.length_cons, List.length_nil, wrapU8, ltF, ltT, Ty.slD, *]; done)))
set_option maxHeartbeats 4000000 in
theorem esc1 : esc1_T := by
  intro w n t s i ht hs hi h1
  have h0 : (decide ((↑i : Int) < (↑(ByteArray.size { data := (List.toArray t) }) : Int))) = true := by (first | assumption | (((try simp only [SA] at *); (try simp (disch := omega) only [SB, reduceCtorEq] at *)) <;> first | omega | assumption | (refine ⟨?_, ?_⟩ <;> assumption) | (refine ⟨?_, ?_, ?_⟩ <;> assumption) | (intros; assumption) | (right; right; assumption)))
  have h1 : ((byteAt t (Int.toNat (↑i : Int))) == (10 : Int)) = true := by (first | assumption | (((try simp only [SA] at *); (try simp (disch := omega) only [SB, reduceCtorEq] at *)) <;> first | omega | assumption | (refine ⟨?_, ?_⟩ <;> assumption) | (refine ⟨?_, ?_, ?_⟩ <;> assumption) | (intros; assumption) | (right; right; assumption)))
  exact (pC (st' := { s := [((nat_lit 1), (V.obj (nat_lit 0) (nat_lit 0))), ((nat_lit 3), (V.d (D.str (s ++ [(92 : UInt8), (110 : UInt8)])))), ((nat_lit 4), (V.d (D.int IntKind.i64 (IntKind.wrap IntKind.i64 ((↑i : Int) + (1 : Int))))))], h := [(Ob.cells [(V.d (D.int IntKind.i64 w)), (V.d (D.int IntKind.i64 n)), (V.d (D.str t))])], og := [] }) 12 [(3, bt), (5, .v (V.d (D.int IntKind.u8 (byteAt t (Int.toNat (↑i : Int)))))), (7, bt), (8, .v (V.d (D.str (s ++ [(92 : UInt8), (110 : UInt8)]))))] (cP (@strAdd (s) ([(92 : UInt8), (110 : UInt8)]) (by (first | assumption | (((try simp only [SA] at *); (try simp (disch := omega) only [SB, reduceCtorEq] at *)) <;> first | omega | assumption | (refine ⟨?_, ?_⟩ <;> assumption) | (refine ⟨?_, ?_, ?_⟩ <;> assumption) | (intros; assumption) | (right; right; assumption)))) (by (first | assumption | (((try simp only [SA] at *); (try simp (disch := omega) only [SB, reduceCtorEq] at *)) <;> first | omega | assumption | (refine ⟨?_, ?_⟩ <;> assumption) | (refine ⟨?_, ?_, ?_⟩ <;> assumption) | (intros; assumption) | (right; right; assumption))))) (cP h1 (cP (@indexStr (t) ((↑i : Int)) (by (first | assumption | (((try simp only [SA] at *); (try simp (disch := omega) only [SB, reduceCtorEq] at *)) <;> first | omega | assumption | (refine ⟨?_, ?_⟩ <;> assumption) | (refine ⟨?_, ?_, ?_⟩ <;> assumption) | (intros; assumption) | (right; right; assumption)))) (by (first | assumption | (((try simp only [SA] at *); (try simp (disch := omega) only [SB, reduceCtorEq] at *)) <;> first | omega | assumption | (refine ⟨?_, ?_⟩ <;> assumption) | (refine ⟨?_, ?_, ?_⟩ <;> assumption) | (intros; assumption) | (right; right; assumption))))) (cP h0 nilE)))) (by kernel_rfl)).to (by ((try simp (disch := omega) only [wrapId, sizeOne, sizeStr, List.length_cons, List.length_nil, wrapU8, toNatAdd, toNatSucc] at *) <;> (try simp only [Int.toNat_natCast, beq_iff_eq, beq_eq_false_iff_ne, bne_iff_ne, bne_eq_false_iff_eq, ne_eq, Int.natCast_eq_zero, Int.natCast_inj] at *) <;> first | (simp (disch := omega) [Ty.enc, wrapId, toNatPred, toNatAdd, toNatSucc, sizeOne, sizeStr, List.length_cons, List.length_nil, wrapU8, ltF, ltT, Ty.slD, *]; done) | (subst_vars; simp (disch := omega) [Ty.enc, wrapId, toNatPred, toNatAdd, toNatSucc, sizeOne, sizeStr, List.length_cons, List.length_nil, wrapU8, ltF, ltT, Ty.slD, *]; done)))
set_option maxHeartbeats 4000000 in
theorem esc2 : esc2_T := by
  intro w n t s i ht hs hi h1
  have h0 : (decide ((↑i : Int) < (↑(ByteArray.size { data := (List.toArray t) }) : Int))) = true := by (first | assumption | (((try simp only [SA] at *); (try simp (disch := omega) only [SB, reduceCtorEq] at *)) <;> first | omega | assumption | (refine ⟨?_, ?_⟩ <;> assumption) | (refine ⟨?_, ?_, ?_⟩ <;> assumption) | (intros; assumption) | (right; right; assumption)))
  have h1 : ((byteAt t (Int.toNat (↑i : Int))) == (10 : Int)) = false := by (first | assumption | (((try simp only [SA] at *); (try simp (disch := omega) only [SB, reduceCtorEq] at *)) <;> first | omega | assumption | (refine ⟨?_, ?_⟩ <;> assumption) | (refine ⟨?_, ?_, ?_⟩ <;> assumption) | (intros; assumption) | (right; right; assumption)))
  have h2 : ((byteAt t (Int.toNat (↑i : Int))) == (92 : Int)) = true := by (first | assumption | (((try simp only [SA] at *); (try simp (disch := omega) only [SB, reduceCtorEq] at *)) <;> first | omega | assumption | (refine ⟨?_, ?_⟩ <;> assumption) | (refine ⟨?_, ?_, ?_⟩ <;> assumption) | (intros; assumption) | (right; right; assumption)))
  exact (pC (st' := { s := [((nat_lit 1), (V.obj (nat_lit 0) (nat_lit 0))), ((nat_lit 3), (V.d (D.str (s ++ [(92 : UInt8), (92 : UInt8)])))), ((nat_lit 4), (V.d (D.int IntKind.i64 (IntKind.wrap IntKind.i64 ((↑i : Int) + (1 : Int))))))], h := [(Ob.cells [(V.d (D.int IntKind.i64 w)), (V.d (D.int IntKind.i64 n)), (V.d (D.str t))])], og := [] }) 12 [(3, bt), (5, .v (V.d (D.int IntKind.u8 (byteAt t (Int.toNat (↑i : Int)))))), (7, bf), (9, bt), (10, .v (V.d (D.str (s ++ [(92 : UInt8), (92 : UInt8)]))))] (cP (@strAdd (s) ([(92 : UInt8), (92 : UInt8)]) (by (first | assumption | (((try simp only [SA] at *); (try simp (disch := omega) only [SB, reduceCtorEq] at *)) <;> first | omega | assumption | (refine ⟨?_, ?_⟩ <;> assumption) | (refine ⟨?_, ?_, ?_⟩ <;> assumption) | (intros; assumption) | (right; right; assumption)))) (by (first | assumption | (((try simp only [SA] at *); (try simp (disch := omega) only [SB, reduceCtorEq] at *)) <;> first | omega | assumption | (refine ⟨?_, ?_⟩ <;> assumption) | (refine ⟨?_, ?_, ?_⟩ <;> assumption) | (intros; assumption) | (right; right; assumption))))) (cP h2 (cP h1 (cP (@indexStr (t) ((↑i : Int)) (by (first | assumption | (((try simp only [SA] at *); (try simp (disch := omega) only [SB, reduceCtorEq] at *)) <;> first | omega | assumption | (refine ⟨?_, ?_⟩ <;> assumption) | (refine ⟨?_, ?_, ?_⟩ <;> assumption) | (intros; assumption) | (right; right; assumption)))) (by (first | assumption | (((try simp only [SA] at *); (try simp (disch := omega) only [SB, reduceCtorEq] at *)) <;> first | omega | assumption | (refine ⟨?_, ?_⟩ <;> assumption) | (refine ⟨?_, ?_, ?_⟩ <;> assumption) | (intros; assumption) | (right; right; assumption))))) (cP h0 nilE))))) (by kernel_rfl)).to (by ((try simp (disch := omega) only [wrapId, sizeOne, sizeStr, List.length_cons, List.length_nil, wrapU8, toNatAdd, toNatSucc] at *) <;> (try simp only [Int.toNat_natCast, beq_iff_eq, beq_eq_false_iff_ne, bne_iff_ne, bne_eq_false_iff_eq, ne_eq, Int.natCast_eq_zero, Int.natCast_inj] at *) <;> first | (simp (disch := omega) [Ty.enc, wrapId, toNatPred, toNatAdd, toNatSucc, sizeOne, sizeStr, List.length_cons, List.length_nil, wrapU8, ltF, ltT, Ty.slD, *]; done) | (subst_vars; simp (disch := omega) [Ty.enc, wrapId, toNatPred, toNatAdd, toNatSucc, sizeOne, sizeStr, List.length_cons, List.length_nil, wrapU8, ltF, ltT, Ty.slD, *]; done)))
set_option maxHeartbeats 4000000 in
theorem esc3 : esc3_T := by
  intro w n t s i ht hs hi h1 h2
  have h0 : (decide ((↑i : Int) < (↑(ByteArray.size { data := (List.toArray t) }) : Int))) = true := by (first | assumption | (((try simp only [SA] at *); (try simp (disch := omega) only [SB, reduceCtorEq] at *)) <;> first | omega | assumption | (refine ⟨?_, ?_⟩ <;> assumption) | (refine ⟨?_, ?_, ?_⟩ <;> assumption) | (intros; assumption) | (right; right; assumption)))
  have h1 : ((byteAt t (Int.toNat (↑i : Int))) == (10 : Int)) = false := by (first | assumption | (((try simp only [SA] at *); (try simp (disch := omega) only [SB, reduceCtorEq] at *)) <;> first | omega | assumption | (refine ⟨?_, ?_⟩ <;> assumption) | (refine ⟨?_, ?_, ?_⟩ <;> assumption) | (intros; assumption) | (right; right; assumption)))
  have h2 : ((byteAt t (Int.toNat (↑i : Int))) == (92 : Int)) = false := by (first | assumption | (((try simp only [SA] at *); (try simp (disch := omega) only [SB, reduceCtorEq] at *)) <;> first | omega | assumption | (refine ⟨?_, ?_⟩ <;> assumption) | (refine ⟨?_, ?_, ?_⟩ <;> assumption) | (intros; assumption) | (right; right; assumption)))
  exact (pC (st' := { s := [((nat_lit 1), (V.obj (nat_lit 0) (nat_lit 0))), ((nat_lit 3), (V.d (D.str (s ++ [((fun (n : Int) => (UInt8.ofNat (Int.toNat n))) (byteAt t (Int.toNat (↑i : Int))))])))), ((nat_lit 4), (V.d (D.int IntKind.i64 (IntKind.wrap IntKind.i64 ((↑i : Int) + (1 : Int))))))], h := [(Ob.cells [(V.d (D.int IntKind.i64 w)), (V.d (D.int IntKind.i64 n)), (V.d (D.str t))])], og := [] }) 12 [(3, bt), (5, .v (V.d (D.int IntKind.u8 (byteAt t (Int.toNat (↑i : Int)))))), (7, bf), (9, bf), (12, .v (V.d (D.str (toBs [(byteAt t (Int.toNat (↑i : Int)))])))), (13, .v (V.d (D.str (s ++ [((fun (n : Int) => (UInt8.ofNat (Int.toNat n))) (byteAt t (Int.toNat (↑i : Int))))]))))] (cP (@strAdd (s) ([((fun (n : Int) => (UInt8.ofNat (Int.toNat n))) (byteAt t (Int.toNat (↑i : Int))))]) (by (first | assumption | (((try simp only [SA] at *); (try simp (disch := omega) only [SB, reduceCtorEq] at *)) <;> first | omega | assumption | (refine ⟨?_, ?_⟩ <;> assumption) | (refine ⟨?_, ?_, ?_⟩ <;> assumption) | (intros; assumption) | (right; right; assumption)))) (by (first | assumption | (((try simp only [SA] at *); (try simp (disch := omega) only [SB, reduceCtorEq] at *)) <;> first | omega | assumption | (refine ⟨?_, ?_⟩ <;> assumption) | (refine ⟨?_, ?_, ?_⟩ <;> assumption) | (intros; assumption) | (right; right; assumption))))) (cP (@sliceAt (t) ((↑i : Int)) (IntKind.wrap IntKind.i64 ((↑i : Int) + (1 : Int))) (by (first | assumption | (((try simp only [SA] at *); (try simp (disch := omega) only [SB, reduceCtorEq] at *)) <;> first | omega | assumption | (refine ⟨?_, ?_⟩ <;> assumption) | (refine ⟨?_, ?_, ?_⟩ <;> assumption) | (intros; assumption) | (right; right; assumption)))) (by (first | assumption | (((try simp only [SA] at *); (try simp (disch := omega) only [SB, reduceCtorEq] at *)) <;> first | omega | assumption | (refine ⟨?_, ?_⟩ <;> assumption) | (refine ⟨?_, ?_, ?_⟩ <;> assumption) | (intros; assumption) | (right; right; assumption)))) (by (first | assumption | (((try simp only [SA] at *); (try simp (disch := omega) only [SB, reduceCtorEq] at *)) <;> first | omega | assumption | (refine ⟨?_, ?_⟩ <;> assumption) | (refine ⟨?_, ?_, ?_⟩ <;> assumption) | (intros; assumption) | (right; right; assumption))))) (cP h2 (cP h1 (cP (@indexStr (t) ((↑i : Int)) (by (first | assumption | (((try simp only [SA] at *); (try simp (disch := omega) only [SB, reduceCtorEq] at *)) <;> first | omega | assumption | (refine ⟨?_, ?_⟩ <;> assumption) | (refine ⟨?_, ?_, ?_⟩ <;> assumption) | (intros; assumption) | (right; right; assumption)))) (by (first | assumption | (((try simp only [SA] at *); (try simp (disch := omega) only [SB, reduceCtorEq] at *)) <;> first | omega | assumption | (refine ⟨?_, ?_⟩ <;> assumption) | (refine ⟨?_, ?_, ?_⟩ <;> assumption) | (intros; assumption) | (right; right; assumption))))) (cP h0 nilE)))))) (by kernel_rfl)).to (by ((try simp (disch := omega) only [wrapId, sizeOne, sizeStr, List.length_cons, List.length_nil, wrapU8, toNatAdd, toNatSucc] at *) <;> (try simp only [Int.toNat_natCast, beq_iff_eq, beq_eq_false_iff_ne, bne_iff_ne, bne_eq_false_iff_eq, ne_eq, Int.natCast_eq_zero, Int.natCast_inj] at *) <;> first | (simp (disch := omega) [Ty.enc, wrapId, toNatPred, toNatAdd, toNatSucc, sizeOne, sizeStr, List.length_cons, List.length_nil, wrapU8, ltF, ltT, Ty.slD, *]; done) | (subst_vars; simp (disch := omega) [Ty.enc, wrapId, toNatPred, toNatAdd, toNatSucc, sizeOne, sizeStr, List.length_cons, List.length_nil, wrapU8, ltF, ltT, Ty.slD, *]; done)))
set_option maxHeartbeats 4000000 in
theorem esc4 : esc4_T := by
  intro w n t s i hi
  have h0 : (decide ((↑i : Int) < (↑(ByteArray.size { data := (List.toArray t) }) : Int))) = false := by (first | assumption | (((try simp only [SA] at *); (try simp (disch := omega) only [SB, reduceCtorEq] at *)) <;> first | omega | assumption | (refine ⟨?_, ?_⟩ <;> assumption) | (refine ⟨?_, ?_, ?_⟩ <;> assumption) | (intros; assumption) | (right; right; assumption)))
  exact (pR (r := ((Ex.exit (nat_lit 0)), { s := [((nat_lit 1), (V.obj (nat_lit 0) (nat_lit 0))), ((nat_lit 3), (V.d (D.str s))), ((nat_lit 4), (V.d (D.int IntKind.i64 (↑i : Int)))), ((nat_lit 27), (V.d (D.bool (decide ((↑i : Int) < (↑(ByteArray.size { data := (List.toArray t) }) : Int))))))], h := [(Ob.cells [(V.d (D.int IntKind.i64 w)), (V.d (D.int IntKind.i64 n)), (V.d (D.str t))])], og := [] })) 12 [(3, bf)] (cP h0 nilE) (by kernel_rfl)).to (by ((try simp (disch := omega) only [wrapId, sizeOne, sizeStr, List.length_cons, List.length_nil, wrapU8, toNatAdd, toNatSucc] at *) <;> (try simp only [Int.toNat_natCast, beq_iff_eq, beq_eq_false_iff_ne, bne_iff_ne, bne_eq_false_iff_eq, ne_eq, Int.natCast_eq_zero, Int.natCast_inj] at *) <;> first | (simp (disch := omega) [Ty.enc, wrapId, toNatPred, toNatAdd, toNatSucc, sizeOne, sizeStr, List.length_cons, List.length_nil, wrapU8, ltF, ltT, Ty.slD, *]; done) | (subst_vars; simp (disch := omega) [Ty.enc, wrapId, toNatPred, toNatAdd, toNatSucc, sizeOne, sizeStr, List.length_cons, List.length_nil, wrapU8, ltF, ltT, Ty.slD, *]; done)))
end Go.Proofs.YtnmabjamkpmkcaaDoor.Keys
/- Keys: lines of keys are read as they were: plain lemmas. -/
set_option linter.unusedVariables false
set_option linter.unusedSimpArgs false
namespace Go.Proofs.YtnmabjamkpmkcaaDoor.Keys
open Go Pv G
theorem hasNl_no (l : Str) : hasNl l = false ↔ (10 : UInt8) ∉ l := by
  rw [← indexByte_none]
  unfold hasNl
  simp
theorem nameW_noNl (w : Int) : (10 : UInt8) ∉ nameW w := by
  unfold nameW
  repeat' split
  all_goals decide
/-- A byte as it is told. -/
def tell1 (b : UInt8) : Str := if b = 92 then [92, 92] else if b = 10 then [92, 110] else [b]
theorem tell_nil : tell [] = [] := rfl
theorem tell_cons (b : UInt8) (t : Str) : tell (b :: t) = tell1 b ++ tell t := by
  unfold tell tell1
  have e : subst1 92 [92, 92] (b :: t) = (if b = 92 then [92, 92] else [b]) ++ subst1 92 [92, 92] t := by simp [subst1]
  rw [e]
  have e2 : ∀ a c : Str, subst1 10 [92, 110] (a ++ c) = subst1 10 [92, 110] a ++ subst1 10 [92, 110] c := fun a c => by simp [subst1]
  rw [e2]
  congr 1
  by_cases h : b = 92
  · rw [if_pos h, if_pos h]; rfl
  · rw [if_neg h, if_neg h]
    by_cases h2 : b = 10
    · rw [if_pos h2]; simp [subst1, h2]
    · rw [if_neg h2]; simp [subst1, h2]
theorem tell1_noNl (b : UInt8) : (10 : UInt8) ∉ tell1 b := by
  unfold tell1
  split
  · decide
  · split
    · decide
    · rename_i h; simp; exact fun e => h e.symm
theorem tell_noNl : ∀ t : Str, (10 : UInt8) ∉ tell t
  | [] => by simp [tell_nil]
  | b :: t => by
    rw [tell_cons, List.mem_append, not_or]
    exact ⟨tell1_noNl b, tell_noNl t⟩
theorem tell1_len (b : UInt8) : 1 ≤ (tell1 b).length ∧ (tell1 b).length ≤ 2 := by
  unfold tell1
  repeat' split
  all_goals simp
theorem tell_len : ∀ t : Str, (tell t).length ≤ 2 * t.length
  | [] => by simp [tell_nil]
  | b :: t => by
    have := tell_len t
    have := (tell1_len b).2
    rw [tell_cons, List.length_append, List.length_cons]
    omega
theorem byteAt_app (p r : Str) (c : UInt8) : byteAt (p ++ c :: r) p.length = c.toNat := by
  unfold byteAt
  simp [List.getD_eq_getElem?_getD]
theorem byteAt_app1 (p r : Str) (c d : UInt8) : byteAt (p ++ c :: d :: r) (p.length + 1) = d.toNat := by
  have := byteAt_app (p ++ [c]) r d
  simpa using this
abbrev ints (t : Str) : List Int := t.map fun b => (b.toNat : Int)
theorem toBs_ints (t : Str) : toBs (ints t) = t := by
  simp only [toBs, ints, List.map_map]
  conv => rhs; rw [← List.map_id t]
  apply List.map_congr_left
  intro b _
  simp
theorem plainF_tell : ∀ (t p : Str) (f : Nat) (out : List Int), t.length < f → plainF (p ++ tell t) f p.length out = some (out ++ ints t)
  | [], p, f, out, h => by
    obtain ⟨f, rfl⟩ : ∃ x, f = x + 1 := ⟨f - 1, by simp at h; omega⟩
    simp [plainF, tell_nil]
  | b :: t, p, f, out, h => by
    obtain ⟨f, rfl⟩ : ∃ x, f = x + 1 := ⟨f - 1, by simp at h; omega⟩
    have hf : t.length < f := by simp at h; omega
    rw [tell_cons]
    unfold tell1
    by_cases h92 : b = 92
    · subst h92
      rw [if_pos rfl]
      have e1 : byteAt (p ++ ([92, 92] ++ tell t)) p.length = 92 := byteAt_app p (92 :: tell t) 92
      have e2 : byteAt (p ++ ([92, 92] ++ tell t)) (p.length + 1) = 92 := byteAt_app1 p (tell t) 92 92
      have hl : p.length + 1 < (p ++ ([92, 92] ++ tell t)).length := by simp
      simp only [plainF]
      rw [if_pos (by omega), if_neg (by rw [e1]; simp), if_pos ⟨hl, e2⟩]
      have ih := plainF_tell t (p ++ [92, 92]) f (out ++ [92]) hf
      simp only [List.length_append, List.length_cons, List.length_nil, List.append_assoc] at ih
      rw [ih]
      simp
    · rw [if_neg h92]
      by_cases h10 : b = 10
      · subst h10
        rw [if_pos rfl]
        have e1 : byteAt (p ++ ([92, 110] ++ tell t)) p.length = 92 := byteAt_app p (110 :: tell t) 92
        have e2 : byteAt (p ++ ([92, 110] ++ tell t)) (p.length + 1) = 110 := byteAt_app1 p (tell t) 92 110
        have hl : p.length + 1 < (p ++ ([92, 110] ++ tell t)).length := by simp
        simp only [plainF]
        rw [if_pos (by omega), if_neg (by rw [e1]; simp), if_neg (by rw [e2]; simp), if_pos ⟨hl, e2⟩]
        have ih := plainF_tell t (p ++ [92, 110]) f (out ++ [10]) hf
        simp only [List.length_append, List.length_cons, List.length_nil, List.append_assoc] at ih
        rw [ih]
        simp
      · rw [if_neg h10]
        have e1 : byteAt (p ++ ([b] ++ tell t)) p.length = b.toNat := byteAt_app p (tell t) b
        have hne : (b.toNat : Int) ≠ 92 := by
          intro e
          exact h92 (UInt8.toNat_inj.1 (by show b.toNat = 92; omega))
        have hl : p.length < (p ++ ([b] ++ tell t)).length := by simp
        simp only [plainF]
        rw [if_pos hl, if_pos (by rw [e1]; exact hne), e1]
        have ih := plainF_tell t (p ++ [b]) f (out ++ [(b.toNat : Int)]) hf
        simp only [List.length_append, List.length_cons, List.length_nil, List.append_assoc] at ih
        rw [ih]
        simp
theorem tell_ge : ∀ t : Str, t.length ≤ (tell t).length
  | [] => by simp [tell_nil]
  | b :: t => by
    have := tell_ge t
    have := (tell1_len b).1
    rw [tell_cons, List.length_append, List.length_cons]
    omega
theorem plainOf_tell (t : Str) : plainOf (tell t) = some (ints t) := by
  have := plainF_tell t [] ((tell t).length + 1) [] (by have := tell_ge t; omega)
  simpa [plainOf] using this
theorem plainOk_tell (t : Str) : plainOk (tell t) = true := by unfold plainOk; rw [plainOf_tell]; rfl
theorem plainS_tell (t : Str) : plainS (tell t) = t := by
  unfold plainS
  rw [if_pos (plainOk_tell t)]
  unfold plainR
  rw [plainOf_tell]
  exact toBs_ints t
/- numbers -/
theorem decF_decL : ∀ (f u : Nat) (acc : Str), decF f u acc = decL f (u : Int) ++ acc
  | 0, u, acc => by
    simp only [decF, decL, toBs, List.map_cons, List.map_nil]
    rw [show ((48 : Int) + (u : Int)).toNat = 48 + u by omega]
    rfl
  | f + 1, u, acc => by
    simp only [decF, decL]
    by_cases h : u < 10
    · rw [if_pos h, if_neg (by omega)]
      simp only [toBs, List.map_cons, List.map_nil]
      rw [show ((48 : Int) + (u : Int)).toNat = 48 + u by omega]
      rfl
    · rw [if_neg h, if_pos (by omega), decF_decL f (u / 10)]
      simp only [toBs, List.map_cons, List.map_nil]
      rw [show ((48 : Int) + (u : Int) % 10).toNat = 48 + u % 10 by omega]
      simp
theorem decL_same : ∀ (f g : Nat) (n : Int), 0 ≤ n → n < 10 ^ (f + 1) → n < 10 ^ (g + 1) → decL f n = decL g n
  | 0, 0, n, _, _, _ => rfl
  | 0, g + 1, n, h0, h1, h2 => by
    simp only [decL]
    rw [if_neg (by simp at h1; omega)]
  | f + 1, 0, n, h0, h1, h2 => by
    simp only [decL]
    rw [if_neg (by simp at h2; omega)]
  | f + 1, g + 1, n, h0, h1, h2 => by
    simp only [decL]
    split
    · rw [decL_same f g (n / 10) (by omega) (by rw [Int.pow_succ] at h1; omega) (by rw [Int.pow_succ] at h2; omega)]
    · rfl
theorem itoaF_nat (n : Int) (h0 : 0 ≤ n) : itoaF n = decL 19 n := by
  unfold itoaF
  rw [if_neg (by omega), decF_decL]
  rw [show ((n.toNat : Nat) : Int) = n by omega]
  simp
theorem digOf (n : Int) (h0 : 0 ≤ n) (h1 : n ≤ 9) : isDig (UInt8.ofNat (48 + n).toNat) ∧ ((UInt8.ofNat (48 + n).toNat).toNat : Int) = 48 + n := by
  obtain ⟨k, rfl⟩ : ∃ k : Nat, n = k := ⟨n.toNat, by omega⟩
  have e : ((48 : Int) + (k : Int)).toNat = 48 + k := by omega
  have h : (UInt8.ofNat (48 + k)).toNat = 48 + k := by
    rw [UInt8.toNat_ofNat']
    exact Nat.mod_eq_of_lt (by omega)
  unfold isDig
  rw [e, h]
  omega
theorem decL_ok : ∀ (f : Nat) (n : Int), 0 ≤ n → n < 10 ^ (f + 1) → (∀ c ∈ decL f n, isDig c) ∧ (decL f n).foldl step 0 = n ∧ 1 ≤ (decL f n).length ∧ (decL f n).length ≤ f + 1
  | 0, n, h0, h1 => by
    have h9 : n ≤ 9 := by simp at h1; omega
    have hd := digOf n h0 h9
    simp only [decL, toBs, List.map_cons, List.map_nil]
    refine ⟨fun c hc => ?_, ?_, by simp, by simp⟩
    · rw [List.mem_singleton] at hc; subst hc; exact hd.1
    · simp only [List.foldl_cons, List.foldl_nil, step]
      rw [hd.2]; omega
  | f + 1, n, h0, h1 => by
    simp only [decL]
    split
    · have ih := decL_ok f (n / 10) (by omega) (by rw [Int.pow_succ] at h1; omega)
      have hd := digOf (n % 10) (by omega) (by omega)
      simp only [toBs, List.map_cons, List.map_nil]
      refine ⟨fun c hc => ?_, ?_, by simp, by simp; omega⟩
      · rcases List.mem_append.1 hc with hc | hc
        · exact ih.1 c hc
        · rw [List.mem_singleton] at hc; subst hc; exact hd.1
      · rw [List.foldl_append, ih.2.1]
        simp only [List.foldl_cons, List.foldl_nil, step]
        rw [hd.2]; omega
    · have h9 : n ≤ 9 := by omega
      have hd := digOf n h0 h9
      simp only [toBs, List.map_cons, List.map_nil]
      refine ⟨fun c hc => ?_, ?_, by simp, by simp⟩
      · rw [List.mem_singleton] at hc; subst hc; exact hd.1
      · simp only [List.foldl_cons, List.foldl_nil, step]
        rw [hd.2]; omega
theorem decL_long : ∀ (k f : Nat) (n : Int), 10 ^ k ≤ n → n < 10 ^ (f + 1) → k < (decL f n).length
  | 0, f, n, h0, h1 => by
    have h0' : 0 ≤ n := by simp at h0; omega
    have := (decL_ok f n h0' h1).2.2.1
    omega
  | k + 1, 0, n, h0, h1 => by
    have hk : (1 : Int) ≤ 10 ^ k := by exact_mod_cast Nat.one_le_pow k 10 (by decide)
    rw [Int.pow_succ] at h0
    simp at h1
    omega
  | k + 1, f + 1, n, h0, h1 => by
    have hk : (1 : Int) ≤ 10 ^ k := by exact_mod_cast Nat.one_le_pow k 10 (by decide)
    rw [Int.pow_succ] at h0 h1
    have ih := decL_long k f (n / 10) (by omega) (by omega)
    simp only [decL]
    rw [if_pos (by omega)]
    simp
    omega
theorem itoaF_len (n : Int) (h0 : -9223372036854775808 ≤ n) (h1 : n ≤ 9223372036854775807) : (itoaF n).length ≤ 21 := by
  have e : (10 : Int) ^ (19 + 1) = 100000000000000000000 := by decide
  unfold itoaF
  split
  · rw [decF_decL, List.append_nil, List.length_cons]
    have := (decL_ok 19 (n.natAbs : Int) (by omega) (by omega)).2.2.2
    omega
  · rw [decF_decL, List.append_nil]
    have := (decL_ok 19 (n.toNat : Int) (by omega) (by omega)).2.2.2
    omega
theorem itoaF_noNl (n : Int) (h0 : -9223372036854775808 ≤ n) (h1 : n ≤ 9223372036854775807) : (10 : UInt8) ∉ itoaF n := by
  have e : (10 : Int) ^ (19 + 1) = 100000000000000000000 := by decide
  have nd : ¬ isDig (10 : UInt8) := by decide
  unfold itoaF
  split
  · rw [decF_decL, List.append_nil]
    have := (decL_ok 19 (n.natAbs : Int) (by omega) (by omega)).1
    simp only [List.mem_cons, not_or]
    exact ⟨by decide, fun h => nd (this _ h)⟩
  · rw [decF_decL, List.append_nil]
    have := (decL_ok 19 (n.toNat : Int) (by omega) (by omega)).1
    exact fun h => nd (this _ h)
theorem decW_itoa (n : Int) (h0 : 0 ≤ n) (h1 : n ≤ 999999999999) : decW n = itoaF n := by
  have e1 : (10 : Int) ^ (14 + 1) = 1000000000000000 := by decide
  have e2 : (10 : Int) ^ (19 + 1) = 100000000000000000000 := by decide
  rw [decW_decL, itoaF_nat n h0]
  exact decL_same 14 19 n h0 (by omega) (by omega)
theorem valR_itoa (n : Int) (h0 : 0 ≤ n) (h1 : n ≤ 999999999999) : valR (itoaF n) = n := by
  have e1 : (10 : Int) ^ (11 + 1) = 1000000000000 := by decide
  have e2 : (10 : Int) ^ (19 + 1) = 100000000000000000000 := by decide
  have hE : itoaF n = decL 11 n := by rw [itoaF_nat n h0]; exact decL_same 19 11 n h0 (by omega) (by omega)
  obtain ⟨a, b, c, d⟩ := decL_ok 11 n h0 (by omega)
  rw [hE]
  have hok : numOk (decL 11 n) = true := (numOk_iff _).2 a
  unfold valR
  rw [if_pos ⟨c, by omega, hok⟩, numR_fold _ a, b]
theorem valR_big (n : Int) (h0 : 999999999999 < n) (h1 : n ≤ 9223372036854775807) : valR (itoaF n) = -1 := by
  have e1 : (10 : Int) ^ 12 = 1000000000000 := by decide
  have e2 : (10 : Int) ^ (19 + 1) = 100000000000000000000 := by decide
  rw [itoaF_nat n (by omega)]
  have := decL_long 12 19 n (by omega) (by omega)
  unfold valR
  rw [if_neg (by omega)]
theorem valR_neg (n : Int) (h0 : n < 0) : valR (itoaF n) = -1 := by
  unfold valR
  rw [if_neg]
  rintro ⟨_, _, h⟩
  have := (numOk_iff _).1 h 45 (by unfold itoaF; rw [if_pos h0]; simp)
  exact absurd this (by decide)
/- lines -/
theorem refAll_sp (w : Int) (r : Str) (h1 : 1 ≤ w) (h2 : w ≤ 10) : refAll (nameW w ++ sp r) = (restOne true r w).map fun x => (w, x.1, x.2) := by
  rw [sp_eq]
  obtain ⟨a, b, c⟩ := with_sp (nameW w) r (nameW_noSp w)
  rw [refAll_eq]
  unfold wh
  rw [a, b, c, whatOf_nameW w h1 h2, if_pos h1]
theorem refAll_T (t : Str) : refAll (lineT 1 t) = some (1, 0, t) := by
  unfold lineT
  rw [refAll_sp 1 _ (by omega) (by omega)]
  unfold restOne
  rw [if_neg (by simp), if_pos rfl, if_pos (plainOk_tell t), plainS_tell]
  rfl
def numK (w n : Int) : Bool := if w = 3 ∨ w = 4 then decide (1 ≤ n ∧ n ≤ 10) else decide (0 ≤ n ∧ n ≤ 999999999999)
theorem refAll_M (w n : Int) (hw : w = 3 ∨ w = 4 ∨ w = 9 ∨ w = 10) (k1 : n ≤ 9223372036854775807) : refAll (lineM w n) = if numK w n = true then some (w, n, []) else none := by
  unfold lineM
  rw [refAll_sp w _ (by omega) (by omega)]
  unfold restOne numK
  rw [if_neg (by simp), if_neg (by omega)]
  have hv : valR (itoaF n) = if 0 ≤ n ∧ n ≤ 999999999999 then n else -1 := by
    by_cases h : 0 ≤ n ∧ n ≤ 999999999999
    · rw [if_pos h]; exact valR_itoa n h.1 h.2
    · rw [if_neg h]
      by_cases h0 : n < 0
      · exact valR_neg n h0
      · exact valR_big n (by omega) k1
  by_cases h34 : w = 3 ∨ w = 4
  · rw [if_pos h34, if_pos h34]
    by_cases hn : 1 ≤ n ∧ n ≤ 10
    · have e : valR (itoaF n) = n := valR_itoa n (by omega) (by omega)
      have e2 := decW_itoa n (by omega) (by omega)
      rw [e, if_pos ⟨hn.1, hn.2, e2⟩, if_pos (by simpa using hn)]
      rfl
    · rw [if_neg (by
        rintro ⟨a, b, _⟩
        rw [hv] at a b
        split at a <;> rename_i hc
        · rw [if_pos hc] at b; exact hn ⟨a, b⟩
        · omega), if_neg (by simpa using hn)]
      rfl
  · rw [if_neg h34, if_neg h34, if_pos (by omega)]
    by_cases hn : 0 ≤ n ∧ n ≤ 999999999999
    · have e : valR (itoaF n) = n := valR_itoa n hn.1 hn.2
      have e2 := decW_itoa n hn.1 hn.2
      rw [e, if_pos ⟨hn.1, e2⟩, if_pos (by simpa using hn)]
      rfl
    · rw [if_neg (by
        rintro ⟨a, _⟩
        rw [hv, if_neg hn] at a
        omega), if_neg (by simpa using hn)]
      rfl
theorem refAll_W (w : Int) (hw : w = 2 ∨ (5 ≤ w ∧ w ≤ 8)) : refAll (nameW w) = some (w, 0, []) := by
  obtain ⟨a, b, c⟩ := without_sp (nameW w) (nameW_noSp w)
  rw [refAll_eq]
  unfold wh
  rw [a, b, c, whatOf_nameW w (by omega) (by omega), if_pos (by omega)]
  unfold restOne
  rw [if_pos rfl, if_pos (by omega)]
  rfl
theorem ref_of {line : Str} {w n : Int} {t : Str} (h : refAll line = some (w, n, t)) : refOk line = true ∧ refW line = w ∧ refN line = n ∧ refT line = t := by
  unfold refOk refW refN refT
  rw [h]
  exact ⟨rfl, rfl, rfl, rfl⟩
end Go.Proofs.YtnmabjamkpmkcaaDoor.Keys
/- Keys: keys.Line and Has answered as one; the loop of the reference's Line; statements of the law KeysLine. -/
set_option linter.unusedVariables false
set_option linter.unusedSimpArgs false
namespace Go.Proofs.YtnmabjamkpmkcaaDoor.Keys
open Go Pv G
/-- Has a key a line? -/
def hasB (w n : Int) (t : Str) : Bool := decide (1 ≤ w ∧ w ≤ 10) && (decide (w = 1) || (t == [])) && (if w = 3 ∨ w = 4 ∨ w = 9 ∨ w = 10 then numK w n else decide (n = 0))
def lineOf (w n : Int) (t : Str) : Str := if w = 1 then lineT w t else if w = 3 ∨ w = 4 ∨ w = 9 ∨ w = 10 then lineM w n else nameW w
def lineS (w n : Int) (t : Str) : Str := if hasB w n t = true then lineOf w n t else []
theorem hasB_0 {w n : Int} {t : Str} (h : w < 1 ∨ 10 < w) : hasB w n t = false := by
  unfold hasB
  rw [decide_eq_false (by omega)]
  rfl
theorem hasB_T {n : Int} {t : Str} : hasB 1 n t = decide (n = 0) := by
  unfold hasB
  simp
theorem hasB_M {w n : Int} {t : Str} (hw : w = 3 ∨ w = 4 ∨ w = 9 ∨ w = 10) : hasB w n t = ((t == []) && numK w n) := by
  unfold hasB
  rw [if_pos hw, decide_eq_true (show 1 ≤ w ∧ w ≤ 10 by omega), decide_eq_false (show ¬ w = 1 by omega)]
  simp
theorem hasB_W {w n : Int} {t : Str} (hw : w = 2 ∨ (5 ≤ w ∧ w ≤ 8)) : hasB w n t = ((t == []) && decide (n = 0)) := by
  unfold hasB
  rw [if_neg (by omega), decide_eq_true (show 1 ≤ w ∧ w ≤ 10 by omega), decide_eq_false (show ¬ w = 1 by omega)]
  simp
theorem sub_len (t : Str) (ht : t.length ≤ 1000) : (subst1 92 [92, 92] t).length ≤ 2000 := by
  have := subst1_len 92 [92, 92] 2 (by simp) (by omega) t
  omega
def lineR_T : Prop := ∀ (w n : Int) (t : Str) (ht : t.length ≤ 1000) (k0 : -9223372036854775808 ≤ n) (k1 : n ≤ 9223372036854775807), Ans X0 FLn [.d (keyD w n t)] (.d (.str (lineS w n t)))
theorem lineR : lineR_T := fun w n t ht k0 k1 => by
  by_cases h0 : w < 1
  · have e : lineS w n t = [] := by unfold lineS; rw [hasB_0 (.inl h0)]; rfl
    rw [e]; exact ln0a w n t h0
  by_cases h10 : 10 < w
  · have e : lineS w n t = [] := by unfold lineS; rw [hasB_0 (.inr h10)]; rfl
    rw [e]; exact ln0b w n t h10
  have hnw := nameW_len w
  by_cases h1 : w = 1
  · subst h1
    obtain ⟨a, b, c, d⟩ := ref_of (refAll_T t)
    have l2 : (tell t).length ≤ 5000 := by have := tell_len t; omega
    have l3 : (sp (tell t)).length ≤ 5001 := by rw [sp_len]; omega
    have l5 : (lineT 1 t).length ≤ 1000000 := by unfold lineT; rw [List.length_append]; omega
    have hn : hasNl (lineT 1 t) = false := by
      rw [hasNl_no]; unfold lineT; rw [sp_eq]
      simp only [List.mem_append, List.mem_cons, not_or]
      exact ⟨nameW_noNl 1, by decide, tell_noNl t⟩
    by_cases hn0 : n = 0
    · have e : lineS 1 n t = lineT 1 t := by unfold lineS; rw [hasB_T, if_pos (by simpa using hn0)]; unfold lineOf; rw [if_pos rfl]
      rw [e]; exact lnT1 1 n t rfl ht l2 l3 hnw l5 hn a b (by rw [c, hn0]) d
    · have e : lineS 1 n t = [] := by unfold lineS; rw [hasB_T, if_neg (by simpa using hn0)]
      rw [e]; exact lnT2 1 n t rfl ht l2 l3 hnw l5 hn a b (by rw [c]; exact fun e => hn0 e.symm)
  by_cases hM : w = 3 ∨ w = 4 ∨ w = 9 ∨ w = 10
  · have l2 := itoaF_len n k0 k1
    have l3 : (sp (itoaF n)).length ≤ 22 := by rw [sp_len]; omega
    have l5 : (lineM w n).length ≤ 1000000 := by unfold lineM; rw [List.length_append]; omega
    have hn : hasNl (lineM w n) = false := by
      rw [hasNl_no]; unfold lineM; rw [sp_eq]
      simp only [List.mem_append, List.mem_cons, not_or]
      exact ⟨nameW_noNl w, by decide, itoaF_noNl n k0 k1⟩
    have hr := refAll_M w n hM k1
    cases hk : numK w n with
    | true =>
      rw [hk, if_pos rfl] at hr
      obtain ⟨a, b, c, d⟩ := ref_of hr
      by_cases ht0 : t = []
      · have e : lineS w n t = lineM w n := by
          unfold lineS; rw [hasB_M hM, hk, ht0, if_pos (by rfl)]
          unfold lineOf; rw [if_neg h1, if_pos hM]
        rw [e]; exact lnM1 w n t hM k0 k1 l2 l3 hnw l5 hn a b c (by rw [d, ht0])
      · have e : lineS w n t = [] := by
          unfold lineS; rw [hasB_M hM, hk, if_neg (by simpa using ht0)]
        rw [e]; exact lnM2 w n t hM k0 k1 l2 l3 hnw l5 hn a b c (by rw [d]; exact fun e => ht0 e.symm)
    | false =>
      rw [hk, if_neg (by simp)] at hr
      have e : lineS w n t = [] := by unfold lineS; rw [hasB_M hM, hk, if_neg (by simp)]
      rw [e]; exact lnM3 w n t hM k0 k1 l2 l3 hnw l5 hn (by unfold refOk; rw [hr]; rfl)
  · have hW : w = 2 ∨ (5 ≤ w ∧ w ≤ 8) := by omega
    obtain ⟨a, b, c, d⟩ := ref_of (refAll_W w hW)
    have hn : hasNl (nameW w) = false := (hasNl_no _).2 (nameW_noNl w)
    by_cases hn0 : n = 0
    · by_cases ht0 : t = []
      · have e : lineS w n t = nameW w := by
          unfold lineS; rw [hasB_W hW, hn0, ht0, if_pos (by rfl)]
          unfold lineOf; rw [if_neg h1, if_neg hM]
        rw [e]; exact lnW1 w n t hW hnw hn a b (by rw [c, hn0]) (by rw [d, ht0])
      · have e : lineS w n t = [] := by
          unfold lineS; rw [hasB_W hW, if_neg (by simp [ht0])]
        rw [e]; exact lnW3 w n t hW hnw hn a b (by rw [c, hn0]) (by rw [d]; exact fun e => ht0 e.symm)
    · have e : lineS w n t = [] := by
        unfold lineS; rw [hasB_W hW, if_neg (by simp [hn0])]
      rw [e]; exact lnW2 w n t hW hnw hn a b (by rw [c]; exact fun e => hn0 e.symm)
def hasR_T : Prop := ∀ (w n : Int) (t : Str), Ans X0 FHs [.d (keyD w n t)] (.d (.bool (hasB w n t)))
theorem hasR : hasR_T := fun w n t => by
  by_cases h0 : w < 1 ∨ 10 < w
  · rw [hasB_0 h0]; exact hs0 w n t h0
  by_cases h1 : w = 1
  · subst h1
    rw [hasB_T]
    by_cases hn : n = 0
    · rw [decide_eq_true hn]; exact hs3a 1 n t rfl hn
    · rw [decide_eq_false hn]; exact hs2a 1 n t rfl hn
  cases ht : (t == []) with
  | false =>
    have e : hasB w n t = false := by unfold hasB; rw [ht, decide_eq_false h1]; simp
    rw [e]; exact hs1 w n t (by omega) (by omega) ht
  | true =>
    by_cases hM : w = 3 ∨ w = 4 ∨ w = 9 ∨ w = 10
    · rw [hasB_M hM, ht, Bool.true_and]
      unfold numK
      by_cases h34 : w = 3 ∨ w = 4
      · rw [if_pos h34]
        by_cases a : n < 1
        · rw [decide_eq_false (by omega)]; exact hs4a w n t h34 ht a
        · by_cases b : 10 < n
          · rw [decide_eq_false (by omega)]; exact hs4b w n t h34 ht b
          · rw [decide_eq_true (by omega)]; exact hs4c w n t h34 ht (by omega) (by omega)
      · rw [if_neg h34]
        by_cases a : n < 0
        · rw [decide_eq_false (by omega)]; exact hs5a w n t (by omega) ht a
        · by_cases b : 999999999999 < n
          · rw [decide_eq_false (by omega)]; exact hs5b w n t (by omega) ht b
          · rw [decide_eq_true (by omega)]; exact hs5c w n t (by omega) ht (by omega) (by omega)
    · have hW : w = 2 ∨ (5 ≤ w ∧ w ≤ 8) := by omega
      rw [hasB_W hW, ht, Bool.true_and]
      by_cases hn : n = 0
      · rw [decide_eq_true hn]; exact hs3b w n t hW ht hn
      · rw [decide_eq_false hn]; exact hs2b w n t hW ht hn
/- the reference's Line -/
theorem escC (w n : Int) (t : Str) (ht : t.length ≤ 1000) : ∀ f i (s : Str) m, f + i = t.length → s.length ≤ 7 + 2 * i → f < m → LpC X0 0 (ntOf X0 FRL) (lpKeep X0 FRL 0) (lpBody X0 FRL 0) 1 m (stE w n t s i) (.exit 0, stEx w n t (s ++ tell (t.drop i)) t.length) := by
  intro f
  induction f with
  | zero =>
    intro i s m hi hs hm
    obtain ⟨m, rfl⟩ : ∃ x, m = x + 1 := ⟨m - 1, by omega⟩
    obtain rfl : i = t.length := by omega
    rw [List.drop_length, tell_nil, List.append_nil]
    exact LpC.last (esc4 w n t s _ (Nat.le_refl _)) (by simp)
  | succ f ih =>
    intro i s m hi hs hm
    obtain ⟨m, rfl⟩ : ∃ x, m = x + 1 := ⟨m - 1, by omega⟩
    have hlt : i < t.length := by omega
    have hd : t.drop i = t[i] :: t.drop (i + 1) := List.drop_eq_getElem_cons hlt
    have hb : byteAt t i = (t[i].toNat : Int) := byteAt_get t i hlt
    rw [hd, tell_cons]
    unfold tell1
    by_cases h92 : t[i] = 92
    · rw [if_pos h92, ← List.append_assoc]
      exact LpC.next (esc2 w n t s i ht (by omega) hlt (by rw [hb, h92]; rfl)) (ih (i + 1) _ m (by omega) (by simp; omega) (by omega))
    · rw [if_neg h92]
      have n92 : byteAt t i ≠ 92 := by rw [hb]; intro e; exact h92 (UInt8.toNat_inj.1 (by show t[i].toNat = 92; omega))
      by_cases h10 : t[i] = 10
      · rw [if_pos h10, ← List.append_assoc]
        exact LpC.next (esc1 w n t s i ht (by omega) hlt (by rw [hb, h10]; rfl)) (ih (i + 1) _ m (by omega) (by simp; omega) (by omega))
      · rw [if_neg h10, ← List.append_assoc]
        have n10 : byteAt t i ≠ 10 := by rw [hb]; intro e; exact h10 (UInt8.toNat_inj.1 (by show t[i].toNat = 10; omega))
        have e1 : toBs [byteAt t i] = [t[i]] := by rw [hb]; simp
        have := LpC.next (esc3 w n t s i ht (by omega) hlt n10 n92) (ih (i + 1) _ m (by omega) (by simp; omega) (by omega))
        rw [e1] at this
        exact this
def escW (w : Int) (t : Str) : Str := (nameW w ++ [32]) ++ tell t
def escL_T : Prop := ∀ (w n : Int) (t : Str) (ht : t.length ≤ 1000), Lp X0 0 (ntOf X0 FRL) (lpKeep X0 FRL 0) (lpBody X0 FRL 0) 1 FUEL (stE w n t (nameW w ++ [32]) 0) (.exit 0, stEx w n t (escW w t) t.length)
theorem escL : escL_T := fun w n t ht => LpC.start (m := 1152921504606846975) (escC w n t ht t.length 0 (nameW w ++ [32]) _ (by omega) (by have := nameW_len w; simp; omega) (by omega)) (by kernel_rfl)
def rlT_T : Prop := ∀ (w n : Int) (t : Str) (hw : w = 1) (ht : t.length ≤ 1000) (g4 : (nameW w).length ≤ 6), Ans X0 FRL [.d (keyD w n t)] (.d (.str (escW w t)))
def rlM_T : Prop := ∀ (w n : Int) (t : Str) (hw : w = 3 ∨ w = 4 ∨ w = 9 ∨ w = 10) (g4 : (nameW w).length ≤ 6) (g0 : 0 ≤ n) (g1 : n < 100000000000000) (hd : (decW n).length ≤ 100) (g5 : (nameW w ++ [32]).length ≤ 1000000000), Ans X0 FRL [.d (keyD w n t)] (.d (.str ((nameW w ++ [32]) ++ decW n)))
def rlW_T : Prop := ∀ (w n : Int) (t : Str) (hw : w = 2 ∨ (5 ≤ w ∧ w ≤ 8)), Ans X0 FRL [.d (keyD w n t)] (.d (.str (nameW w)))
end Go.Proofs.YtnmabjamkpmkcaaDoor.Keys
/- Keys: paths, printed by a program of mine. -/
set_option maxRecDepth 100000
set_option linter.unusedSimpArgs false
set_option linter.unusedVariables false
namespace Go.Proofs.YtnmabjamkpmkcaaDoor.Keys
open Go Pv G
set_option maxHeartbeats 4000000 in
theorem rlT : rlT_T := by
  intro w n t hw ht g4
  have h0 : (w == (3 : Int)) = false := by (first | assumption | (((try simp only [SA] at *); (try simp (disch := omega) only [SB, reduceCtorEq] at *)) <;> first | omega | assumption | (refine ⟨?_, ?_⟩ <;> assumption) | (refine ⟨?_, ?_, ?_⟩ <;> assumption) | (intros; assumption) | (right; right; assumption) | (right; left; assumption) | (left; assumption)))
  have h1 : (w == (4 : Int)) = false := by (first | assumption | (((try simp only [SA] at *); (try simp (disch := omega) only [SB, reduceCtorEq] at *)) <;> first | omega | assumption | (refine ⟨?_, ?_⟩ <;> assumption) | (refine ⟨?_, ?_, ?_⟩ <;> assumption) | (intros; assumption) | (right; right; assumption) | (right; left; assumption) | (left; assumption)))
  have h2 : (w == (9 : Int)) = false := by (first | assumption | (((try simp only [SA] at *); (try simp (disch := omega) only [SB, reduceCtorEq] at *)) <;> first | omega | assumption | (refine ⟨?_, ?_⟩ <;> assumption) | (refine ⟨?_, ?_, ?_⟩ <;> assumption) | (intros; assumption) | (right; right; assumption) | (right; left; assumption) | (left; assumption)))
  have h3 : (w == (10 : Int)) = false := by (first | assumption | (((try simp only [SA] at *); (try simp (disch := omega) only [SB, reduceCtorEq] at *)) <;> first | omega | assumption | (refine ⟨?_, ?_⟩ <;> assumption) | (refine ⟨?_, ?_, ?_⟩ <;> assumption) | (intros; assumption) | (right; right; assumption) | (right; left; assumption) | (left; assumption)))
  have h4 : (decide (w > (1 : Int))) = false := by (first | assumption | (((try simp only [SA] at *); (try simp (disch := omega) only [SB, reduceCtorEq] at *)) <;> first | omega | assumption | (refine ⟨?_, ?_⟩ <;> assumption) | (refine ⟨?_, ?_, ?_⟩ <;> assumption) | (intros; assumption) | (right; right; assumption) | (right; left; assumption) | (left; assumption)))
  exact pV 12 [(1, .v (V.d (D.str (nameW w)))), (5, bf), (6, bf), (8, bf), (9, bf), (10, bf), (12, bf), (13, bf), (14, bf), (16, bf), (17, bf), (20, bf), (21, .v (V.d (D.str ((nameW w) ++ [(32 : UInt8)])))), (22, .l (Ex.exit (0 : Nat)) (stEx w n t (escW w t) (List.length t)))] (cE (@escL (w) (n) (t) ht) (cP (@strAdd (nameW w) ([(32 : UInt8)]) (by (first | assumption | (((try simp only [SA] at *); (try simp (disch := omega) only [SB, reduceCtorEq] at *)) <;> first | omega | assumption | (refine ⟨?_, ?_⟩ <;> assumption) | (refine ⟨?_, ?_, ?_⟩ <;> assumption) | (intros; assumption) | (right; right; assumption) | (right; left; assumption) | (left; assumption)))) (by (first | assumption | (((try simp only [SA] at *); (try simp (disch := omega) only [SB, reduceCtorEq] at *)) <;> first | omega | assumption | (refine ⟨?_, ?_⟩ <;> assumption) | (refine ⟨?_, ?_, ?_⟩ <;> assumption) | (intros; assumption) | (right; right; assumption) | (right; left; assumption) | (left; assumption))))) (cP h4 (cP h3 (cP h2 (cP h2 (cP h2 (cP h1 (cP h1 (cP h1 (cP h0 (cP h0 (cP h0 (cC (@nm (w) (by (first | assumption | (((try simp only [SA] at *); (try simp (disch := omega) only [SB, reduceCtorEq] at *)) <;> first | omega | assumption | (refine ⟨?_, ?_⟩ <;> assumption) | (refine ⟨?_, ?_, ?_⟩ <;> assumption) | (intros; assumption) | (right; right; assumption) | (right; left; assumption) | (left; assumption)))) (by (first | assumption | (((try simp only [SA] at *); (try simp (disch := omega) only [SB, reduceCtorEq] at *)) <;> first | omega | assumption | (refine ⟨?_, ?_⟩ <;> assumption) | (refine ⟨?_, ?_, ?_⟩ <;> assumption) | (intros; assumption) | (right; right; assumption) | (right; left; assumption) | (left; assumption))))) nilE)))))))))))))) (by kernel_rfl) rfl rfl
set_option maxHeartbeats 4000000 in
theorem rlM : rlM_T := by
  intro w n t hw g4 g0 g1 hd g5
  rcases Bool.eq_false_or_eq_true (w == (3 : Int)) with h0 | h0
  · exact pV 12 [(1, .v (V.d (D.str (nameW w)))), (5, bt), (6, bt), (7, bt), (15, .v (V.d (D.str ((nameW w) ++ [(32 : UInt8)])))), (17, .v (V.d (D.str (decW n)))), (18, .v (V.d (D.str (((nameW w) ++ [(32 : UInt8)]) ++ (decW n)))))] (cP (@strAdd ((nameW w) ++ [(32 : UInt8)]) (decW n) g5 (by (first | assumption | (((try simp only [SA] at *); (try simp (disch := omega) only [SB, reduceCtorEq] at *)) <;> first | omega | assumption | (refine ⟨?_, ?_⟩ <;> assumption) | (refine ⟨?_, ?_, ?_⟩ <;> assumption) | (intros; assumption) | (right; right; assumption) | (right; left; assumption) | (left; assumption))))) (cC (@digits (n) g0 g1) (cP (@strAdd (nameW w) ([(32 : UInt8)]) (by (first | assumption | (((try simp only [SA] at *); (try simp (disch := omega) only [SB, reduceCtorEq] at *)) <;> first | omega | assumption | (refine ⟨?_, ?_⟩ <;> assumption) | (refine ⟨?_, ?_, ?_⟩ <;> assumption) | (intros; assumption) | (right; right; assumption) | (right; left; assumption) | (left; assumption)))) (by (first | assumption | (((try simp only [SA] at *); (try simp (disch := omega) only [SB, reduceCtorEq] at *)) <;> first | omega | assumption | (refine ⟨?_, ?_⟩ <;> assumption) | (refine ⟨?_, ?_, ?_⟩ <;> assumption) | (intros; assumption) | (right; right; assumption) | (right; left; assumption) | (left; assumption))))) (cP h0 (cP h0 (cP h0 (cC (@nm (w) (by (first | assumption | (((try simp only [SA] at *); (try simp (disch := omega) only [SB, reduceCtorEq] at *)) <;> first | omega | assumption | (refine ⟨?_, ?_⟩ <;> assumption) | (refine ⟨?_, ?_, ?_⟩ <;> assumption) | (intros; assumption) | (right; right; assumption) | (right; left; assumption) | (left; assumption)))) (by (first | assumption | (((try simp only [SA] at *); (try simp (disch := omega) only [SB, reduceCtorEq] at *)) <;> first | omega | assumption | (refine ⟨?_, ?_⟩ <;> assumption) | (refine ⟨?_, ?_, ?_⟩ <;> assumption) | (intros; assumption) | (right; right; assumption) | (right; left; assumption) | (left; assumption))))) nilE))))))) (by kernel_rfl) rfl rfl
  · rcases Bool.eq_false_or_eq_true (w == (4 : Int)) with h1 | h1
    · exact pV 12 [(1, .v (V.d (D.str (nameW w)))), (5, bf), (6, bf), (8, bf), (9, bt), (10, bt), (11, bt), (16, .v (V.d (D.str ((nameW w) ++ [(32 : UInt8)])))), (18, .v (V.d (D.str (decW n)))), (19, .v (V.d (D.str (((nameW w) ++ [(32 : UInt8)]) ++ (decW n)))))] (cP (@strAdd ((nameW w) ++ [(32 : UInt8)]) (decW n) g5 (by (first | assumption | (((try simp only [SA] at *); (try simp (disch := omega) only [SB, reduceCtorEq] at *)) <;> first | omega | assumption | (refine ⟨?_, ?_⟩ <;> assumption) | (refine ⟨?_, ?_, ?_⟩ <;> assumption) | (intros; assumption) | (right; right; assumption) | (right; left; assumption) | (left; assumption))))) (cC (@digits (n) g0 g1) (cP (@strAdd (nameW w) ([(32 : UInt8)]) (by (first | assumption | (((try simp only [SA] at *); (try simp (disch := omega) only [SB, reduceCtorEq] at *)) <;> first | omega | assumption | (refine ⟨?_, ?_⟩ <;> assumption) | (refine ⟨?_, ?_, ?_⟩ <;> assumption) | (intros; assumption) | (right; right; assumption) | (right; left; assumption) | (left; assumption)))) (by (first | assumption | (((try simp only [SA] at *); (try simp (disch := omega) only [SB, reduceCtorEq] at *)) <;> first | omega | assumption | (refine ⟨?_, ?_⟩ <;> assumption) | (refine ⟨?_, ?_, ?_⟩ <;> assumption) | (intros; assumption) | (right; right; assumption) | (right; left; assumption) | (left; assumption))))) (cP h1 (cP h1 (cP h1 (cP h0 (cP h0 (cP h0 (cC (@nm (w) (by (first | assumption | (((try simp only [SA] at *); (try simp (disch := omega) only [SB, reduceCtorEq] at *)) <;> first | omega | assumption | (refine ⟨?_, ?_⟩ <;> assumption) | (refine ⟨?_, ?_, ?_⟩ <;> assumption) | (intros; assumption) | (right; right; assumption) | (right; left; assumption) | (left; assumption)))) (by (first | assumption | (((try simp only [SA] at *); (try simp (disch := omega) only [SB, reduceCtorEq] at *)) <;> first | omega | assumption | (refine ⟨?_, ?_⟩ <;> assumption) | (refine ⟨?_, ?_, ?_⟩ <;> assumption) | (intros; assumption) | (right; right; assumption) | (right; left; assumption) | (left; assumption))))) nilE)))))))))) (by kernel_rfl) rfl rfl
    · rcases Bool.eq_false_or_eq_true (w == (9 : Int)) with h2 | h2
      · exact pV 12 [(1, .v (V.d (D.str (nameW w)))), (5, bf), (6, bf), (8, bf), (9, bf), (10, bf), (12, bf), (13, bt), (14, bt), (15, bt), (17, .v (V.d (D.str ((nameW w) ++ [(32 : UInt8)])))), (19, .v (V.d (D.str (decW n)))), (20, .v (V.d (D.str (((nameW w) ++ [(32 : UInt8)]) ++ (decW n)))))] (cP (@strAdd ((nameW w) ++ [(32 : UInt8)]) (decW n) g5 (by (first | assumption | (((try simp only [SA] at *); (try simp (disch := omega) only [SB, reduceCtorEq] at *)) <;> first | omega | assumption | (refine ⟨?_, ?_⟩ <;> assumption) | (refine ⟨?_, ?_, ?_⟩ <;> assumption) | (intros; assumption) | (right; right; assumption) | (right; left; assumption) | (left; assumption))))) (cC (@digits (n) g0 g1) (cP (@strAdd (nameW w) ([(32 : UInt8)]) (by (first | assumption | (((try simp only [SA] at *); (try simp (disch := omega) only [SB, reduceCtorEq] at *)) <;> first | omega | assumption | (refine ⟨?_, ?_⟩ <;> assumption) | (refine ⟨?_, ?_, ?_⟩ <;> assumption) | (intros; assumption) | (right; right; assumption) | (right; left; assumption) | (left; assumption)))) (by (first | assumption | (((try simp only [SA] at *); (try simp (disch := omega) only [SB, reduceCtorEq] at *)) <;> first | omega | assumption | (refine ⟨?_, ?_⟩ <;> assumption) | (refine ⟨?_, ?_, ?_⟩ <;> assumption) | (intros; assumption) | (right; right; assumption) | (right; left; assumption) | (left; assumption))))) (cP h2 (cP h2 (cP h2 (cP h1 (cP h1 (cP h1 (cP h0 (cP h0 (cP h0 (cC (@nm (w) (by (first | assumption | (((try simp only [SA] at *); (try simp (disch := omega) only [SB, reduceCtorEq] at *)) <;> first | omega | assumption | (refine ⟨?_, ?_⟩ <;> assumption) | (refine ⟨?_, ?_, ?_⟩ <;> assumption) | (intros; assumption) | (right; right; assumption) | (right; left; assumption) | (left; assumption)))) (by (first | assumption | (((try simp only [SA] at *); (try simp (disch := omega) only [SB, reduceCtorEq] at *)) <;> first | omega | assumption | (refine ⟨?_, ?_⟩ <;> assumption) | (refine ⟨?_, ?_, ?_⟩ <;> assumption) | (intros; assumption) | (right; right; assumption) | (right; left; assumption) | (left; assumption))))) nilE))))))))))))) (by kernel_rfl) rfl rfl
      · have h3 : (w == (10 : Int)) = true := by (first | assumption | (((try simp only [SA] at *); (try simp (disch := omega) only [SB, reduceCtorEq] at *)) <;> first | omega | assumption | (refine ⟨?_, ?_⟩ <;> assumption) | (refine ⟨?_, ?_, ?_⟩ <;> assumption) | (intros; assumption) | (right; right; assumption) | (right; left; assumption) | (left; assumption)))
        exact pV 12 [(1, .v (V.d (D.str (nameW w)))), (5, bf), (6, bf), (8, bf), (9, bf), (10, bf), (12, bf), (13, bf), (14, bf), (16, bf), (17, bt), (18, .v (V.d (D.str ((nameW w) ++ [(32 : UInt8)])))), (20, .v (V.d (D.str (decW n)))), (21, .v (V.d (D.str (((nameW w) ++ [(32 : UInt8)]) ++ (decW n)))))] (cP (@strAdd ((nameW w) ++ [(32 : UInt8)]) (decW n) g5 (by (first | assumption | (((try simp only [SA] at *); (try simp (disch := omega) only [SB, reduceCtorEq] at *)) <;> first | omega | assumption | (refine ⟨?_, ?_⟩ <;> assumption) | (refine ⟨?_, ?_, ?_⟩ <;> assumption) | (intros; assumption) | (right; right; assumption) | (right; left; assumption) | (left; assumption))))) (cC (@digits (n) g0 g1) (cP (@strAdd (nameW w) ([(32 : UInt8)]) (by (first | assumption | (((try simp only [SA] at *); (try simp (disch := omega) only [SB, reduceCtorEq] at *)) <;> first | omega | assumption | (refine ⟨?_, ?_⟩ <;> assumption) | (refine ⟨?_, ?_, ?_⟩ <;> assumption) | (intros; assumption) | (right; right; assumption) | (right; left; assumption) | (left; assumption)))) (by (first | assumption | (((try simp only [SA] at *); (try simp (disch := omega) only [SB, reduceCtorEq] at *)) <;> first | omega | assumption | (refine ⟨?_, ?_⟩ <;> assumption) | (refine ⟨?_, ?_, ?_⟩ <;> assumption) | (intros; assumption) | (right; right; assumption) | (right; left; assumption) | (left; assumption))))) (cP h3 (cP h2 (cP h2 (cP h2 (cP h1 (cP h1 (cP h1 (cP h0 (cP h0 (cP h0 (cC (@nm (w) (by (first | assumption | (((try simp only [SA] at *); (try simp (disch := omega) only [SB, reduceCtorEq] at *)) <;> first | omega | assumption | (refine ⟨?_, ?_⟩ <;> assumption) | (refine ⟨?_, ?_, ?_⟩ <;> assumption) | (intros; assumption) | (right; right; assumption) | (right; left; assumption) | (left; assumption)))) (by (first | assumption | (((try simp only [SA] at *); (try simp (disch := omega) only [SB, reduceCtorEq] at *)) <;> first | omega | assumption | (refine ⟨?_, ?_⟩ <;> assumption) | (refine ⟨?_, ?_, ?_⟩ <;> assumption) | (intros; assumption) | (right; right; assumption) | (right; left; assumption) | (left; assumption))))) nilE)))))))))))))) (by kernel_rfl) rfl rfl
set_option maxHeartbeats 4000000 in
theorem rlW : rlW_T := by
  intro w n t hw
  have h0 : (w == (3 : Int)) = false := by (first | assumption | (((try simp only [SA] at *); (try simp (disch := omega) only [SB, reduceCtorEq] at *)) <;> first | omega | assumption | (refine ⟨?_, ?_⟩ <;> assumption) | (refine ⟨?_, ?_, ?_⟩ <;> assumption) | (intros; assumption) | (right; right; assumption) | (right; left; assumption) | (left; assumption)))
  have h1 : (w == (4 : Int)) = false := by (first | assumption | (((try simp only [SA] at *); (try simp (disch := omega) only [SB, reduceCtorEq] at *)) <;> first | omega | assumption | (refine ⟨?_, ?_⟩ <;> assumption) | (refine ⟨?_, ?_, ?_⟩ <;> assumption) | (intros; assumption) | (right; right; assumption) | (right; left; assumption) | (left; assumption)))
  have h2 : (w == (9 : Int)) = false := by (first | assumption | (((try simp only [SA] at *); (try simp (disch := omega) only [SB, reduceCtorEq] at *)) <;> first | omega | assumption | (refine ⟨?_, ?_⟩ <;> assumption) | (refine ⟨?_, ?_, ?_⟩ <;> assumption) | (intros; assumption) | (right; right; assumption) | (right; left; assumption) | (left; assumption)))
  have h3 : (w == (10 : Int)) = false := by (first | assumption | (((try simp only [SA] at *); (try simp (disch := omega) only [SB, reduceCtorEq] at *)) <;> first | omega | assumption | (refine ⟨?_, ?_⟩ <;> assumption) | (refine ⟨?_, ?_, ?_⟩ <;> assumption) | (intros; assumption) | (right; right; assumption) | (right; left; assumption) | (left; assumption)))
  have h4 : (decide (w > (1 : Int))) = true := by (first | assumption | (((try simp only [SA] at *); (try simp (disch := omega) only [SB, reduceCtorEq] at *)) <;> first | omega | assumption | (refine ⟨?_, ?_⟩ <;> assumption) | (refine ⟨?_, ?_, ?_⟩ <;> assumption) | (intros; assumption) | (right; right; assumption) | (right; left; assumption) | (left; assumption)))
  exact pV 12 [(1, .v (V.d (D.str (nameW w)))), (5, bf), (6, bf), (8, bf), (9, bf), (10, bf), (12, bf), (13, bf), (14, bf), (16, bf), (17, bf), (20, bt)] (cP h4 (cP h3 (cP h2 (cP h2 (cP h2 (cP h1 (cP h1 (cP h1 (cP h0 (cP h0 (cP h0 (cC (@nm (w) (by (first | assumption | (((try simp only [SA] at *); (try simp (disch := omega) only [SB, reduceCtorEq] at *)) <;> first | omega | assumption | (refine ⟨?_, ?_⟩ <;> assumption) | (refine ⟨?_, ?_, ?_⟩ <;> assumption) | (intros; assumption) | (right; right; assumption) | (right; left; assumption) | (left; assumption)))) (by (first | assumption | (((try simp only [SA] at *); (try simp (disch := omega) only [SB, reduceCtorEq] at *)) <;> first | omega | assumption | (refine ⟨?_, ?_⟩ <;> assumption) | (refine ⟨?_, ?_, ?_⟩ <;> assumption) | (intros; assumption) | (right; right; assumption) | (right; left; assumption) | (left; assumption))))) nilE)))))))))))) (by kernel_rfl) rfl rfl
end Go.Proofs.YtnmabjamkpmkcaaDoor.Keys
/- Keys: the reference's Line answered as one; statements of the law KeysLine. -/
set_option linter.unusedVariables false
set_option linter.unusedSimpArgs false
namespace Go.Proofs.YtnmabjamkpmkcaaDoor.Keys
open Go Pv G
def refLineR_T : Prop := ∀ (w n : Int) (t : Str) (ht : t.length ≤ 1000) (h : hasB w n t = true), Ans X0 FRL [.d (keyD w n t)] (.d (.str (lineS w n t)))
theorem refLineR : refLineR_T := fun w n t ht h => by
  have hnw := nameW_len w
  have e0 : lineS w n t = lineOf w n t := by unfold lineS; rw [if_pos h]
  rw [e0]
  by_cases h0 : w < 1 ∨ 10 < w
  · rw [hasB_0 h0] at h; cases h
  unfold lineOf
  by_cases h1 : w = 1
  · rw [if_pos h1]
    have e : lineT w t = escW w t := by unfold lineT escW; rw [sp_eq]; simp
    rw [e]; exact rlT w n t h1 ht hnw
  rw [if_neg h1]
  by_cases hM : w = 3 ∨ w = 4 ∨ w = 9 ∨ w = 10
  · rw [if_pos hM]
    rw [hasB_M hM] at h
    have hk : 0 ≤ n ∧ n ≤ 999999999999 := by
      unfold numK at h
      simp only [Bool.and_eq_true] at h
      split at h
      · have := of_decide_eq_true h.2; omega
      · exact of_decide_eq_true h.2
    have e : lineM w n = (nameW w ++ [32]) ++ decW n := by unfold lineM; rw [sp_eq, decW_itoa n hk.1 hk.2]; simp
    have hd : (decW n).length ≤ 100 := by rw [decW_itoa n hk.1 hk.2]; have := itoaF_len n (by omega) (by omega); omega
    rw [e]; exact rlM w n t hM hnw hk.1 (by omega) hd (by simp; omega)
  · rw [if_neg hM]
    exact rlW w n t (by omega)
theorem line_facts (w n : Int) (t : Str) (ht : t.length ≤ 1000) (k0 : -9223372036854775808 ≤ n) (k1 : n ≤ 9223372036854775807) (h : hasB w n t = true) :
    (lineS w n t).length ≤ 6000 ∧ hasNl (lineS w n t) = false ∧ refOk (lineS w n t) = true ∧ refW (lineS w n t) = w ∧ refN (lineS w n t) = n ∧ refT (lineS w n t) = t := by
  have hnw := nameW_len w
  have e0 : lineS w n t = lineOf w n t := by unfold lineS; rw [if_pos h]
  rw [e0]
  by_cases h0 : w < 1 ∨ 10 < w
  · rw [hasB_0 h0] at h; cases h
  unfold lineOf
  by_cases h1 : w = 1
  · rw [if_pos h1]
    subst h1
    rw [hasB_T] at h
    have hn0 : n = 0 := of_decide_eq_true h
    obtain ⟨a, b, c, d⟩ := ref_of (refAll_T t)
    refine ⟨?_, ?_, a, b, by rw [c, hn0], d⟩
    · unfold lineT; rw [List.length_append, sp_len]; have := tell_len t; omega
    · rw [hasNl_no]; unfold lineT; rw [sp_eq]
      simp only [List.mem_append, List.mem_cons, not_or]
      exact ⟨nameW_noNl 1, by decide, tell_noNl t⟩
  rw [if_neg h1]
  by_cases hM : w = 3 ∨ w = 4 ∨ w = 9 ∨ w = 10
  · rw [if_pos hM]
    rw [hasB_M hM] at h
    simp only [Bool.and_eq_true, beq_iff_eq] at h
    have hr := refAll_M w n hM k1
    rw [if_pos h.2] at hr
    obtain ⟨a, b, c, d⟩ := ref_of hr
    refine ⟨?_, ?_, a, b, c, by rw [d, h.1]⟩
    · unfold lineM; rw [List.length_append, sp_len]; have := itoaF_len n k0 k1; omega
    · rw [hasNl_no]; unfold lineM; rw [sp_eq]
      simp only [List.mem_append, List.mem_cons, not_or]
      exact ⟨nameW_noNl w, by decide, itoaF_noNl n k0 k1⟩
  · rw [if_neg hM]
    have hW : w = 2 ∨ (5 ≤ w ∧ w ≤ 8) := by omega
    rw [hasB_W hW] at h
    simp only [Bool.and_eq_true, beq_iff_eq, decide_eq_true_eq] at h
    obtain ⟨a, b, c, d⟩ := ref_of (refAll_W w hW)
    exact ⟨by omega, (hasNl_no _).2 (nameW_noNl w), a, b, by rw [c, h.2], by rw [d, h.1]⟩
abbrev FKL : Nat := 4
def lawL0_T : Prop := ∀ (w n : Int) (t : Str) (h : 300 < t.length), Ans X0 FKL [.d (keyD w n t)] (.d (.bool true))
def lawLY_T : Prop := ∀ (w n : Int) (t : Str) (ht : t.length ≤ 300) (k0 : -9223372036854775808 ≤ n) (k1 : n ≤ 9223372036854775807) (h : hasB w n t = true) (hl : (lineS w n t).length ≤ 6000) (hn : hasNl (lineS w n t) = false) (ho : refOk (lineS w n t) = true) (e1 : refW (lineS w n t) = w) (e2 : refN (lineS w n t) = n) (e3 : refT (lineS w n t) = t), Ans X0 FKL [.d (keyD w n t)] (.d (.bool true))
def lawLN_T : Prop := ∀ (w n : Int) (t : Str) (ht : t.length ≤ 300) (k0 : -9223372036854775808 ≤ n) (k1 : n ≤ 9223372036854775807) (h : hasB w n t = false) (e : lineS w n t = []), Ans X0 FKL [.d (keyD w n t)] (.d (.bool true))
end Go.Proofs.YtnmabjamkpmkcaaDoor.Keys
/- Pv: a context above another one: its functions answer what is known of them below, and some more are answered by contracts. -/
set_option linter.unusedSimpArgs false
set_option linter.unusedVariables false
namespace Go.Proofs.YtnmabjamkpmkcaaDoor.Pv.G
open Go Pv

theorem Ans.uniq {X : Ctx} {f : FuncId} {a : List V} {v u : V} (h : Ans X f a v) (k : Ans X f a u) : v = u := by
  obtain ⟨K, h⟩ := h
  obtain ⟨L, k⟩ := k
  have h1 := h (K + L) (by omega)
  have h2 := k (K + L) (by omega)
  exact Option.some.inj (h1.symm.trans h2)

open Classical in
/-- What is known below. -/
noncomputable def upF (X : Ctx) (f : FuncId) (ds : List D) : Option V :=
  if h : ∃ y : V, y.pure = true ∧ Ans X f (ds.map V.d) y then some (Classical.choose h) else none

/-- 'off': functions that are run. -/
noncomputable def up (X : Ctx) (off : FuncId → Bool) (extra : FuncId → Option (List D → Option V)) : Ctx :=
  ⟨X.P, X.glob, fun f => if off f = true then none else match extra f with
    | some F => some F
    | none => some (upF X f), fun _ => false, X.ints, fun _ => none⟩

theorem toDs_map (ds : List D) : toDs (ds.map V.d) = some ds := by
  induction ds with
  | nil => rfl
  | cons d ds ih => simp only [List.map_cons, toDs, V.toD, ih]

theorem pure_map (ds : List D) : (ds.map V.d).all V.pure = true := by
  induction ds with
  | nil => rfl
  | cons d ds ih => simp only [List.map_cons, List.all_cons, ih]; rfl

theorem ansOfExt {X : Ctx} {f : FuncId} {F : List D → Option V} {ds : List D} {v : V} (hF : X.ext f = some F) (hv : F ds = some v) (hp : v.pure = true) : Ans X f (ds.map V.d) v :=
  ⟨1, fun k hk => by
    obtain ⟨k, rfl⟩ : ∃ x, k = x + 1 := ⟨k - 1, by omega⟩
    show (match runP X (callN X FUEL k) FUEL f (ds.map V.d) with | some (v, _) => if v.pure then some v else none | none => none) = some v
    unfold runP
    rw [hF]
    simp only [toDs_map, hv, Option.map_some, hp, if_true]⟩

theorem ansUp {X : Ctx} {off : FuncId → Bool} {extra : FuncId → Option (List D → Option V)} {f : FuncId} {ds : List D} {v : V} (ho : off f = false) (he : extra f = none) (hv : v.pure = true) (h : Ans X f (ds.map V.d) v) : Ans (up X off extra) f (ds.map V.d) v := by
  refine ansOfExt (F := upF X f) ?_ ?_ hv
  · simp only [up, ho, he, Bool.false_eq_true, if_false]
  · unfold upF
    have hx : ∃ y : V, y.pure = true ∧ Ans X f (ds.map V.d) y := ⟨v, hv, h⟩
    rw [dif_pos hx, (Classical.choose_spec hx).2.uniq h]

theorem RepV.ctx {X Y : Ctx} (hP : X.P = Y.P) {w : World} {g : Gh} {p : Own} {v : Value} {x : V} (r : RepV X w g p v x) : RepV Y w g p v x := by
  induction r with
  | d p v x r => exact .d p v x r
  | tail p E cells n b c cur z vals hz hz0 hb hn hm hcur hcl he ho hp hv hr => exact .tail p E cells n b c cur z vals (by rw [← hP]; exact hz) hz0 hb hn hm hcur hcl he ho hp hv hr
  | tail0 p E => exact .tail0 p E
  | full p b o cells n r => exact .full p b o cells n r
  | obj p id off b r => exact .obj p id off b r
  | osl p id off n c b r hn => exact .osl p id off n c b r hn
  | clo p fn va vb a b hla hlb _ _ iha ihb => exact .clo p fn va vb a b hla hlb iha ihb
  | agg p vals vs hl _ ih => exact .agg p vals vs hl ih
  | tup p vals vs hl _ ih => exact .tup p vals vs hl ih
  | mp p id b r => exact .mp p id b r
  | it p id b r => exact .it p id b r

theorem iaddrV_ctx {X Y : Ctx} (h : X.P = Y.P) (t : TypeId) (x i : V) : iaddrV X t x i = iaddrV Y t x i := by
  unfold iaddrV indexAddrOp
  rw [h]
theorem loadV_ctx {X Y : Ctx} (h : X.P = Y.P) (hp : List Ob) (t : TypeId) (p : V) : loadV X hp t p = loadV Y hp t p := by
  unfold loadV loadOp
  rw [h]
theorem binV_ctx {X Y : Ctx} (h : X.P = Y.P) (op : BinOp) (t : TypeId) (x y : V) : binV X op t x y = binV Y op t x y := by
  unfold binV valOp
  simp only
  unfold pureOp
  rw [h]

theorem ptv_of {X : Ctx} {w : World} {g : Gh} {vals : List Value} {ds : List D} (h : PtD w g.e vals ds) : PtV X w g vals (ds.map V.d) := by
  refine ⟨by simp [h.1], fun j v x h1 h2 => ?_⟩
  rw [List.getElem?_map] at h2
  cases hd : ds[j]? with
  | none => rw [hd] at h2; cases h2
  | some d => rw [hd] at h2; cases h2; exact .d _ _ _ (h.2 j v d h1 hd)

/-- What is asked of one such function. -/
def ExtOk1 (X : Ctx) (f : FuncId) (F : List D → Option V) : Prop :=
  ∀ ds y, F ds = some y → ∀ (w : World) (g : Gh) (vargs : List Value), Fresh g w → GlobOk X w g → PtD w g.e vargs ds → ∀ p, IsPos p →
    ∃ fn, X.P.funcs[f]? = some fn ∧ (fn.name == "runtime.NumGoroutine") = false ∧ ((∃ c, fn.body = some c) ∧ Calls X.P f ⟨vargs⟩ w fun E w' => ∃ v g', E = .returned v ∧ Keep g w g' w' ∧ RepV X w' g' p v y)

theorem extOk_up {X : Ctx} {off : FuncId → Bool} {extra : FuncId → Option (List D → Option V)} (hfz : ∀ t, X.frz t = false) (hx : ExtOk X) (hxp : ExtPure X) (hxi : ExtIOk X) (he : ∀ f F, extra f = some F → ExtOk1 X f F) : ExtOk (up X off extra) := by
  intro f F hF ds y hy w g vargs hf hg hp p hpos
  have hg' : GlobOk X w g := hg
  simp only [up] at hF
  split at hF
  · cases hF
  · split at hF
    · rename_i F' hF'
      cases hF
      obtain ⟨fn, k1, k2, k3, k4⟩ := he f _ hF' ds y hy w g vargs hf hg' hp p hpos
      exact ⟨fn, k1, k2, k3, k4.mono fun E w' ⟨v, g', a, b, c⟩ => ⟨v, g', a, b, RepV.ctx (X := X) (Y := up X off extra) rfl c⟩⟩
    · cases hF
      unfold upF at hy
      split at hy
      · rename_i h
        cases hy
        obtain ⟨h1, K, h2⟩ := Classical.choose_spec h
        obtain ⟨fn, k1, k2, k3, k4⟩ := (callN_ok hfz hx hxp hxi FUEL K).1 f (ds.map V.d) _ (h2 K (Nat.le_refl K)) (pure_map ds) w g vargs hf hg' (ptv_of hp) p hpos
        exact ⟨fn, k1, k2, k3, k4.mono fun E w' ⟨v, g', a, b, c⟩ => ⟨v, g', a, b, RepV.ctx (X := X) (Y := up X off extra) rfl c⟩⟩
      · cases hy

theorem extPure_up {X : Ctx} {off : FuncId → Bool} {extra : FuncId → Option (List D → Option V)} (he : ∀ f F, extra f = some F → ∀ ds y, F ds = some y → y.pure = true) : ExtPure (up X off extra) := by
  intro f F hF ds y hy
  simp only [up] at hF
  split at hF
  · cases hF
  · split at hF
    · rename_i F' hF'
      cases hF
      exact he f _ hF' ds y hy
    · cases hF
      unfold upF at hy
      split at hy
      · rename_i h
        cases hy
        exact (Classical.choose_spec h).1
      · cases hy

theorem extIOk_up {X : Ctx} {off : FuncId → Bool} {extra : FuncId → Option (List D → Option V)} : ExtIOk (up X off extra) := fun f F h => by cases h
end Go.Proofs.YtnmabjamkpmkcaaDoor.Pv.G
/- Keys: the context in which keys.Record answers; rules there; the loop of the law KeysBack. -/
set_option linter.unusedVariables false
set_option linter.unusedSimpArgs false
namespace Go.Proofs.YtnmabjamkpmkcaaDoor.Keys
open Go Pv G
abbrev FRec : Nat := 18
abbrev FKB : Nat := 6
abbrev FRf : Nat := 10
abbrev FTy : Nat := 7
def refK0_T : Prop := ∀ (w n : Int) (t : Str), Ans X0 FRf [.d (keyD w n t)] (.d (keyD w n t))
def lineK (k : Key) : Str := lineS k.1 k.2.1 k.2.2.1
def hasK (k : Key) : Bool := hasB k.1 k.2.1 k.2.2.1
def recS (l : List Key) : Str := if l.all hasK = true then l.flatMap (fun k => lineK k ++ [10]) else []
def kW (l : List Key) (i : Nat) : Int := (keyT.nth l i).1
def kN (l : List Key) (i : Nat) : Int := (keyT.nth l i).2.1
def kT (l : List Key) (i : Nat) : Str := (keyT.nth l i).2.2.1
def okTs (l : List Key) : Prop := ∀ i, i < l.length → (kT l i).length ≤ 100 ∧ -9223372036854775808 ≤ kN l i ∧ kN l i ≤ 9223372036854775807
open Classical in
noncomputable def extRec (l : List Key) (ds : List D) : Option V := if ds = [keyT.slD l] ∧ okTs l ∧ l.length ≤ 60 then some (.d (.str (recS l))) else none
def offKB (f : FuncId) : Bool := f == FKB
noncomputable def exKB (l : List Key) (f : FuncId) : Option (List D → Option V) := if f = FRec then some (extRec l) else none
noncomputable def X1 (l : List Key) : Ctx := up X0 offKB (exKB l)
/- rules -/
def typesU_T : Prop := ∀ (l : List Key), Ans (X1 l) FTy [] (.d (.bool true))
theorem typesU : typesU_T := fun l => ansUp (ds := []) rfl rfl rfl types
def hasU_T : Prop := ∀ (l : List Key) (w n : Int) (t : Str), Ans (X1 l) FHs [.d (keyD w n t)] (.d (.bool (hasB w n t)))
theorem hasU : hasU_T := fun l w n t => ansUp (ds := [keyD w n t]) rfl rfl rfl (hasR w n t)
def rlineU_T : Prop := ∀ (l : List Key) (w n : Int) (t : Str) (ht : t.length ≤ 1000) (h : hasB w n t = true), Ans (X1 l) FRL [.d (keyD w n t)] (.d (.str (lineS w n t)))
theorem rlineU : rlineU_T := fun l w n t ht h => ansUp (ds := [keyD w n t]) rfl rfl rfl (refLineR w n t ht h)
def recU_T : Prop := ∀ (l : List Key) (hl : l.length ≤ 60) (ht : okTs l), Ans (X1 l) FRec [.d (keyT.slD l)] (.d (.str (recS l)))
theorem recU : recU_T := fun l hl ht => ansOfExt (F := extRec l) (ds := [keyT.slD l]) rfl (by unfold extRec; rw [if_pos ⟨rfl, ht, hl⟩]) rfl
def macU_T : Prop := ∀ (l : List Key) (s : Str) (hs : s.length ≤ 1000000) (h : goodM s = true), Ans (X1 l) FMc [.d (.str s)] (.d (.tup [keyT.slD (rmR s), .int .i64 0]))
theorem macU : macU_T := fun l s hs h => ansUp (ds := [.str s]) rfl rfl rfl (mYes s hs h)
def refsU_T : Prop := ∀ (l a : List Key) (ha : a.length ≤ 1000001), Ans (X1 l) FRF [.d (keyT.slD a)] (.d (keyT.slD a))
theorem refsU : refsU_T := fun l a ha => ansUp (ds := [keyT.slD a]) rfl rfl rfl (refs a ha)
def sameU_T : Prop := ∀ (l a : List Key) (ha : a.length ≤ 1000001), Ans (X1 l) FSm [.d (keyT.slD a), .d (keyT.slD a)] (.d (.bool true))
theorem sameU : sameU_T := fun l a ha => ansUp (ds := [keyT.slD a, keyT.slD a]) rfl rfl rfl (same a ha)
def iaddrKeyU_T : Prop := ∀ (m l : List Key) (i : Int) (h0 : 0 ≤ i) (hi : i < l.length), iaddrV (X1 m) 36 (.d (keyT.slD l)) (.d (.int .i64 i)) = some (.d (.ref (l.flatMap keyT.enc) (i.toNat * 3)))
theorem iaddrKeyU : iaddrKeyU_T := fun m l i h0 hi => (iaddrV_ctx (X := X1 m) (Y := X0) rfl _ _ _).trans (iaddrKey l i h0 hi)
def loadKeyU_T : Prop := ∀ (m l : List Key) (h : List Ob) (k : Nat) (hk : k < l.length), loadV (X1 m) h 24 (.d (.ref (l.flatMap keyT.enc) (k * 3))) = some (.d (.agg [.int .i64 (kW l k), .int .i64 (kN l k), .str (kT l k)]))
theorem loadKeyU : loadKeyU_T := fun m l h k hk => (loadV_ctx (X := X1 m) (Y := X0) rfl _ _ _).trans (loadKey l h k hk)
def strEqU_T : Prop := ∀ (m : List Key) (a b : Str), binV (X1 m) .eql 9 (.d (.str a)) (.d (.str b)) = some (.d (.bool (a == b)))
theorem strEqU : strEqU_T := fun m a b => (binV_ctx (X := X1 m) (Y := X0) rfl _ _ _ _).trans (strEq a b)
def strAddU_T : Prop := ∀ (m : List Key) (a b : Str) (ha : a.length ≤ 1000000000) (hb : b.length ≤ 1000000000), binV (X1 m) .add 9 (.d (.str a)) (.d (.str b)) = some (.d (.str (a ++ b)))
theorem strAddU : strAddU_T := fun m a b ha hb => (binV_ctx (X := X1 m) (Y := X0) rfl _ _ _ _).trans (strAdd a b ha hb)
def refKU_T : Prop := ∀ (l : List Key) (w n : Int) (t : Str), Ans (X1 l) FRf [.d (keyD w n t)] (.d (keyD w n t))
/- the loop -/
abbrev stKB (l : List Key) (want : Str) (all : Bool) (i : Nat) : St := ⟨[(0, .d (keyT.slD l)), (3, .d (.str want)), (4, .d (.bool all)), (14, .d (keyT.slD l)), (15, .d (.int .i64 l.length)), (16, .d (.int .i64 i))], [], []⟩
abbrev stKBx (l : List Key) (want : Str) (all : Bool) (i : Nat) : St := ⟨[(0, .d (keyT.slD l)), (3, .d (.str want)), (4, .d (.bool all)), (14, .d (keyT.slD l)), (15, .d (.int .i64 l.length)), (16, .d (.int .i64 i)), (17, .d (.bool false))], [], []⟩
def kbA_T : Prop := ∀ (l : List Key) (want : Str) (all : Bool) (i : Nat) (hl : l.length ≤ 60) (hi : i < l.length) (ht : 100 < (kT l i).length),
    Rd (X1 l) 0 (ntOf X0 FKB) (lpBody X0 FKB 0) (stKB l want all i) (.ret, ⟨[(2, .d (.bool true))], [.cells [.d (.int .i64 (kW l i)), .d (.int .i64 (kN l i)), .d (.str (kT l i))]], []⟩)
def kbB_T : Prop := ∀ (l : List Key) (want : Str) (i : Nat) (hl : l.length ≤ 60) (hi : i < l.length) (ht : (kT l i).length ≤ 100) (hu : (kT l i).length ≤ 1000) (hw : want.length ≤ 1000000000) (hb : hasB (kW l i) (kN l i) (kT l i) = true) (hs : (lineS (kW l i) (kN l i) (kT l i)).length ≤ 1000000000) (hv : (want ++ lineS (kW l i) (kN l i) (kT l i)).length ≤ 1000000000),
    RdC (X1 l) 0 (ntOf X0 FKB) (lpKeep X0 FKB 0) (lpBody X0 FKB 0) 0 (stKB l want true i) (stKB l ((want ++ lineS (kW l i) (kN l i) (kT l i)) ++ [10]) true (i + 1))
def kbC_T : Prop := ∀ (l : List Key) (want : Str) (i : Nat) (hl : l.length ≤ 60) (hi : i < l.length) (ht : (kT l i).length ≤ 100) (hb : hasB (kW l i) (kN l i) (kT l i) = false),
    RdC (X1 l) 0 (ntOf X0 FKB) (lpKeep X0 FKB 0) (lpBody X0 FKB 0) 0 (stKB l want true i) (stKB l want false (i + 1))
def kbD_T : Prop := ∀ (l : List Key) (want : Str) (i : Nat) (hl : l.length ≤ 60) (hi : i < l.length) (ht : (kT l i).length ≤ 100),
    RdC (X1 l) 0 (ntOf X0 FKB) (lpKeep X0 FKB 0) (lpBody X0 FKB 0) 0 (stKB l want false i) (stKB l want false (i + 1))
def kbE_T : Prop := ∀ (l : List Key) (want : Str) (all : Bool), Rd (X1 l) 0 (ntOf X0 FKB) (lpBody X0 FKB 0) (stKB l want all l.length) (.exit 0, stKBx l want all l.length)
end Go.Proofs.YtnmabjamkpmkcaaDoor.Keys
/- Keys: paths, printed by a program of mine. -/
set_option maxRecDepth 100000
set_option linter.unusedSimpArgs false
set_option linter.unusedVariables false
namespace Go.Proofs.YtnmabjamkpmkcaaDoor.Keys
open Go Pv G
set_option maxHeartbeats 4000000 in
theorem refK0 : refK0_T := by
  intro w n t
  exact pV 12 [] nilE (by kernel_rfl) rfl rfl
theorem refKU : refKU_T := fun l w n t => ansUp (ds := [keyD w n t]) rfl rfl rfl (refK0 w n t)
set_option maxHeartbeats 4000000 in
theorem kbA : kbA_T := by
  intro l want all i hl hi ht
  have h0 : (decide ((↑i : Int) < (↑(List.length l) : Int))) = true := by (first | assumption | (((try simp only [SA] at *); (try simp (disch := omega) only [SB, reduceCtorEq] at *)) <;> first | omega | assumption | (refine ⟨?_, ?_⟩ <;> assumption) | (refine ⟨?_, ?_, ?_⟩ <;> assumption) | (intros; assumption) | (right; right; assumption) | (right; left; assumption) | (left; assumption)))
  have h1 : (decide ((↑(ByteArray.size { data := (List.toArray (kT l (Int.toNat (↑i : Int)))) }) : Int) > (100 : Int))) = true := by (first | assumption | (((try simp only [SA] at *); (try simp (disch := omega) only [SB, reduceCtorEq] at *)) <;> first | omega | assumption | (refine ⟨?_, ?_⟩ <;> assumption) | (refine ⟨?_, ?_, ?_⟩ <;> assumption) | (intros; assumption) | (right; right; assumption) | (right; left; assumption) | (left; assumption)))
  exact pR 12 [(1, bt), (2, .v (V.d (D.ref (List.flatMap (Ty.enc keyT) l) ((Int.toNat (↑i : Int)) * (3 : Nat))))), (3, .v (V.d (D.agg [(D.int IntKind.i64 (kW l (Int.toNat (↑i : Int)))), (D.int IntKind.i64 (kN l (Int.toNat (↑i : Int)))), (D.str (kT l (Int.toNat (↑i : Int))))]))), (7, bt), (8, .v (V.d (D.bool true)))] (cC (@typesU (l)) (cP h1 (cP (@loadKeyU (l) (l) ([]) (Int.toNat (↑i : Int)) (by (first | assumption | (((try simp only [SA] at *); (try simp (disch := omega) only [SB, reduceCtorEq] at *)) <;> first | omega | assumption | (refine ⟨?_, ?_⟩ <;> assumption) | (refine ⟨?_, ?_, ?_⟩ <;> assumption) | (intros; assumption) | (right; right; assumption) | (right; left; assumption) | (left; assumption))))) (cP (@iaddrKeyU (l) (l) ((↑i : Int)) (by (first | assumption | (((try simp only [SA] at *); (try simp (disch := omega) only [SB, reduceCtorEq] at *)) <;> first | omega | assumption | (refine ⟨?_, ?_⟩ <;> assumption) | (refine ⟨?_, ?_, ?_⟩ <;> assumption) | (intros; assumption) | (right; right; assumption) | (right; left; assumption) | (left; assumption)))) (by (first | assumption | (((try simp only [SA] at *); (try simp (disch := omega) only [SB, reduceCtorEq] at *)) <;> first | omega | assumption | (refine ⟨?_, ?_⟩ <;> assumption) | (refine ⟨?_, ?_, ?_⟩ <;> assumption) | (intros; assumption) | (right; right; assumption) | (right; left; assumption) | (left; assumption))))) (cP h0 nilE))))) (by kernel_rfl)
set_option maxHeartbeats 4000000 in
theorem kbB : kbB_T := by
  intro l want i hl hi ht hu hw hb hs hv
  have h0 : (decide ((↑i : Int) < (↑(List.length l) : Int))) = true := by (first | assumption | (((try simp only [SA] at *); (try simp (disch := omega) only [SB, reduceCtorEq] at *)) <;> first | omega | assumption | (refine ⟨?_, ?_⟩ <;> assumption) | (refine ⟨?_, ?_, ?_⟩ <;> assumption) | (intros; assumption) | (right; right; assumption) | (right; left; assumption) | (left; assumption)))
  have h1 : (decide ((↑(ByteArray.size { data := (List.toArray (kT l (Int.toNat (↑i : Int)))) }) : Int) > (100 : Int))) = false := by (first | assumption | (((try simp only [SA] at *); (try simp (disch := omega) only [SB, reduceCtorEq] at *)) <;> first | omega | assumption | (refine ⟨?_, ?_⟩ <;> assumption) | (refine ⟨?_, ?_, ?_⟩ <;> assumption) | (intros; assumption) | (right; right; assumption) | (right; left; assumption) | (left; assumption)))
  have h2 : (hasB (kW l (Int.toNat (↑i : Int))) (kN l (Int.toNat (↑i : Int))) (kT l (Int.toNat (↑i : Int)))) = true := by (first | assumption | (((try simp only [SA] at *); (try simp (disch := omega) only [SB, reduceCtorEq] at *)) <;> first | omega | assumption | (refine ⟨?_, ?_⟩ <;> assumption) | (refine ⟨?_, ?_, ?_⟩ <;> assumption) | (intros; assumption) | (right; right; assumption) | (right; left; assumption) | (left; assumption)))
  exact (pC (st' := { s := [((nat_lit 0), (V.d (D.sl (List.flatMap (Ty.enc keyT) l) (List.length l)))), ((nat_lit 3), (V.d (D.str ((want ++ (lineS (kW l (Int.toNat (↑i : Int))) (kN l (Int.toNat (↑i : Int))) (kT l (Int.toNat (↑i : Int))))) ++ [(10 : UInt8)])))), ((nat_lit 4), (V.d (D.bool (hasB (kW l (Int.toNat (↑i : Int))) (kN l (Int.toNat (↑i : Int))) (kT l (Int.toNat (↑i : Int))))))), ((nat_lit 14), (V.d (D.sl (List.flatMap (Ty.enc keyT) l) (List.length l)))), ((nat_lit 15), (V.d (D.int IntKind.i64 (↑(List.length l) : Int)))), ((nat_lit 16), (V.d (D.int IntKind.i64 (IntKind.wrap IntKind.i64 ((↑i : Int) + (1 : Int))))))], h := [], og := [] }) 12 [(1, bt), (2, .v (V.d (D.ref (List.flatMap (Ty.enc keyT) l) ((Int.toNat (↑i : Int)) * (3 : Nat))))), (3, .v (V.d (D.agg [(D.int IntKind.i64 (kW l (Int.toNat (↑i : Int)))), (D.int IntKind.i64 (kN l (Int.toNat (↑i : Int)))), (D.str (kT l (Int.toNat (↑i : Int))))]))), (7, bf), (11, .v (V.d (keyD (kW l (Int.toNat (↑i : Int))) (kN l (Int.toNat (↑i : Int))) (kT l (Int.toNat (↑i : Int)))))), (13, .v (V.d (D.bool (hasB (kW l (Int.toNat (↑i : Int))) (kN l (Int.toNat (↑i : Int))) (kT l (Int.toNat (↑i : Int))))))), (15, bt), (17, .v (V.d (keyD (kW l (Int.toNat (↑i : Int))) (kN l (Int.toNat (↑i : Int))) (kT l (Int.toNat (↑i : Int)))))), (18, .v (V.d (D.str (lineS (kW l (Int.toNat (↑i : Int))) (kN l (Int.toNat (↑i : Int))) (kT l (Int.toNat (↑i : Int))))))), (19, .v (V.d (D.str (want ++ (lineS (kW l (Int.toNat (↑i : Int))) (kN l (Int.toNat (↑i : Int))) (kT l (Int.toNat (↑i : Int)))))))), (20, .v (V.d (D.str ((want ++ (lineS (kW l (Int.toNat (↑i : Int))) (kN l (Int.toNat (↑i : Int))) (kT l (Int.toNat (↑i : Int))))) ++ [(10 : UInt8)]))))] (cP (@strAddU (l) (want ++ (lineS (kW l (Int.toNat (↑i : Int))) (kN l (Int.toNat (↑i : Int))) (kT l (Int.toNat (↑i : Int))))) ([(10 : UInt8)]) (by (first | assumption | (((try simp only [SA] at *); (try simp (disch := omega) only [SB, reduceCtorEq] at *)) <;> first | omega | assumption | (refine ⟨?_, ?_⟩ <;> assumption) | (refine ⟨?_, ?_, ?_⟩ <;> assumption) | (intros; assumption) | (right; right; assumption) | (right; left; assumption) | (left; assumption)))) (by (first | assumption | (((try simp only [SA] at *); (try simp (disch := omega) only [SB, reduceCtorEq] at *)) <;> first | omega | assumption | (refine ⟨?_, ?_⟩ <;> assumption) | (refine ⟨?_, ?_, ?_⟩ <;> assumption) | (intros; assumption) | (right; right; assumption) | (right; left; assumption) | (left; assumption))))) (cP (@strAddU (l) (want) (lineS (kW l (Int.toNat (↑i : Int))) (kN l (Int.toNat (↑i : Int))) (kT l (Int.toNat (↑i : Int)))) hw (by (first | assumption | (((try simp only [SA] at *); (try simp (disch := omega) only [SB, reduceCtorEq] at *)) <;> first | omega | assumption | (refine ⟨?_, ?_⟩ <;> assumption) | (refine ⟨?_, ?_, ?_⟩ <;> assumption) | (intros; assumption) | (right; right; assumption) | (right; left; assumption) | (left; assumption))))) (cC (@rlineU (l) (kW l (Int.toNat (↑i : Int))) (kN l (Int.toNat (↑i : Int))) (kT l (Int.toNat (↑i : Int))) (by (first | assumption | (((try simp only [SA] at *); (try simp (disch := omega) only [SB, reduceCtorEq] at *)) <;> first | omega | assumption | (refine ⟨?_, ?_⟩ <;> assumption) | (refine ⟨?_, ?_, ?_⟩ <;> assumption) | (intros; assumption) | (right; right; assumption) | (right; left; assumption) | (left; assumption)))) h2) (cC (@refKU (l) (kW l (Int.toNat (↑i : Int))) (kN l (Int.toNat (↑i : Int))) (kT l (Int.toNat (↑i : Int)))) (cP h2 (cC (@hasU (l) (kW l (Int.toNat (↑i : Int))) (kN l (Int.toNat (↑i : Int))) (kT l (Int.toNat (↑i : Int)))) (cC (@refKU (l) (kW l (Int.toNat (↑i : Int))) (kN l (Int.toNat (↑i : Int))) (kT l (Int.toNat (↑i : Int)))) (cP h1 (cP (@loadKeyU (l) (l) ([]) (Int.toNat (↑i : Int)) (by (first | assumption | (((try simp only [SA] at *); (try simp (disch := omega) only [SB, reduceCtorEq] at *)) <;> first | omega | assumption | (refine ⟨?_, ?_⟩ <;> assumption) | (refine ⟨?_, ?_, ?_⟩ <;> assumption) | (intros; assumption) | (right; right; assumption) | (right; left; assumption) | (left; assumption))))) (cP (@iaddrKeyU (l) (l) ((↑i : Int)) (by (first | assumption | (((try simp only [SA] at *); (try simp (disch := omega) only [SB, reduceCtorEq] at *)) <;> first | omega | assumption | (refine ⟨?_, ?_⟩ <;> assumption) | (refine ⟨?_, ?_, ?_⟩ <;> assumption) | (intros; assumption) | (right; right; assumption) | (right; left; assumption) | (left; assumption)))) (by (first | assumption | (((try simp only [SA] at *); (try simp (disch := omega) only [SB, reduceCtorEq] at *)) <;> first | omega | assumption | (refine ⟨?_, ?_⟩ <;> assumption) | (refine ⟨?_, ?_, ?_⟩ <;> assumption) | (intros; assumption) | (right; right; assumption) | (right; left; assumption) | (left; assumption))))) (cP h0 nilE))))))))))) (by kernel_rfl)).to (by ((try simp (disch := omega) only [wrapId, sizeOne, sizeStr, List.length_cons, List.length_nil, wrapU8, toNatAdd, toNatSucc] at *) <;> (try simp only [Int.toNat_natCast, beq_iff_eq, beq_eq_false_iff_ne, bne_iff_ne, bne_eq_false_iff_eq, ne_eq, Int.natCast_eq_zero, Int.natCast_inj] at *) <;> first | (simp (disch := omega) [Ty.enc, wrapId, toNatPred, toNatAdd, toNatSucc, sizeOne, sizeStr, List.length_cons, List.length_nil, wrapU8, ltF, ltT, Ty.slD, *]; done) | (subst_vars; simp (disch := omega) [Ty.enc, wrapId, toNatPred, toNatAdd, toNatSucc, sizeOne, sizeStr, List.length_cons, List.length_nil, wrapU8, ltF, ltT, Ty.slD, *]; done)))
set_option maxHeartbeats 4000000 in
theorem kbC : kbC_T := by
  intro l want i hl hi ht hb
  have h0 : (decide ((↑i : Int) < (↑(List.length l) : Int))) = true := by (first | assumption | (((try simp only [SA] at *); (try simp (disch := omega) only [SB, reduceCtorEq] at *)) <;> first | omega | assumption | (refine ⟨?_, ?_⟩ <;> assumption) | (refine ⟨?_, ?_, ?_⟩ <;> assumption) | (intros; assumption) | (right; right; assumption) | (right; left; assumption) | (left; assumption)))
  have h1 : (decide ((↑(ByteArray.size { data := (List.toArray (kT l (Int.toNat (↑i : Int)))) }) : Int) > (100 : Int))) = false := by (first | assumption | (((try simp only [SA] at *); (try simp (disch := omega) only [SB, reduceCtorEq] at *)) <;> first | omega | assumption | (refine ⟨?_, ?_⟩ <;> assumption) | (refine ⟨?_, ?_, ?_⟩ <;> assumption) | (intros; assumption) | (right; right; assumption) | (right; left; assumption) | (left; assumption)))
  have h2 : (hasB (kW l (Int.toNat (↑i : Int))) (kN l (Int.toNat (↑i : Int))) (kT l (Int.toNat (↑i : Int)))) = false := by (first | assumption | (((try simp only [SA] at *); (try simp (disch := omega) only [SB, reduceCtorEq] at *)) <;> first | omega | assumption | (refine ⟨?_, ?_⟩ <;> assumption) | (refine ⟨?_, ?_, ?_⟩ <;> assumption) | (intros; assumption) | (right; right; assumption) | (right; left; assumption) | (left; assumption)))
  exact (pC (st' := { s := [((nat_lit 0), (V.d (D.sl (List.flatMap (Ty.enc keyT) l) (List.length l)))), ((nat_lit 3), (V.d (D.str want))), ((nat_lit 4), (V.d (D.bool (hasB (kW l (Int.toNat (↑i : Int))) (kN l (Int.toNat (↑i : Int))) (kT l (Int.toNat (↑i : Int))))))), ((nat_lit 14), (V.d (D.sl (List.flatMap (Ty.enc keyT) l) (List.length l)))), ((nat_lit 15), (V.d (D.int IntKind.i64 (↑(List.length l) : Int)))), ((nat_lit 16), (V.d (D.int IntKind.i64 (IntKind.wrap IntKind.i64 ((↑i : Int) + (1 : Int))))))], h := [], og := [] }) 12 [(1, bt), (2, .v (V.d (D.ref (List.flatMap (Ty.enc keyT) l) ((Int.toNat (↑i : Int)) * (3 : Nat))))), (3, .v (V.d (D.agg [(D.int IntKind.i64 (kW l (Int.toNat (↑i : Int)))), (D.int IntKind.i64 (kN l (Int.toNat (↑i : Int)))), (D.str (kT l (Int.toNat (↑i : Int))))]))), (7, bf), (11, .v (V.d (keyD (kW l (Int.toNat (↑i : Int))) (kN l (Int.toNat (↑i : Int))) (kT l (Int.toNat (↑i : Int)))))), (13, .v (V.d (D.bool (hasB (kW l (Int.toNat (↑i : Int))) (kN l (Int.toNat (↑i : Int))) (kT l (Int.toNat (↑i : Int))))))), (15, bf)] (cP h2 (cC (@hasU (l) (kW l (Int.toNat (↑i : Int))) (kN l (Int.toNat (↑i : Int))) (kT l (Int.toNat (↑i : Int)))) (cC (@refKU (l) (kW l (Int.toNat (↑i : Int))) (kN l (Int.toNat (↑i : Int))) (kT l (Int.toNat (↑i : Int)))) (cP h1 (cP (@loadKeyU (l) (l) ([]) (Int.toNat (↑i : Int)) (by (first | assumption | (((try simp only [SA] at *); (try simp (disch := omega) only [SB, reduceCtorEq] at *)) <;> first | omega | assumption | (refine ⟨?_, ?_⟩ <;> assumption) | (refine ⟨?_, ?_, ?_⟩ <;> assumption) | (intros; assumption) | (right; right; assumption) | (right; left; assumption) | (left; assumption))))) (cP (@iaddrKeyU (l) (l) ((↑i : Int)) (by (first | assumption | (((try simp only [SA] at *); (try simp (disch := omega) only [SB, reduceCtorEq] at *)) <;> first | omega | assumption | (refine ⟨?_, ?_⟩ <;> assumption) | (refine ⟨?_, ?_, ?_⟩ <;> assumption) | (intros; assumption) | (right; right; assumption) | (right; left; assumption) | (left; assumption)))) (by (first | assumption | (((try simp only [SA] at *); (try simp (disch := omega) only [SB, reduceCtorEq] at *)) <;> first | omega | assumption | (refine ⟨?_, ?_⟩ <;> assumption) | (refine ⟨?_, ?_, ?_⟩ <;> assumption) | (intros; assumption) | (right; right; assumption) | (right; left; assumption) | (left; assumption))))) (cP h0 nilE))))))) (by kernel_rfl)).to (by ((try simp (disch := omega) only [wrapId, sizeOne, sizeStr, List.length_cons, List.length_nil, wrapU8, toNatAdd, toNatSucc] at *) <;> (try simp only [Int.toNat_natCast, beq_iff_eq, beq_eq_false_iff_ne, bne_iff_ne, bne_eq_false_iff_eq, ne_eq, Int.natCast_eq_zero, Int.natCast_inj] at *) <;> first | (simp (disch := omega) [Ty.enc, wrapId, toNatPred, toNatAdd, toNatSucc, sizeOne, sizeStr, List.length_cons, List.length_nil, wrapU8, ltF, ltT, Ty.slD, *]; done) | (subst_vars; simp (disch := omega) [Ty.enc, wrapId, toNatPred, toNatAdd, toNatSucc, sizeOne, sizeStr, List.length_cons, List.length_nil, wrapU8, ltF, ltT, Ty.slD, *]; done)))
set_option maxHeartbeats 4000000 in
theorem kbD : kbD_T := by
  intro l want i hl hi ht
  have h0 : (decide ((↑i : Int) < (↑(List.length l) : Int))) = true := by (first | assumption | (((try simp only [SA] at *); (try simp (disch := omega) only [SB, reduceCtorEq] at *)) <;> first | omega | assumption | (refine ⟨?_, ?_⟩ <;> assumption) | (refine ⟨?_, ?_, ?_⟩ <;> assumption) | (intros; assumption) | (right; right; assumption) | (right; left; assumption) | (left; assumption)))
  have h1 : (decide ((↑(ByteArray.size { data := (List.toArray (kT l (Int.toNat (↑i : Int)))) }) : Int) > (100 : Int))) = false := by (first | assumption | (((try simp only [SA] at *); (try simp (disch := omega) only [SB, reduceCtorEq] at *)) <;> first | omega | assumption | (refine ⟨?_, ?_⟩ <;> assumption) | (refine ⟨?_, ?_, ?_⟩ <;> assumption) | (intros; assumption) | (right; right; assumption) | (right; left; assumption) | (left; assumption)))
  exact (pC (st' := { s := [((nat_lit 0), (V.d (D.sl (List.flatMap (Ty.enc keyT) l) (List.length l)))), ((nat_lit 3), (V.d (D.str want))), ((nat_lit 4), (V.d (D.bool false))), ((nat_lit 14), (V.d (D.sl (List.flatMap (Ty.enc keyT) l) (List.length l)))), ((nat_lit 15), (V.d (D.int IntKind.i64 (↑(List.length l) : Int)))), ((nat_lit 16), (V.d (D.int IntKind.i64 (IntKind.wrap IntKind.i64 ((↑i : Int) + (1 : Int))))))], h := [], og := [] }) 12 [(1, bt), (2, .v (V.d (D.ref (List.flatMap (Ty.enc keyT) l) ((Int.toNat (↑i : Int)) * (3 : Nat))))), (3, .v (V.d (D.agg [(D.int IntKind.i64 (kW l (Int.toNat (↑i : Int)))), (D.int IntKind.i64 (kN l (Int.toNat (↑i : Int)))), (D.str (kT l (Int.toNat (↑i : Int))))]))), (7, bf)] (cP h1 (cP (@loadKeyU (l) (l) ([]) (Int.toNat (↑i : Int)) (by (first | assumption | (((try simp only [SA] at *); (try simp (disch := omega) only [SB, reduceCtorEq] at *)) <;> first | omega | assumption | (refine ⟨?_, ?_⟩ <;> assumption) | (refine ⟨?_, ?_, ?_⟩ <;> assumption) | (intros; assumption) | (right; right; assumption) | (right; left; assumption) | (left; assumption))))) (cP (@iaddrKeyU (l) (l) ((↑i : Int)) (by (first | assumption | (((try simp only [SA] at *); (try simp (disch := omega) only [SB, reduceCtorEq] at *)) <;> first | omega | assumption | (refine ⟨?_, ?_⟩ <;> assumption) | (refine ⟨?_, ?_, ?_⟩ <;> assumption) | (intros; assumption) | (right; right; assumption) | (right; left; assumption) | (left; assumption)))) (by (first | assumption | (((try simp only [SA] at *); (try simp (disch := omega) only [SB, reduceCtorEq] at *)) <;> first | omega | assumption | (refine ⟨?_, ?_⟩ <;> assumption) | (refine ⟨?_, ?_, ?_⟩ <;> assumption) | (intros; assumption) | (right; right; assumption) | (right; left; assumption) | (left; assumption))))) (cP h0 nilE)))) (by kernel_rfl)).to (by ((try simp (disch := omega) only [wrapId, sizeOne, sizeStr, List.length_cons, List.length_nil, wrapU8, toNatAdd, toNatSucc] at *) <;> (try simp only [Int.toNat_natCast, beq_iff_eq, beq_eq_false_iff_ne, bne_iff_ne, bne_eq_false_iff_eq, ne_eq, Int.natCast_eq_zero, Int.natCast_inj] at *) <;> first | (simp (disch := omega) [Ty.enc, wrapId, toNatPred, toNatAdd, toNatSucc, sizeOne, sizeStr, List.length_cons, List.length_nil, wrapU8, ltF, ltT, Ty.slD, *]; done) | (subst_vars; simp (disch := omega) [Ty.enc, wrapId, toNatPred, toNatAdd, toNatSucc, sizeOne, sizeStr, List.length_cons, List.length_nil, wrapU8, ltF, ltT, Ty.slD, *]; done)))
set_option maxHeartbeats 4000000 in
theorem kbE : kbE_T := by
  intro l want all
  have h0 : (decide ((↑(List.length l) : Int) < (↑(List.length l) : Int))) = false := by (first | assumption | (((try simp only [SA] at *); (try simp (disch := omega) only [SB, reduceCtorEq] at *)) <;> first | omega | assumption | (refine ⟨?_, ?_⟩ <;> assumption) | (refine ⟨?_, ?_, ?_⟩ <;> assumption) | (intros; assumption) | (right; right; assumption) | (right; left; assumption) | (left; assumption)))
  exact (pR (r := ((Ex.exit (nat_lit 0)), { s := [((nat_lit 0), (V.d (D.sl (List.flatMap (Ty.enc keyT) l) (List.length l)))), ((nat_lit 3), (V.d (D.str want))), ((nat_lit 4), (V.d (D.bool all))), ((nat_lit 14), (V.d (D.sl (List.flatMap (Ty.enc keyT) l) (List.length l)))), ((nat_lit 15), (V.d (D.int IntKind.i64 (↑(List.length l) : Int)))), ((nat_lit 16), (V.d (D.int IntKind.i64 (↑(List.length l) : Int)))), ((nat_lit 17), (V.d (D.bool (decide ((↑(List.length l) : Int) < (↑(List.length l) : Int))))))], h := [], og := [] })) 12 [(1, bf)] (cP h0 nilE) (by kernel_rfl)).to (by ((try simp (disch := omega) only [wrapId, sizeOne, sizeStr, List.length_cons, List.length_nil, wrapU8, toNatAdd, toNatSucc] at *) <;> (try simp only [Int.toNat_natCast, beq_iff_eq, beq_eq_false_iff_ne, bne_iff_ne, bne_eq_false_iff_eq, ne_eq, Int.natCast_eq_zero, Int.natCast_inj] at *) <;> first | (simp (disch := omega) [Ty.enc, wrapId, toNatPred, toNatAdd, toNatSucc, sizeOne, sizeStr, List.length_cons, List.length_nil, wrapU8, ltF, ltT, Ty.slD, *]; done) | (subst_vars; simp (disch := omega) [Ty.enc, wrapId, toNatPred, toNatAdd, toNatSucc, sizeOne, sizeStr, List.length_cons, List.length_nil, wrapU8, ltF, ltT, Ty.slD, *]; done)))
end Go.Proofs.YtnmabjamkpmkcaaDoor.Keys
/- Keys: the loop of the law KeysBack as one; the law's statements; what was recorded is read as it was. -/
set_option linter.unusedVariables false
set_option linter.unusedSimpArgs false
set_option maxRecDepth 100000
namespace Go.Proofs.YtnmabjamkpmkcaaDoor.Keys
open Go Pv G
/-- What the loop has, from a key on. -/
def kbF (l : List Key) : Nat → Nat → Str → Bool → Str × Bool
  | 0, _, want, all => (want, all)
  | f + 1, i, want, all => if all = true then (if hasB (kW l i) (kN l i) (kT l i) = true then kbF l f (i + 1) ((want ++ lineS (kW l i) (kN l i) (kT l i)) ++ [10]) true else kbF l f (i + 1) want false) else kbF l f (i + 1) want false
theorem kbC_ok (l : List Key) (hl : l.length ≤ 60) (ht : okTs l) : ∀ f i want all m, f + i = l.length → want.length ≤ i * 6001 → f < m → LpC (X1 l) 0 (ntOf X0 FKB) (lpKeep X0 FKB 0) (lpBody X0 FKB 0) 0 m (stKB l want all i) (.exit 0, stKBx l (kbF l f i want all).1 (kbF l f i want all).2 l.length) := by
  intro f
  induction f with
  | zero =>
    intro i want all m hi hw hm
    obtain ⟨m, rfl⟩ : ∃ x, m = x + 1 := ⟨m - 1, by omega⟩
    obtain rfl : i = l.length := by omega
    exact LpC.last (kbE l want all) (by simp)
  | succ f ih =>
    intro i want all m hi hw hm
    obtain ⟨m, rfl⟩ : ∃ x, m = x + 1 := ⟨m - 1, by omega⟩
    have hlt : i < l.length := by omega
    obtain ⟨t1, t2, t3⟩ := ht i hlt
    simp only [kbF]
    cases all with
    | true =>
      rw [if_pos rfl]
      cases hb : hasB (kW l i) (kN l i) (kT l i) with
      | true =>
        rw [if_pos rfl]
        have hL := (line_facts (kW l i) (kN l i) (kT l i) (by omega) t2 t3 hb).1
        exact LpC.next (kbB l want i hl hlt t1 (by omega) (by omega) hb (by omega) (by rw [List.length_append]; omega)) (ih (i + 1) _ true m (by omega) (by simp; omega) (by omega))
      | false =>
        rw [if_neg (by simp)]
        exact LpC.next (kbC l want i hl hlt t1 hb) (ih (i + 1) want false m (by omega) (by omega) (by omega))
    | false =>
      rw [if_neg (by simp)]
      exact LpC.next (kbD l want i hl hlt t1) (ih (i + 1) want false m (by omega) (by omega) (by omega))
/-- The first text that is too long. -/
def overK (l : List Key) : Nat → Nat → Nat
  | 0, i => i
  | f + 1, i => if 100 < (kT l i).length then i else overK l f (i + 1)
theorem kbC_long (l : List Key) (hl : l.length ≤ 60) (hn : ∀ i, i < l.length → -9223372036854775808 ≤ kN l i ∧ kN l i ≤ 9223372036854775807) : ∀ f i want all m, f + i = l.length → (∃ j, i ≤ j ∧ j < l.length ∧ 100 < (kT l j).length) → want.length ≤ i * 6001 → f < m →
    LpC (X1 l) 0 (ntOf X0 FKB) (lpKeep X0 FKB 0) (lpBody X0 FKB 0) 0 m (stKB l want all i) (.ret, ⟨[(2, .d (.bool true))], [.cells [.d (.int .i64 (kW l (overK l f i))), .d (.int .i64 (kN l (overK l f i))), .d (.str (kT l (overK l f i)))]], []⟩) := by
  intro f
  induction f with
  | zero => intro i want all m hi ⟨j, h1, h2, _⟩; omega
  | succ f ih =>
    intro i want all m hi hj hw hm
    obtain ⟨m, rfl⟩ : ∃ x, m = x + 1 := ⟨m - 1, by omega⟩
    have hlt : i < l.length := by omega
    obtain ⟨t2, t3⟩ := hn i hlt
    simp only [overK]
    by_cases ht : 100 < (kT l i).length
    · rw [if_pos ht]
      exact LpC.last (kbA l want all i hl hlt ht) (by simp)
    · rw [if_neg ht]
      have hj' : ∃ j, i + 1 ≤ j ∧ j < l.length ∧ 100 < (kT l j).length := by
        obtain ⟨j, h1, h2, h3⟩ := hj
        refine ⟨j, ?_, h2, h3⟩
        have : i ≠ j := fun e => ht (e ▸ h3)
        omega
      have t1 : (kT l i).length ≤ 100 := by omega
      cases all with
      | true =>
        cases hb : hasB (kW l i) (kN l i) (kT l i) with
        | true =>
          have hL := (line_facts (kW l i) (kN l i) (kT l i) (by omega) t2 t3 hb).1
          exact LpC.next (kbB l want i hl hlt t1 (by omega) (by omega) hb (by omega) (by rw [List.length_append]; omega)) (ih (i + 1) _ true m (by omega) hj' (by simp; omega) (by omega))
        | false => exact LpC.next (kbC l want i hl hlt t1 hb) (ih (i + 1) want false m (by omega) hj' (by omega) (by omega))
      | false => exact LpC.next (kbD l want i hl hlt t1) (ih (i + 1) want false m (by omega) hj' (by omega) (by omega))
def kbW (l : List Key) : Str := (kbF l l.length 0 [] true).1
def kbAll (l : List Key) : Bool := (kbF l l.length 0 [] true).2
def kbL_T : Prop := ∀ (l : List Key) (hl : l.length ≤ 60) (ht : okTs l), Lp (X1 l) 0 (ntOf X0 FKB) (lpKeep X0 FKB 0) (lpBody X0 FKB 0) 0 FUEL (stKB l [] true 0) (.exit 0, stKBx l (kbW l) (kbAll l) l.length)
theorem kbL : kbL_T := fun l hl ht => LpC.start (m := 1152921504606846975) (kbC_ok l hl ht l.length 0 [] true _ (by omega) (by simp) (by omega)) (by kernel_rfl)
def longK (l : List Key) : Prop := (∃ j, j < l.length ∧ 100 < (kT l j).length) ∧ ∀ i, i < l.length → -9223372036854775808 ≤ kN l i ∧ kN l i ≤ 9223372036854775807
def kbLong_T : Prop := ∀ (l : List Key) (hl : l.length ≤ 60) (h : longK l), Lp (X1 l) 0 (ntOf X0 FKB) (lpKeep X0 FKB 0) (lpBody X0 FKB 0) 0 FUEL (stKB l [] true 0) (.ret, ⟨[(2, .d (.bool true))], [.cells [.d (.int .i64 (kW l (overK l l.length 0))), .d (.int .i64 (kN l (overK l l.length 0))), .d (.str (kT l (overK l l.length 0)))]], []⟩)
theorem kbLong : kbLong_T := fun l hl h => LpC.start (m := 1152921504606846975) (kbC_long l hl h.2 l.length 0 [] true _ (by omega) (by obtain ⟨j, h1, h2⟩ := h.1; exact ⟨j, by omega, h1, h2⟩) (by simp) (by omega)) (by kernel_rfl)
/- plain -/
theorem kbF_false (l : List Key) : ∀ f i want, kbF l f i want false = (want, false)
  | 0, _, _ => rfl
  | f + 1, i, want => by simp only [kbF]; rw [if_neg (by simp)]; exact kbF_false l f (i + 1) want
theorem kbF_true (l : List Key) : ∀ f i want, f + i = l.length → kbF l f i want true = if (l.drop i).all hasK = true then (want ++ (l.drop i).flatMap (fun k => lineK k ++ [10]), true) else ((kbF l f i want true).1, false)
  | 0, i, want, h => by
    have : l.drop i = [] := List.drop_eq_nil_of_le (by omega)
    rw [this]
    simp [kbF]
  | f + 1, i, want, h => by
    have hlt : i < l.length := by omega
    have hd : l.drop i = l[i] :: l.drop (i + 1) := List.drop_eq_getElem_cons hlt
    have hk : keyT.nth l i = l[i] := by simp [Ty.nth, List.getD_eq_getElem?_getD, List.getElem?_eq_getElem hlt]
    have ih := kbF_true l f (i + 1) (want ++ lineK l[i] ++ [10]) (by omega)
    simp only [kbF, if_true]
    rw [hd, List.all_cons, List.flatMap_cons]
    have e1 : hasB (kW l i) (kN l i) (kT l i) = hasK l[i] := by simp only [kW, kN, kT, hk, hasK]
    have e2 : lineS (kW l i) (kN l i) (kT l i) = lineK l[i] := by simp only [kW, kN, kT, hk, lineK]
    rw [e1, e2]
    cases hh : hasK l[i] with
    | true =>
      simp only [if_true, Bool.true_and]
      rw [ih]
      split
      · simp
      · rfl
    | false =>
      simp only [Bool.false_eq_true, if_false, Bool.false_and]
      rw [kbF_false]
theorem kb_all (l : List Key) : kbAll l = l.all hasK := by
  unfold kbAll
  have := kbF_true l l.length 0 [] (by omega)
  rw [this, List.drop_zero]
  split
  · rename_i h; rw [h]
  · rename_i h; simp only; exact (Bool.eq_false_iff.2 h).symm
theorem kb_want (l : List Key) (h : l.all hasK = true) : kbW l = recS l := by
  unfold kbW recS
  have := kbF_true l l.length 0 [] (by omega)
  rw [this, List.drop_zero, if_pos h, if_pos h]
  simp
theorem pieces_app : ∀ (a s : Str), (10 : UInt8) ∉ a → pieces (a ++ 10 :: s) = a :: pieces s
  | [], s, _ => by simp [pieces]
  | c :: a, s, h => by
    simp only [List.mem_cons, not_or] at h
    have ih := pieces_app a s h.2
    rw [List.cons_append]
    conv => lhs; unfold pieces
    rw [if_neg (fun e => h.1 e.symm), ih]
    rfl
theorem pieces_rec : ∀ (l : List Key), (∀ k ∈ l, (10 : UInt8) ∉ lineK k) → pieces (l.flatMap fun k => lineK k ++ [10]) = l.map lineK ++ [[]]
  | [], _ => rfl
  | k :: l, h => by
    rw [List.flatMap_cons, List.append_assoc, List.singleton_append, pieces_app _ _ (h k (by simp)), pieces_rec l (fun x hx => h x (by simp [hx]))]
    rfl
theorem goF_rec : ∀ (l : List Key) (n : Nat) (out : List Key), (∀ k ∈ l, refOk (lineK k) = true ∧ keyOf (lineK k) = k) → goF (l.map lineK ++ [[]]) n out = .out (out ++ l) [] (n + l.length)
  | [], n, out, _ => by simp [goF]
  | [k], n, out, h => by
    obtain ⟨a, b⟩ := h k (by simp)
    simp [goF, a, b]
  | k :: k2 :: l, n, out, h => by
    obtain ⟨a, b⟩ := h k (by simp)
    have ih := goF_rec (k2 :: l) (n + 1) (out ++ [k]) (fun x hx => h x (by simp [hx]))
    simp only [List.map_cons, List.cons_append] at ih ⊢
    rw [goF, if_pos a, b, ih]
    simp
    omega
theorem facts_of (l : List Key) (ht : okTs l) (h : l.all hasK = true) : ∀ k ∈ l, (lineK k).length ≤ 6000 ∧ (10 : UInt8) ∉ lineK k ∧ refOk (lineK k) = true ∧ keyOf (lineK k) = k := by
  intro k hk
  obtain ⟨i, hi, e⟩ := List.getElem_of_mem hk
  have hn : keyT.nth l i = k := by rw [← e]; simp [Ty.nth, List.getD_eq_getElem?_getD, List.getElem?_eq_getElem hi]
  obtain ⟨t1, t2, t3⟩ := ht i hi
  simp only [kT, kN, hn] at t1 t2 t3
  obtain ⟨a, b, c, d, e1, f⟩ := line_facts k.1 k.2.1 k.2.2.1 (by omega) t2 t3 (List.all_eq_true.1 h k hk)
  refine ⟨a, (hasNl_no _).1 b, c, ?_⟩
  unfold keyOf lineK
  rw [d, e1, f]
theorem rec_len (l : List Key) (hl : l.length ≤ 60) (ht : okTs l) (h : l.all hasK = true) : (recS l).length ≤ 1000000 := by
  unfold recS
  rw [if_pos h]
  have hf := facts_of l ht h
  have : ∀ m : List Key, (∀ k ∈ m, (lineK k).length ≤ 6000) → (m.flatMap fun k => lineK k ++ [10]).length ≤ m.length * 6001 := by
    intro m
    induction m with
    | nil => intro _; simp
    | cons k m ih =>
      intro hm
      have h1 := hm k (by simp)
      have h2 := ih (fun x hx => hm x (by simp [hx]))
      simp only [List.flatMap_cons, List.length_append, List.length_cons, List.length_nil]
      omega
  have := this l (fun k hk => (hf k hk).1)
  omega
theorem rec_back (l : List Key) (ht : okTs l) (h : l.all hasK = true) : goodM (recS l) = true ∧ rmR (recS l) = l := by
  have hf := facts_of l ht h
  have e : goF (pieces (recS l)) 1 [] = .out l [] (1 + l.length) := by
    unfold recS
    rw [if_pos h, pieces_rec l (fun k hk => (hf k hk).2.1), goF_rec l 1 [] (fun k hk => (hf k hk).2.2)]
    simp
  unfold goodM rmOk rmL rmR
  rw [refM_pieces, e]
  exact ⟨rfl, rfl⟩
/- the law -/
def lawB0_T : Prop := ∀ (l : List Key) (h : 60 < l.length) (hl : l.length < 1000000000000000), Ans (X1 l) FKB [.d (keyT.slD l)] (.d (.bool true))
def lawBL_T : Prop := ∀ (l : List Key) (hl : l.length ≤ 60) (h : longK l), Ans (X1 l) FKB [.d (keyT.slD l)] (.d (.bool true))
def lawBN_T : Prop := ∀ (l : List Key) (hl : l.length ≤ 60) (ht : okTs l) (ha : kbAll l = false) (hr : (recS l == []) = true), Ans (X1 l) FKB [.d (keyT.slD l)] (.d (.bool true))
def macU2_T : Prop := ∀ (l : List Key) (hs : (recS l).length ≤ 1000000) (hg : goodM (recS l) = true) (hr : rmR (recS l) = l), Ans (X1 l) FMc [.d (.str (recS l))] (.d (.tup [keyT.slD l, .int .i64 0]))
theorem macU2 : macU2_T := fun l hs hg hr => by
  have := macU l (recS l) hs hg
  rw [hr] at this
  exact this
def lawBY_T : Prop := ∀ (l : List Key) (hl : l.length ≤ 60) (hm : l.length ≤ 1000001) (ht : okTs l) (ha : kbAll l = true) (hw : (recS l == kbW l) = true) (hs : (recS l).length ≤ 1000000) (hg : goodM (recS l) = true) (hr : rmR (recS l) = l), Ans (X1 l) FKB [.d (keyT.slD l)] (.d (.bool true))
end Go.Proofs.YtnmabjamkpmkcaaDoor.Keys
/- Keys: paths, printed by a program of mine. -/
set_option maxRecDepth 100000
set_option linter.unusedSimpArgs false
set_option linter.unusedVariables false
namespace Go.Proofs.YtnmabjamkpmkcaaDoor.Keys
open Go Pv G
set_option maxHeartbeats 4000000 in
theorem lawB0 : lawB0_T := by
  intro l h hl
  have h0 : (decide ((↑(List.length l) : Int) > (60 : Int))) = true := by (first | assumption | (((try simp only [SA] at *); (try simp (disch := omega) only [SB, reduceCtorEq] at *)) <;> first | omega | assumption | (refine ⟨?_, ?_⟩ <;> assumption) | (refine ⟨?_, ?_, ?_⟩ <;> assumption) | (intros; assumption) | (right; right; assumption) | (right; left; assumption) | (left; assumption)))
  exact pV 12 [(2, bt), (3, .v (V.d (D.bool true)))] (cC (@typesU (l)) (cP h0 nilE)) (by kernel_rfl) rfl rfl
set_option maxHeartbeats 4000000 in
theorem lawBL : lawBL_T := by
  intro l hl h
  have h0 : (decide ((↑(List.length l) : Int) > (60 : Int))) = false := by (first | assumption | (((try simp only [SA] at *); (try simp (disch := omega) only [SB, reduceCtorEq] at *)) <;> first | omega | assumption | (refine ⟨?_, ?_⟩ <;> assumption) | (refine ⟨?_, ?_, ?_⟩ <;> assumption) | (intros; assumption) | (right; right; assumption) | (right; left; assumption) | (left; assumption)))
  exact pV 12 [(2, bf), (4, .l (Ex.ret) ({ s := [((2 : Nat), (V.d (D.bool true)))], h := [(Ob.cells [(V.d (D.int IntKind.i64 (kW l (overK l (List.length l) (0 : Nat))))), (V.d (D.int IntKind.i64 (kN l (overK l (List.length l) (0 : Nat))))), (V.d (D.str (kT l (overK l (List.length l) (0 : Nat)))))])], og := [] }))] (cE (@kbLong (l) hl h) (cP h0 nilE)) (by kernel_rfl) rfl rfl
set_option maxHeartbeats 4000000 in
theorem lawBN : lawBN_T := by
  intro l hl ht ha hr
  have h0 : (decide ((↑(List.length l) : Int) > (60 : Int))) = false := by (first | assumption | (((try simp only [SA] at *); (try simp (disch := omega) only [SB, reduceCtorEq] at *)) <;> first | omega | assumption | (refine ⟨?_, ?_⟩ <;> assumption) | (refine ⟨?_, ?_, ?_⟩ <;> assumption) | (intros; assumption) | (right; right; assumption) | (right; left; assumption) | (left; assumption)))
  have h1 : (!(kbAll l)) = true := by (first | assumption | (((try simp only [SA] at *); (try simp (disch := omega) only [SB, reduceCtorEq] at *)) <;> first | omega | assumption | (refine ⟨?_, ?_⟩ <;> assumption) | (refine ⟨?_, ?_, ?_⟩ <;> assumption) | (intros; assumption) | (right; right; assumption) | (right; left; assumption) | (left; assumption)))
  have h2 : ((recS l) == []) = true := by (first | assumption | (((try simp only [SA] at *); (try simp (disch := omega) only [SB, reduceCtorEq] at *)) <;> first | omega | assumption | (refine ⟨?_, ?_⟩ <;> assumption) | (refine ⟨?_, ?_, ?_⟩ <;> assumption) | (intros; assumption) | (right; right; assumption) | (right; left; assumption) | (left; assumption)))
  exact pV 12 [(2, bf), (4, .l (Ex.exit (0 : Nat)) (stKBx l (kbW l) (kbAll l) (List.length l))), (5, .v (V.d (D.str (recS l)))), (6, bt), (7, .v (V.d (D.bool ((recS l) == [])))), (8, bt), (9, .v (V.d (D.bool true))), (10, bt)] (cP h2 (cC (@typesU (l)) (cP h2 (cP (@strEqU (l) (recS l) ([])) (cP h1 (cC (@recU (l) hl ht) (cE (@kbL (l) hl ht) (cP h0 nilE)))))))) (by kernel_rfl) rfl rfl
set_option maxHeartbeats 4000000 in
theorem lawBY : lawBY_T := by
  intro l hl hm ht ha hw hs hg hr
  have h0 : (decide ((↑(List.length l) : Int) > (60 : Int))) = false := by (first | assumption | (((try simp only [SA] at *); (try simp (disch := omega) only [SB, reduceCtorEq] at *)) <;> first | omega | assumption | (refine ⟨?_, ?_⟩ <;> assumption) | (refine ⟨?_, ?_, ?_⟩ <;> assumption) | (intros; assumption) | (right; right; assumption) | (right; left; assumption) | (left; assumption)))
  have h1 : (!(kbAll l)) = false := by (first | assumption | (((try simp only [SA] at *); (try simp (disch := omega) only [SB, reduceCtorEq] at *)) <;> first | omega | assumption | (refine ⟨?_, ?_⟩ <;> assumption) | (refine ⟨?_, ?_, ?_⟩ <;> assumption) | (intros; assumption) | (right; right; assumption) | (right; left; assumption) | (left; assumption)))
  have h2 : ((recS l) == (kbW l)) = true := by (first | assumption | (((try simp only [SA] at *); (try simp (disch := omega) only [SB, reduceCtorEq] at *)) <;> first | omega | assumption | (refine ⟨?_, ?_⟩ <;> assumption) | (refine ⟨?_, ?_, ?_⟩ <;> assumption) | (intros; assumption) | (right; right; assumption) | (right; left; assumption) | (left; assumption)))
  exact pV 12 [(2, bf), (4, .l (Ex.exit (0 : Nat)) (stKBx l (kbW l) (kbAll l) (List.length l))), (5, .v (V.d (D.str (recS l)))), (6, bf), (7, .v (V.d (D.tup [(Ty.slD keyT l), (D.int IntKind.i64 (0 : Int))]))), (8, .v (V.d (D.bool ((recS l) == (kbW l))))), (9, bt), (10, bt), (12, bt), (15, .v (V.d (Ty.slD keyT l))), (18, .v (V.d (Ty.slD keyT l))), (20, .v (V.d (D.bool true))), (23, .v (V.d (D.bool true)))] (cC (@typesU (l)) (cC (@sameU (l) (l) hm) (cC (@refsU (l) (l) hm) (cC (@refsU (l) (l) hm) (cP h2 (cP h2 (cP h2 (cP (@strEqU (l) (recS l) (kbW l)) (cC (@macU2 (l) hs hg hr) (cP h1 (cC (@recU (l) hl ht) (cE (@kbL (l) hl ht) (cP h0 nilE))))))))))))) (by kernel_rfl) rfl rfl
end Go.Proofs.YtnmabjamkpmkcaaDoor.Keys
/- Keys: keys.Record walked: the text of some keys, given what each key's line is. -/
set_option linter.unusedVariables false
set_option linter.unusedSimpArgs false
namespace Go.Proofs.YtnmabjamkpmkcaaDoor.Keys
open Go Go.RowKit Go.Proofs
def wsRen : Go.Shelf.Ren := ⟨fun | 166 => 34 | 240 => 43 | 276 => 48 | n => n, fun | 0 => 0 | 3 => 3 | 4 => 4 | 5 => 5 | 9 => 9 | 20 => 20 | 37 => 64 | 70 => 63 | 72 => 66 | 75 => 68 | 80 => 71 | 164 => 79 | n => n, fun n => n⟩
theorem wsLays : Go.Proofs.Lays.n166 Tryd.prog wsRen := {
  mixed := by kernel_rfl
  f166 := Tryd.func34.trans (congrArg some (by kernel_rfl))
  f240 := Tryd.func43.trans (congrArg some (by kernel_rfl))
  f276 := Tryd.func48.trans (congrArg some (by kernel_rfl))
  t0 := Tryd.underlying0
  a0 := Tryd.isAgg0
  z0 := Tryd.sizeOf0
  v0 := Tryd.zeroValue0
  t3 := Tryd.underlying3
  a3 := Tryd.isAgg3
  z3 := Tryd.sizeOf3
  v3 := Tryd.zeroValue3
  t4 := Tryd.underlying4
  a4 := Tryd.isAgg4
  z4 := Tryd.sizeOf4
  v4 := Tryd.zeroValue4
  t9 := Tryd.underlying9
  a9 := Tryd.isAgg9
  z9 := Tryd.sizeOf9
  v9 := Tryd.zeroValue9
  t20 := Tryd.underlying20
  a20 := Tryd.isAgg20
  z20 := Tryd.sizeOf20
  v20 := Tryd.zeroValue20
  t37 := Tryd.underlying64
  a37 := Tryd.isAgg64
  z37 := Tryd.sizeOf64
  v37 := Tryd.zeroValue64
  t70 := Tryd.underlying63
  a70 := Tryd.isAgg63
  z70 := Tryd.sizeOf63
  v70 := Tryd.zeroValue63
  t72 := Tryd.underlying66
  a72 := Tryd.isAgg66
  z72 := Tryd.sizeOf66
  v72 := Tryd.zeroValue66
  t75 := Tryd.underlying68
  a75 := Tryd.isAgg68
  z75 := Tryd.sizeOf68
  v75 := Tryd.zeroValue68
  t164 := Tryd.underlying79
  a164 := Tryd.isAgg79
  z164 := Tryd.sizeOf79
  v164 := Tryd.zeroValue79 }
theorem wsExtra : Builder.Extra Tryd.prog wsRen := {
  sizeBuilder := by kernel_rfl
  liesBuilder := by kernel_rfl
  t5 := Tryd.underlying5
  a5 := Tryd.isAgg5
  z5 := Tryd.sizeOf5
  v5 := Tryd.zeroValue5
  infoByte := by kernel_rfl
  cellsByte := by kernel_rfl
  sizeByte := by kernel_rfl
  neB5 := by decide }
abbrev TB : TypeId := 66
abbrev TU : TypeId := 5
theorem writeString (B b : Nat) (bs : List Value) (s : ByteArray) (w : World) (h : Lib.IsBuilder TB TU B b bs w) (hlen : bs.length + s.size ≤ 140737488355328) (hBw : B ≤ w.heap.size) :
    Calls Tryd.prog 34 #[.pointer (some ⟨b, 0, none⟩), .string s] w fun e w' => e = .returned (.tuple #[.int .i64 s.size, .nilIface]) ∧ (Lib.BuilderAt TB TU B b (.pointer (some ⟨b, 0, none⟩)) (bs ++ Lib.strCells s) w' ∧ Below B w w') :=
  Any.Builder_WriteString wsLays wsExtra B b bs s w h hlen hBw
theorem builder_below {T e : TypeId} {B b : Nat} {bs : List Value} {w w' : World} (h : Lib.IsBuilder T e B b bs w) (hb : Below w.heap.size w w') : Lib.IsBuilder T e B b bs w' := by
  have hg : w.grownBy w' none := ⟨hb.os, hb.tape, hb.output, hb.size, fun k hk _ => hb.block k hk⟩
  have one : ∀ p, Lib.BuilderAt T e B b p bs w → Lib.BuilderAt T e B b p bs w' := by
    rintro p ⟨hB, v, hbk, hown, hne⟩
    exact ⟨hB, v, (hb.block b (Array.getElem?_eq_some_iff.1 hbk).1).trans hbk, hown.kept hg (by cases h : v.ownBlock <;> simp), hne⟩
  exact h.elim (fun x => .inl (one _ x)) (fun x => .inr (one _ x))
/-- Lines, each with its end. -/
def accL (L : Nat → List UInt8) : Nat → List UInt8
  | 0 => []
  | i + 1 => accL L i ++ (L i ++ [10])
open Classical in
noncomputable def recL (L : Nat → List UInt8) (n : Nat) : List UInt8 := if ∀ i, i < n → L i ≠ [] then accL L n else []
theorem accL_len (L : Nat → List UInt8) (n : Nat) (h : ∀ i, i < n → (L i).length ≤ 10000) : ∀ i, i ≤ n → (accL L i).length ≤ i * 10001
  | 0, _ => by simp [accL]
  | i + 1, hi => by
    have := accL_len L n h i (by omega)
    have := h i (by omega)
    simp [accL]
    omega
set_option maxHeartbeats 4000000 in
set_option maxRecDepth 1000000 in
theorem record_walk (a : Option Addr) (blk off n cap : Nat) (A B : Nat → Int) (C L : Nat → List UInt8) (w : World) (hn : n ≤ 1000) (ha : 0 < n → a = some ⟨blk, off, none⟩ ∧ blk < w.heap.size)
    (hcell : ∀ i, i < n → w.cell? ⟨blk, off + i * 3, none⟩ = some (.int .i64 (A i)) ∧ w.cell? ⟨blk, off + i * 3 + 1, none⟩ = some (.int .i64 (B i)) ∧ w.cell? ⟨blk, off + i * 3 + 2, none⟩ = some (.string ⟨(C i).toArray⟩))
    (hline : ∀ i, i < n → ∀ W, Below w.heap.size w W → Calls Tryd.prog 11 #[.agg #[.int .i64 (A i), .int .i64 (B i), .string ⟨(C i).toArray⟩]] W fun e W' => e = .returned (.string ⟨(L i).toArray⟩) ∧ Below W.heap.size W W')
    (hlen : ∀ i, i < n → (L i).length ≤ 10000) :
    Calls Tryd.prog 18 #[.slice a n cap] w fun e w' => e = .returned (.string ⟨(recL L n).toArray⟩) ∧ Below w.heap.size w w' := by
  go_enter Tryd.func18, Tryd.ntmps18
  go_wp2
  go_loopg [9] n (fun k s9 wr => ∃ (i : Nat), s9 = .int .i64 i ∧ i ≤ n ∧ n - i ≤ k ∧ Lib.IsBuilder TB TU w.heap.size w.heap.size (Lib.byteCells (accL L i)) wr ∧ Below w.heap.size w wr ∧ (∀ j, j < i → L j ≠ []))
  case atStart => exact ⟨0, rfl, by omega, by omega, Lib.fresh_isBuilder TB TU w, (Below.refl _ w).alloc (Nat.le_refl _) _, fun j hj => by omega⟩
  case round =>
    obtain ⟨i, rfl, hi, hk, hB, hbw, hall⟩ := hrel
    by_cases hlt : i < n
    · obtain ⟨rfl, hblk⟩ := ha (by omega)
      have keep : ∀ o, wr.cell? ⟨blk, o, none⟩ = w.cell? ⟨blk, o, none⟩ := fun o => World.cell?_of_block (w := w) (a := ⟨blk, o, none⟩) (hbw.block blk hblk)
      obtain ⟨c0, c1, c2⟩ := hcell i hlt
      rw [← keep] at c0 c1 c2
      have hline := hline i hlt
      have hlen' := hlen i hlt
      have hacc := accL_len L n hlen i hi
      clear hcell keep
      have hsz := hbw.size
      have hbA : ∀ o, Below w.heap.size w (wr.alloc o) := fun o => hbw.alloc hsz o
      have hBA : ∀ o, Lib.IsBuilder TB TU w.heap.size w.heap.size (Lib.byteCells (accL L i)) (wr.alloc o) := fun o => builder_below hB ((Below.refl _ wr).alloc (Nat.le_refl _) o)
      go_wp2_with (go_at_call 11; refine (hline _ (hbA _)).mono ?_)
      rintro e W1 rfl b1
      have hB1 := builder_below (hBA _) (by simpa using b1)
      have hbw1 : Below w.heap.size w W1 := (hbA _).trans (b1.mono (by omega))
      have hsz1 := hbw1.size
      clear hbA hBA hB c0 c1 c2 hline b1
      go_wp2_with (go_at_call 34; refine (writeString w.heap.size w.heap.size _ _ _ hB1 ?_ hsz1).mono ?_)
      · rename_i hE
        have hE : L i = [] := by simpa using hE
        go_ret
        refine ⟨?_, hbw1⟩
        have e : recL L n = [] := if_neg (fun h => h i hlt hE)
        rw [e]
        rfl
      · rw [Lib.byteCells_length]
        simp [ByteArray.size]
        omega
      · have hE0 : (L i).isEmpty = false := by first | assumption | (rename_i a b c; first | simpa using a | simpa using b | simpa using c)
        have hE : L i ≠ [] := by simpa using hE0
        rintro e W2 ⟨rfl, h2, b2⟩
        go_wp2
        go_roundg (n - (i + 1))
        case measure => omega
        case rel =>
          refine ⟨i + 1, by simp, by omega, Nat.le_refl _, ?_, hbw1.trans b2, fun j hj => ?_⟩
          · right
            have e : Lib.byteCells (accL L i) ++ Lib.strCells ({ data := (L i).toArray } ++ { data := #[10] }) = Lib.byteCells (accL L (i + 1)) := by
              simp [Lib.byteCells, Lib.strCells, accL]
            rw [← e]
            exact h2
          · by_cases e : j = i
            · subst e; exact hE
            · exact hall j (by omega)
    · obtain rfl : i = n := by omega
      go_wp2_with (go_at_call 35; refine (Tryd.Builder_String_any w.heap.size w.heap.size (accL L i) _ hB (by have := hbw.size; omega)).mono ?_)
      rintro e W1 ⟨rfl, b1⟩
      go_wp2
      go_ret
      refine ⟨?_, hbw.trans b1⟩
      have e : recL L i = accL L i := if_pos hall
      rw [e]
      rfl
end Go.Proofs.YtnmabjamkpmkcaaDoor.Keys
/- Keys: what the row's list gives: the package-level variables that are known. -/
set_option linter.unusedSimpArgs false
set_option linter.unusedVariables false
namespace Go.Proofs.YtnmabjamkpmkcaaDoor.Keys
open Go Pv
theorem strs_of_tab {H : Type} {enc : TypeId × Value → H} {P : Program} {w : World} {base : Nat} {sp : Nat → Bool} {held : Bool} {fuel : Nat} {t e : TypeId} {n : Nat} {cs : List Value} {ss : List (List UInt8)} {p : List MemPlace}
    (ht : P.underlying t = some (.array n e)) (he : P.underlying e = some .string) (hce : P.cellsOf e = 1) (hct : P.cellsOf t = n)
    (h : DataW.trod enc P w base sp held fuel t cs = some (.agg (ss.map fun s => .lit (.string s)), p)) : cs = ss.map fun s => Value.string ⟨s.toArray⟩ := by
  cases fuel with
  | zero => simp [DataW.trod] at h
  | succ fuel =>
    simp only [DataW.trod, ht, hce, hct, Nat.mul_one] at h
    split at h
    · rename_i hl
      obtain ⟨xs, hm, hx⟩ := Option.map_eq_some_iff.1 h
      have hxs : xs.map (·.1) = ss.map fun z => (DataW.lit (.string z) : DataW H) := by
        have := congrArg Prod.fst hx
        simpa using this
      have hxl : xs.length = n := by simpa using Lib.mapM_length hm
      have hzl : ss.length = n := by
        have := congrArg List.length hxs
        simp at this
        omega
      apply List.ext_getElem?
      intro i
      by_cases hi : i < n
      · obtain ⟨b, hb, hf⟩ := Lib.mapM_at hm i i (by simp [hi])
        obtain ⟨z, hc, rfl, _⟩ := DataW.trod_string he hf
        have h1 : cs[i]? = some (.string z) := by
          have := congrArg (·[0]?) hc
          simpa [List.getElem?_take, List.getElem?_drop] using this
        have h2 : (xs.map (·.1))[i]? = some (DataW.lit (.string z.data.toList) : DataW H) := by simp [hb]
        rw [hxs] at h2
        simp only [List.getElem?_map, Option.map_eq_some_iff, DataW.lit.injEq, Lit.string.injEq] at h2
        obtain ⟨z', hz', e'⟩ := h2
        subst e'
        simp [h1, hz']
      · rw [List.getElem?_eq_none (by omega), List.getElem?_eq_none (by simp; omega)]
    · cases h
theorem full_var {P : Program} {W : World} {n : String} {g : Nat} {cs : Array Value} (hg : P.globalNamed n = some g) (h : W.var? P n = some cs) : fullE W g = cs.size := by
  unfold World.var? at h
  rw [hg] at h
  simp only [Option.bind_some] at h
  unfold fullE
  split at h
  · rename_i c _ _ e
    rw [e]
    cases h
    rfl
  · cases h
theorem var_block {P : Program} {W : World} {n : String} {g : Nat} {cs : List Value} (hg : P.globalNamed n = some g) (h : W.var? P n = some cs.toArray) : ∃ T fz, W.heap[g]? = some (.cells ⟨cs⟩ T fz) := by
  unfold World.var? at h
  rw [hg] at h
  simp only [Option.bind_some] at h
  split at h
  · rename_i c T fz e
    cases h
    exact ⟨T, fz, e⟩
  · cases h
theorem topG_own {W : World} {g : Nat} {o : Obj} (h : W.heap[g]? = some o) : (topG W).own g = .fgn := by
  simp only [topG]
  rw [if_pos (Array.getElem?_eq_some_iff.1 h).1]
theorem ptd_strs (w : World) (e : Nat → Nat) (ss : List (List UInt8)) : PtD w e (ss.map fun s => .string ⟨s.toArray⟩) (ss.map D.str) := by
  refine ⟨by simp, fun j v d h1 h2 => ?_⟩
  simp only [List.getElem?_map, Option.map_eq_some_iff] at h1 h2
  obtain ⟨s, hs, rfl⟩ := h1
  obtain ⟨s', hs', rfl⟩ := h2
  rw [hs] at hs'
  cases hs'
  exact .str s
theorem ptd_ints (w : World) (e : Nat → Nat) (k : IntKind) (zs : List Int) : PtD w e (zs.map fun z => .int k z) (zs.map fun z => .int k z) := by
  refine ⟨by simp, fun j v d h1 h2 => ?_⟩
  simp only [List.getElem?_map, Option.map_eq_some_iff] at h1 h2
  obtain ⟨s, hs, rfl⟩ := h1
  obtain ⟨s', hs', rfl⟩ := h2
  rw [hs] at hs'
  cases hs'
  exact .int k s
abbrev nameStrs : List (List UInt8) := [[], [116, 121, 112, 101], [98, 97, 99, 107], [109, 111, 118, 101], [101, 120, 116, 101, 110, 100], [102, 111, 108, 100], [117, 110, 102, 111, 108, 100], [117, 110, 100, 111], [114, 101, 100, 111], [97, 100, 100], [119, 105, 100, 116, 104]]
theorem gNames : Tryd.prog.globalNamed "bodkin/keys.names" = some 0 := by kernel_rfl
theorem gPow : Tryd.prog.globalNamed "internal/strconv.uint64pow10" = some 2 := by kernel_rfl
theorem laidFacts {W : World} (h : laidMetH Tryd.prog Rows.keysParseRow.laid W) :
    W.var? Tryd.prog "bodkin/keys.names" = some (nameStrs.map fun s => Value.string ⟨s.toArray⟩).toArray ∧ W.var? Tryd.prog "internal/strconv.uint64pow10" = some (Lib.pow10Tab.map fun z => Value.int .u64 z).toArray := by
  have h' : laidMet Tryd.prog Rows.keysParseRow.laid W := h
  obtain ⟨ps, ⟨g1, t1, c1, f1, p1, q1, _, _, _, _, ⟨g2, t2, c2, f2, p2, q2, _, _, _, _, ⟨g3, t3, c3, f3, p3, q3, a3, b3, d3, e3, ⟨g4, t4, c4, f4, p4, q4, _, _, _, _, ⟨g5, t5, c5, f5, p5, q5, a5, b5, d5, e5, _, _⟩, _⟩, _⟩, _⟩, _⟩, _⟩ := h'
  refine ⟨?_, ?_⟩
  · obtain rfl := Option.some.inj (gNames.symm.trans a5)
    obtain rfl := Option.some.inj ((show (Tryd.prog.globals[0]?).map (·.type) = some 58 by kernel_rfl).symm.trans b5)
    rw [d5]
    have := strs_of_tab (ss := nameStrs) (n := 11) (e := 9) (by kernel_rfl) (by kernel_rfl) (by kernel_rfl) (by kernel_rfl) e5
    rw [← this]
  · obtain rfl := Option.some.inj (gPow.symm.trans a3)
    obtain rfl := Option.some.inj ((show (Tryd.prog.globals[2]?).map (·.type) = some 96 by kernel_rfl).symm.trans b3)
    rw [d3]
    have := Lib.cells_of_tab (k := .u64) (zs := Lib.pow10Tab) (n := 20) (e := 87) (by kernel_rfl) (by kernel_rfl) (by kernel_rfl) (by kernel_rfl) e3
    rw [← this]
set_option maxRecDepth 100000 in
theorem maxLenIs {W : World} (h : W.ShapedOpen Tryd.prog) : ∃ z : Int, (∃ T fz, W.heap[1]? = some (.cells ⟨[.int .i64 z]⟩ T fz)) ∧ 1 ≤ fullE W 1 := by
  obtain ⟨cs, e1, e2, e3⟩ := h.1 1 #[.int .i64 0] 3 (of_decide_eq_true (by kernel_rfl)) (by kernel_rfl)
  obtain ⟨ts, k1, _, k3⟩ := e3 (by kernel_rfl)
  have hts : ts = [3] := Option.some.inj (k1.symm.trans (by kernel_rfl))
  have hsz : cs.size = 1 := e2
  have hc : cs[0]? = some cs[0] := Array.getElem?_eq_getElem (by omega)
  obtain ⟨u, hu, hok⟩ := k3 0 cs[0] hc
  rw [hts] at hu
  have hu' : u = 3 := by
    simp only [List.length_singleton, Nat.mod_one, List.getElem?_cons_zero, Option.some.injEq] at hu
    exact hu.symm
  subst hu'
  have hz : ∃ z : Int, cs[0] = .int .i64 z := by
    have hund : Tryd.prog.underlying 3 = some (.int .i64) := by kernel_rfl
    unfold Cell.ok at hok
    rw [hund] at hok
    clear hund h e1 k1 k3 e3
    revert hok
    generalize cs[0] = v
    intro hok
    cases v with
    | int k n => exact ⟨n, by rw [hok.1]⟩
    | _ => exact False.elim hok
  obtain ⟨z, hz⟩ := hz
  refine ⟨z, ?_, ?_⟩
  · refine ⟨3, (0, 0), e1.trans ?_⟩
    have hcs : cs = ⟨[.int .i64 z]⟩ := by
      apply Array.ext'
      apply List.ext_getElem (by simp; omega)
      intro i h1 h2
      simp at h1
      obtain rfl : i = 0 := by omega
      simpa using hz
    rw [hcs]
  · unfold fullE
    rw [e1]
    simp only
    omega
theorem globAll {W : World} (hL : laidMetH Tryd.prog Rows.keysParseRow.laid W) (hS : W.ShapedOpen Tryd.prog) : GlobOk X0 W (topG W) := by
  obtain ⟨hN, hP⟩ := laidFacts hL
  obtain ⟨z, hz, hz1⟩ := maxLenIs hS
  refine ⟨fun _ => z, fun k cs hk => ?_⟩
  rcases hk with hk | ⟨hk, rfl⟩
  · simp only [X0] at hk
    split at hk
    · rename_i e
      subst e
      cases hk
      obtain ⟨T, fz, hb⟩ := var_block gNames hN
      refine ⟨topG_own hb, _, T, fz, hb, ptd_strs W (topG W).e nameStrs, ?_⟩
      show _ ≤ fullE W _
      rw [full_var gNames hN]
      decide
    · split at hk
      · rename_i e
        subst e
        cases hk
        obtain ⟨T, fz, hb⟩ := var_block gPow hP
        refine ⟨topG_own hb, _, T, fz, hb, ptd_ints W (topG W).e .u64 Lib.pow10Tab, ?_⟩
        show _ ≤ fullE W _
        rw [full_var gPow hP]
        simp [globPow]
      · cases hk
  · simp only [X0, List.mem_singleton] at hk
    subst hk
    obtain ⟨T, fz, hb⟩ := hz
    exact ⟨topG_own hb, _, T, fz, hb, ptd_ints W (topG W).e .i64 [z], hz1⟩
end Go.Proofs.YtnmabjamkpmkcaaDoor.Keys
/- Keys: keys.Record answers by its walk; the context above is sound. -/
set_option linter.unusedVariables false
set_option linter.unusedSimpArgs false
namespace Go.Proofs.YtnmabjamkpmkcaaDoor.Keys
open Go Go.RowKit Pv G
/-- What is known of the package-level variables holds later, too, and by what there is of each block. -/
theorem strs_vals {w : World} {e : Nat → Nat} : ∀ {ss : List (List UInt8)} {vals : List Value}, PtD w e vals (ss.map D.str) → vals = ss.map fun s => .string ⟨s.toArray⟩
  | [], vals, h => List.eq_nil_of_length_eq_zero (by simpa using h.1)
  | s :: ss, [], h => by have := h.1; simp at this
  | s :: ss, v :: vals, h => by
    have h0 := h.2 0 v _ rfl rfl
    cases h0
    rw [strs_vals (ss := ss) (vals := vals) ⟨by simpa using h.1, fun j u d a b => h.2 (j + 1) u d (by simpa using a) (by simpa using b)⟩]
    rfl
theorem glob_top {w W : World} {g : Gh} (hg : GlobOk X0 w g) (hb : Below w.heap.size w W) : GlobOk X0 W (topG W) := by
  obtain ⟨ms, h⟩ := hg
  have blk : ∀ k o, w.heap[k]? = some o → W.heap[k]? = some o := fun k o hk => (hb.block k (Array.getElem?_eq_some_iff.1 hk).1).trans hk
  have full : ∀ (k : Nat) (vals : List Value) T fz, W.heap[k]? = some (.cells ⟨vals⟩ T fz) → fullE W k = vals.length := fun k vals T fz hk => by unfold fullE; rw [hk]; rfl
  refine ⟨ms, fun k cs hk => ?_⟩
  obtain ⟨_, vals, T, fz, h1, h2, h3⟩ := h k cs hk
  have h1' := blk k _ h1
  refine ⟨topG_own h1', vals, T, fz, h1', ?_, ?_⟩
  · rcases hk with hk | ⟨hk, rfl⟩
    · simp only [X0] at hk
      split at hk
      · cases hk
        rw [strs_vals (ss := nameStrs) h2]
        exact ptd_strs _ _ nameStrs
      · split at hk
        · cases hk
          rw [ints_of h2]
          exact ptd_ints _ _ .u64 Lib.pow10Tab
        · cases hk
    · have := ints_of (k := .i64) (zs := [ms k]) h2
      rw [this]
      exact ptd_ints _ _ .i64 [ms k]
  · show cs.length ≤ fullE W k
    rw [full k vals T fz h1', h2.1]
    exact Nat.le_refl _
/-- A key's line, as a call. -/
theorem lineCall (w n : Int) (t : Str) (ht : t.length ≤ 1000) (k0 : -9223372036854775808 ≤ n) (k1 : n ≤ 9223372036854775807) (W : World) (hg : GlobOk X0 W (topG W)) :
    Calls Tryd.prog FLn #[.agg #[.int .i64 w, .int .i64 n, .string ⟨t.toArray⟩]] W fun e W' => e = .returned (.string ⟨(lineS w n t).toArray⟩) ∧ Below W.heap.size W W' := by
  obtain ⟨K, hK⟩ := lineR w n t ht k0 k1
  have hf : Fresh (topG W) W := fun b hb => ⟨by simp only [topG]; rw [if_neg (by omega)], by simp only [topG, fullE]; rw [Array.getElem?_eq_none hb]⟩
  have hp : PtV X0 W (topG W) [.agg #[.int .i64 w, .int .i64 n, .string ⟨t.toArray⟩]] [.d (keyD w n t)] := by
    refine ⟨rfl, fun j v x h1 h2 => ?_⟩
    match j with
    | 0 =>
      simp at h1 h2
      subst h1
      subst h2
      refine .d _ _ _ (.agg [_, _, _] _ rfl fun j v d a b => ?_)
      match j with
      | 0 => simp at a b; subst a; subst b; exact .int _ _
      | 1 => simp at a b; subst a; subst b; exact .int _ _
      | 2 => simp at a b; subst a; subst b; exact .str _
      | j + 3 => simp at a
    | j + 1 => simp at h1
  obtain ⟨fn, _, _, _, hc⟩ := (callN_ok (X := X0) (fun _ => rfl) ext0_ok ext0_pure ext0_iok FUEL K).1 FLn _ _ (hK K (Nat.le_refl K)) rfl W (topG W) _ hf hg hp (.slot 0) ⟨0, 0, 0, .inl rfl⟩
  refine hc.mono ?_
  rintro E w' ⟨v, g', rfl, hk, hv⟩
  refine ⟨?_, hk.below⟩
  cases hv with | d _ _ _ hv => cases hv; rfl
theorem lineK_ne (k : Key) (ht : k.2.2.1.length ≤ 1000) (k0 : -9223372036854775808 ≤ k.2.1) (k1 : k.2.1 ≤ 9223372036854775807) : lineK k ≠ [] ↔ hasK k = true := by
  unfold lineK hasK
  constructor
  · intro h
    cases hb : hasB k.1 k.2.1 k.2.2.1 with
    | true => rfl
    | false => exact absurd (by unfold lineS; rw [hb]; rfl) h
  · intro hb e
    have := (line_facts k.1 k.2.1 k.2.2.1 ht k0 k1 hb).2.2.1
    rw [e] at this
    exact absurd this (by decide)
theorem nth_get (l : List Key) (i : Nat) (hi : i < l.length) : keyT.nth l i = l[i] := by simp [Ty.nth, List.getD_eq_getElem?_getD, List.getElem?_eq_getElem hi]
theorem accL_flat (l : List Key) : ∀ i, i ≤ l.length → accL (fun i => lineK (keyT.nth l i)) i = (l.take i).flatMap (fun k => lineK k ++ [10])
  | 0, _ => by simp [accL]
  | i + 1, hi => by
    have ih := accL_flat l i (by omega)
    have hd : l.take (i + 1) = l.take i ++ [l[i]] := by rw [List.take_add_one, List.getElem?_eq_getElem (by omega)]; rfl
    rw [accL, ih, hd, List.flatMap_append, nth_get l i (by omega)]
    simp
theorem recL_recS (l : List Key) (ht : okTs l) : recL (fun i => lineK (keyT.nth l i)) l.length = recS l := by
  have key : (∀ i, i < l.length → lineK (keyT.nth l i) ≠ []) ↔ l.all hasK = true := by
    rw [List.all_eq_true]
    constructor
    · intro h k hk
      obtain ⟨i, hi, e⟩ := List.getElem_of_mem hk
      obtain ⟨t1, t2, t3⟩ := ht i hi
      have := (lineK_ne (keyT.nth l i) (Nat.le_trans t1 (by omega)) t2 t3).1 (h i hi)
      rw [nth_get l i hi, e] at this
      exact this
    · intro h i hi
      obtain ⟨t1, t2, t3⟩ := ht i hi
      refine (lineK_ne (keyT.nth l i) (Nat.le_trans t1 (by omega)) t2 t3).2 ?_
      rw [nth_get l i hi]
      exact h _ (List.getElem_mem hi)
  unfold recL recS
  by_cases h : l.all hasK = true
  · rw [if_pos (key.2 h), if_pos h, accL_flat l l.length (Nat.le_refl _), List.take_length]
  · rw [if_neg (fun x => h (key.1 x)), if_neg h]
theorem flat_at (l : List Key) : ∀ i j, i < l.length → j < 3 → (l.flatMap keyT.enc)[i * 3 + j]? = (keyT.enc (keyT.nth l i))[j]? := by
  induction l with
  | nil => intro i j hi; simp at hi
  | cons k l ih =>
    intro i j hi hj
    have h3 : (keyT.enc k).length = 3 := rfl
    rw [List.flatMap_cons]
    cases i with
    | zero =>
      rw [List.getElem?_append_left (by rw [h3]; omega)]
      simp [Ty.nth]
    | succ i =>
      rw [List.getElem?_append_right (by rw [h3]; omega), h3, show (i + 1) * 3 + j - 3 = i * 3 + j by omega, ih i j (by simpa using hi) hj]
      simp [Ty.nth]
theorem ext_rec (l : List Key) : ExtOk1 X0 FRec (extRec l) := by
  intro ds y hy w g vargs hf hg hp p hpos
  unfold extRec at hy
  split at hy
  · rename_i hc
    cases hy
    obtain ⟨rfl, ht, hl⟩ := hc
    obtain ⟨v, rfl, hv⟩ := ptd1 hp
    refine run_of Tryd.func18 (by kernel_rfl) rfl ?_
    have hlines : ∀ i, i < l.length → ∀ W, Below w.heap.size w W → Calls Tryd.prog 11 #[.agg #[.int .i64 (kW l i), .int .i64 (kN l i), .string ⟨(kT l i).toArray⟩]] W fun e W' => e = .returned (.string ⟨(lineK (keyT.nth l i)).toArray⟩) ∧ Below W.heap.size W W' := by
      intro i hi W hb
      obtain ⟨t1, t2, t3⟩ := ht i hi
      exact lineCall (kW l i) (kN l i) (kT l i) (by omega) t2 t3 W (glob_top hg hb)
    have hlens : ∀ i, i < l.length → (lineK (keyT.nth l i)).length ≤ 10000 := by
      intro i hi
      obtain ⟨t1, t2, t3⟩ := ht i hi
      cases hb : hasK (keyT.nth l i) with
      | true => have := (line_facts (kW l i) (kN l i) (kT l i) (by omega) t2 t3 hb).1; exact Nat.le_trans this (by omega)
      | false =>
        have : lineK (keyT.nth l i) = [] := by unfold lineK lineS; unfold hasK at hb; rw [hb]; rfl
        rw [this]; simp
    have fin : ∀ a c b o, v = .slice a l.length c → (0 < l.length → a = some ⟨b, o, none⟩ ∧ b < w.heap.size) → (∀ i, i < l.length → w.cell? ⟨b, o + i * 3, none⟩ = some (.int .i64 (kW l i)) ∧ w.cell? ⟨b, o + i * 3 + 1, none⟩ = some (.int .i64 (kN l i)) ∧ w.cell? ⟨b, o + i * 3 + 2, none⟩ = some (.string ⟨(kT l i).toArray⟩)) →
        Calls Tryd.prog 18 ⟨[v]⟩ w fun E w' => ∃ v g', E = .returned v ∧ Keep g w g' w' ∧ RepV X0 w' g' p v (.d (.str (recS l))) := by
      intro a c b o hv ha hcell
      subst hv
      refine (record_walk a b o l.length c (kW l) (kN l) (kT l) (fun i => lineK (keyT.nth l i)) w (by omega) ha hcell hlines hlens).mono ?_
      rintro E w' ⟨rfl, hb⟩
      refine ⟨_, g, rfl, keep_below hf hb, ?_⟩
      rw [recL_recS l ht]
      exact .d _ _ _ (.str _)
    generalize hd : keyT.slD l = d at hv
    cases hv with
    | sl b o n c cells vals hn hvl he hcc hr =>
      simp only [Ty.slD, D.sl.injEq] at hd
      obtain ⟨rfl, rfl⟩ := hd
      have h3 : (l.flatMap keyT.enc).length = l.length * 3 := flat_len _ 3 (Ty.enc_length keyT) l
      refine fin _ c b o rfl (fun h0 => ⟨rfl, ?_⟩) (fun i hi => ?_)
      · apply Classical.byContradiction
        intro hge
        have := (hf b (by omega)).2
        omega
      · have one : ∀ j, j < 3 → ∀ d, (keyT.enc (keyT.nth l i))[j]? = some d → ∃ u, w.cell? ⟨b, o + i * 3 + j, none⟩ = some u ∧ RepD w g.e u d := by
          intro j hj d hd
          have hlt : i * 3 + j < vals.length := by rw [hvl, h3]; omega
          have hc := hcc (i * 3 + j) vals[i * 3 + j] (List.getElem?_eq_getElem hlt)
          rw [← Nat.add_assoc] at hc
          exact ⟨_, hc, hr (i * 3 + j) _ d (List.getElem?_eq_getElem hlt) (by rw [flat_at l i j hi hj]; exact hd)⟩
        obtain ⟨u0, a0, b0⟩ := one 0 (by omega) _ rfl
        obtain ⟨u1, a1, b1⟩ := one 1 (by omega) _ rfl
        obtain ⟨u2, a2, b2⟩ := one 2 (by omega) _ rfl
        cases b0
        cases b1
        cases b2
        exact ⟨a0, a1, a2⟩
    | sl0 a c h =>
      simp only [Ty.slD, D.sl.injEq] at hd
      have : l.length = 0 := hd.2
      exact fin a c 0 0 (by rw [this]) (fun h => by omega) (fun i hi => by omega)
    | _ => cases hd
  · cases hy
theorem extOk1 (l : List Key) : ExtOk (X1 l) := extOk_up (fun _ => rfl) ext0_ok ext0_pure ext0_iok fun f F hF => by
  unfold exKB at hF
  split at hF
  · rename_i e; subst e; cases hF; exact ext_rec l
  · cases hF
theorem extPure1 (l : List Key) : ExtPure (X1 l) := extPure_up fun f F hF ds y hy => by
  unfold exKB at hF
  split at hF
  · cases hF
    unfold extRec at hy
    split at hy
    · cases hy; rfl
    · cases hy
  · cases hF
theorem law_calls1 (l : List Key) {f : FuncId} {vs : List V} {vargs : List Value} {b : Bool} (run : Ans (X1 l) f vs (.d (.bool b))) (hp : vs.all V.pure = true) {W : World} (hg : GlobOk X0 W (topG W)) (hr : PtV X0 W (topG W) vargs vs) :
    Calls Tryd.prog f ⟨vargs⟩ W fun E W' => E = .returned (.bool b) ∧ Below W.heap.size W W' := by
  obtain ⟨K, hK⟩ := run
  have hf : Fresh (topG W) W := fun b hb => ⟨by simp only [topG]; rw [if_neg (by omega)], by simp only [topG, fullE]; rw [Array.getElem?_eq_none hb]⟩
  have hr' : PtV (X1 l) W (topG W) vargs vs := ⟨hr.1, fun j v x a b => RepV.ctx (X := X0) (Y := X1 l) rfl (hr.2 j v x a b)⟩
  obtain ⟨fn, _, _, _, hc⟩ := (callN_ok (X := X1 l) (fun _ => rfl) (extOk1 l) (extPure1 l) extIOk_up FUEL K).1 f vs _ (hK K (Nat.le_refl K)) hp W (topG W) vargs hf hg hr' (.slot 0) ⟨0, 0, 0, .inl rfl⟩
  refine hc.mono ?_
  rintro E w' ⟨v, g', rfl, hk, hv⟩
  refine ⟨?_, hk.below⟩
  cases hv with | d _ _ _ hv => cases hv; rfl
end Go.Proofs.YtnmabjamkpmkcaaDoor.Keys
/- bodkin: the law KeysBack, from its run to its card: for every input it returns true and its arguments read as before. -/
set_option linter.unusedSimpArgs false
set_option linter.unusedVariables false
namespace Go.Proofs.YtnmabjamkpmkcaaDoor.keysBack
open Go Go.ChangeShapes Go.WideShapes Go.ChangeAt Go.RowKit Pv G
abbrev T0 : Ty := .sl (.st (.cons (.int .i64) (.cons (.int .i64) (.cons .str .nil))))
def Law : Prop := ∀ (y0 : T0.ty), T0.ok y0 → Ans (Keys.X1 y0) 6 [.d (T0.argD y0)] (.d (.bool true))
theorem law : Law := fun l ok => by
  show Ans (Keys.X1 l) 6 [.d (Keys.keyT.slD l)] (.d (.bool true))
  have hr : List.length (α := Keys.Key) l ≤ reachBytes := ok.1
  have hn : ∀ i, i < List.length (α := Keys.Key) l → -9223372036854775808 ≤ Keys.kN l i ∧ Keys.kN l i ≤ 9223372036854775807 := by
    intro i hi
    have h1 := ok.2 (Keys.keyT.nth l i) (by rw [Keys.nth_get l i hi]; exact List.getElem_mem hi)
    have := h1.2.1
    have h2 : -9223372036854775808 ≤ (Keys.keyT.nth l i).2.1 ∧ (Keys.keyT.nth l i).2.1 ≤ 9223372036854775807 := by simpa [Ty.ok, Lit.wf, IntKind.min, IntKind.max, IntKind.bits, IntKind.signed] using this
    exact h2
  by_cases hl : 60 < List.length (α := Keys.Key) l
  · exact Keys.lawB0 l hl (by unfold reachBytes at hr; omega)
  · have hl' : List.length (α := Keys.Key) l ≤ 60 := by omega
    by_cases hj : ∃ j, j < List.length (α := Keys.Key) l ∧ 100 < (Keys.kT l j).length
    · exact Keys.lawBL l hl' ⟨hj, hn⟩
    · have ht : Keys.okTs l := fun i hi => ⟨by
        apply Classical.byContradiction
        intro h
        exact hj ⟨i, hi, by omega⟩, hn i hi⟩
      cases ha : Keys.kbAll l with
      | true =>
        have hA : l.all Keys.hasK = true := by rw [← Keys.kb_all]; exact ha
        obtain ⟨a, b⟩ := Keys.rec_back l ht hA
        exact Keys.lawBY l hl' (by omega) ht ha (by rw [Keys.kb_want l hA]; simp) (Keys.rec_len l hl' ht hA) a b
      | false =>
        refine Keys.lawBN l hl' ht ha ?_
        have hA : ¬ l.all Keys.hasK = true := by rw [← Keys.kb_all, ha]; simp
        unfold Keys.recS
        rw [if_neg hA]
        rfl
theorem own : ownKnob Tryd.prog.godebug = none := by kernel_rfl
set_option maxRecDepth 100000 in
theorem contract (H : Type) (enc : TypeId × Value → H) (W : World) (base : Nat) (args : Array Value) (ds gs : List (DataW H)) (before : List MemPlace)
    (hval : ∀ (j : Nat) t v, Tryd.f6.params[j]? = some t → args[j]? = some v → Value.okWide Tryd.prog W .any base t v)
    (hW : DataW.Whole enc Tryd.prog Tryd.f6.params.toList Rows.keysBackSpec.vars false W args.toList ds gs before)
    (hsz : (DataW.weightsEach Tryd.prog (Tryd.f6.params.toList ++ Rows.keysBackSpec.plain.varTypes Tryd.prog) (ds ++ gs)).all (· ≤ reachBytes) = true)
    (hL : laidMetH Tryd.prog Rows.keysBackRow.laid W) (hS : W.ShapedOpen Tryd.prog) :
    Calls Tryd.prog 6 args W fun e W' => ∃ v, e = .returned v ∧ Rows.keysBackSpec.post enc Tryd.prog Tryd.f6 false true false false W args v W' := by
  have hW' := hW
  have hlt := hW.lt
  obtain ⟨p, q, hA0, hV, rfl, hfz, hnd⟩ := hW
  have hA : DataW.TrodAll enc Tryd.prog W 0 (fun _ => true) true Tryd.f6.params.toList args.toList ds p := hA0
  rw [Tryd.params6] at hA hval hsz
  obtain ⟨v0, vs0, d0, ds0, p0, q0, hargs, rfl, rfl, h0, r0⟩ := trodAll_cons hA
  obtain ⟨rfl, rfl, rfl⟩ := trodAll_nil r0
  obtain rfl : args = #[v0] := by cases args; simp_all
  obtain ⟨rfl, rfl⟩ := trodVars_none hV
  obtain ⟨y0, o0, e0⟩ := open_arg (T := T0) (by kernel_rfl) (hval 0 _ v0 rfl rfl) h0 (fun n hn => of_decide_eq_true (List.all_eq_true.1 hsz n (DataW.weights_mem_each (j := 0) rfl rfl n hn)))
  have hp : PtV X0 W (topG W) [v0] [.d (T0.argD y0)] := by
    refine ⟨rfl, fun j v x k1 k2 => ?_⟩
    match j with
    | 0 => simp at k1 k2; subst k1; subst k2; exact e0 _ _
    | j + 1 => simp at k1
  clear hA0
  simp only [List.append_nil] at hW'
  refine (Keys.law_calls1 y0 (law y0 o0) rfl (Keys.globAll hL hS) hp).mono fun e W' ⟨he, hb⟩ => ?_
  subst he
  exact ⟨_, rfl, post_of_below (pa := _) (pv := []) hW' (fun _ _ _ => trodAll_cons_mk (shut_bool Tryd.underlying4 _) trodAll_mk0)
    (fun sp hsp => (trodAll_cons_mk (WideElems.Trod_stays (by kernel_rfl) (by kernel_rfl) (of_decide_eq_true (by kernel_rfl)) h0 (fun x hx => hb.same (hlt x (by simp [hx]))) (fun x hx => hsp x (by simp [hx]))) trodAll_mk0))
    (fun _ _ => rfl) (by simp) hb (ok_one (by kernel_rfl) rfl (okWide_bool_mk Tryd.underlying4 _))⟩

/-- A datum's cells. -/
def flatW : Nat → DataW Unit → List Value
  | _, .lit (.int k n) => [.int k n]
  | _, .lit (.string s) => [.string ⟨s.toArray⟩]
  | f + 1, .agg ds => ds.flatMap (flatW f)
  | _, _ => []
/-- A variable's cells, laid. -/
def layAt (h : Array Obj) (g : Option Nat) (cs : Array Value) : Array Obj :=
  match g with
  | some g => h.modify g (fun o => match o with
    | .cells _ t frozen => .cells cs t frozen
    | o => o)
  | none => h
/-- A world for the witness: each listed variable holds what is listed. -/
noncomputable def laidWorld (os : Os) : World :=
  { World.holding Tryd.prog os ⟨#[], #[], []⟩ with heap := Rows.keysBackRow.laid.foldl (fun h x => layAt h (Tryd.prog.globalNamed x.1) (flatW 3 x.2).toArray) (World.holding Tryd.prog os ⟨#[], #[], []⟩).heap }
abbrev argW : Array Value := #[.slice none 0 0]
theorem laid_met (os : Os) : laidMet Tryd.prog Rows.keysBackRow.laid ((laidWorld os).forCall (fun _ _ => 0) ⟨#[], argW, []⟩).memory :=
  laidMet_of_run3 8 (by kernel_rfl) (by kernel_rfl) (by kernel_rfl)
theorem reads (os : Os) {H : Type} (enc : TypeId × Value → H) : ∃ places, DataW.whole enc Tryd.prog ((laidWorld os).forCall (fun _ _ => 0) ⟨#[], argW, []⟩).memory Tryd.f6.params.toList Rows.keysBackSpec.vars false argW.toList 8 = some ([.nil], [], places) :=
  ⟨[], by kernel_rfl⟩
set_option maxRecDepth 100000 in
theorem lifted (os : Os) (started : os.Started) (H : Type) (enc : TypeId × Value → H) (F : Stop.Interp) :
    ReturnsInHanded {} Tryd.checked os 6 .any ((OpenSpec.ofChange Rows.keysBackSpec).preRow enc Tryd.prog Tryd.f6 Rows.keysBackRow.domain false Rows.keysBackRow.laid) (((OpenSpec.ofChange Rows.keysBackSpec).at F).post enc Tryd.prog Tryd.f6 false true false false) := by
  obtain ⟨places, hx⟩ := reads os enc
  refine returnsInHanded_of_row (C := Tryd.checked) (s := OpenSpec.ofChange Rows.keysBackSpec) own started (by kernel_rfl) Tryd.func6
    (witness_row_at (enc := enc) (C := Tryd.checked) false (laidWorld os) argW rfl (by kernel_rfl) (by kernel_rfl) (by kernel_rfl)
      (OpenSpec.preRow_of_cond 8 hx (by kernel_rfl) (fun k hk => by cases hk) (by kernel_rfl) (laid_met os))) ?_
  intro W base args ds gs before hval hW _ _ hsz hL hS _
  exact contract H enc W base args ds gs before hval hW hsz hL hS
theorem said : Rows.KeysBackSaid :=
  OpenClaim.holds_of_cond 6 Tryd.f6 rfl rfl rfl rfl rfl rfl rfl ⟨rfl, rfl, rfl, rfl, rfl⟩ rfl rfl rfl rfl rfl (by kernel_rfl) Tryd.func6 (by kernel_rfl)
    (of_decide_eq_true (by kernel_rfl)) (by unfold Func.isWrapper; first | (rw [if_pos (by decide +kernel)]; kernel_rfl) | (rw [if_neg (by decide +kernel)]; exact ⟨rfl, rfl⟩))
    (fun os started H enc _ F => by rw [OpenClaim.pre_eq_preRow]; exact lifted os started H enc F)
theorem plain (f : FuncId) (fn : Func) (hf : Tryd.pinned.checked.prog.funcNamed "bodkin/bodkinlaw46.KeysBack" = some f) (hfn : Tryd.pinned.checked.prog.funcs[f]? = some fn) :
    false = Tryd.pinned.checked.prog.looks [] ∧ ∀ (j : Nat) t, fn.params[j]? = some t → Tryd.pinned.checked.prog.wantsStandIn t = false := by
  obtain rfl : f = 6 := Option.some.inj ((show Tryd.prog.funcNamed "bodkin/bodkinlaw46.KeysBack" = some 6 by kernel_rfl).symm.trans hf) |>.symm
  obtain rfl : fn = Tryd.f6 := (Option.some.inj (Tryd.func6.symm.trans hfn)).symm
  refine ⟨by kernel_rfl, fun j t ht => ?_⟩
  rw [Tryd.params6] at ht
  obtain rfl : t = 36 := by simpa using Array.mem_of_getElem? ht
  exact (show Tryd.prog.wantsStandIn 36 = false by kernel_rfl)
/-- KeysBack: for every input it returns true. -/
theorem holds : Rows.KeysBackCardSaid :=
  Claim7.holds_tied_plain_at .later [] _ _ _ _ said (fun _ h => by cases h) (by kernel_rfl) (fun _ h => by cases h) keysBack_row_tie rfl ⟨rfl, rfl⟩ (by kernel_rfl) rfl plain (by kernel_rfl)
end Go.Proofs.YtnmabjamkpmkcaaDoor.keysBack
