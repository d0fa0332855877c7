/- Lemmas for the law ScriptParsesLaw: texts of mine, merged. -/
import Derived.Test.YtgiahagbmgnmkaaDoorRows
import Derived.Lib.LaidTab
import Derived.FnData
import Derived.Test.YtgiahagbmgnmkaaDoorMScriptParsesLaw4
/- Script: paths, printed by a program of mine. -/
set_option maxRecDepth 100000
set_option linter.unusedSimpArgs false
set_option linter.unusedVariables false
namespace Go.Proofs.YtgiahagbmgnmkaaDoor.Script
open Go Pv G
set_option maxHeartbeats 4000000 in
theorem rb1 : rb1_T := by
  intro w hl
  have h0 : (decide ((↑(ByteArray.size { data := (List.toArray w) }) : Int) > (0 : Int))) = false := by (first | assumption | (((try simp only [SA] at *); (try simp (disch := omega) only [SB, reduceCtorEq] at *)) <;> first | omega | assumption | (refine ⟨?_, ?_⟩ <;> assumption) | (refine ⟨?_, ?_, ?_⟩ <;> assumption) | (intros; assumption) | (right; right; assumption) | (right; left; assumption) | (left; assumption)))
  have h1 : ((↑(ByteArray.size { data := (List.toArray w) }) : Int) == (0 : Int)) = true := by (first | assumption | (((try simp only [SA] at *); (try simp (disch := omega) only [SB, reduceCtorEq] at *)) <;> first | omega | assumption | (refine ⟨?_, ?_⟩ <;> assumption) | (refine ⟨?_, ?_, ?_⟩ <;> assumption) | (intros; assumption) | (right; right; assumption) | (right; left; assumption) | (left; assumption)))
  exact pV 12 [(2, bf), (3, bf), (4, bf), (5, bf), (9, bt), (10, bt), (11, bt), (12, bt)] (cP h1 (cP h1 (cP h1 (cP h1 (cP h0 (cP h0 (cP h0 (cP h0 nilE)))))))) (by kernel_rfl) rfl rfl
set_option maxHeartbeats 4000000 in
theorem rb2 : rb2_T := by
  intro w v h0 hm hv hl
  have h0 : (decide ((↑(ByteArray.size { data := (List.toArray w) }) : Int) > (0 : Int))) = true := by (first | assumption | (((try simp only [SA] at *); (try simp (disch := omega) only [SB, reduceCtorEq] at *)) <;> first | omega | assumption | (refine ⟨?_, ?_⟩ <;> assumption) | (refine ⟨?_, ?_, ?_⟩ <;> assumption) | (intros; assumption) | (right; right; assumption) | (right; left; assumption) | (left; assumption)))
  have h1 : ((byteAt w (Int.toNat (0 : Int))) == (45 : Int)) = true := by (first | assumption | (((try simp only [SA] at *); (try simp (disch := omega) only [SB, reduceCtorEq] at *)) <;> first | omega | assumption | (refine ⟨?_, ?_⟩ <;> assumption) | (refine ⟨?_, ?_, ?_⟩ <;> assumption) | (intros; assumption) | (right; right; assumption) | (right; left; assumption) | (left; assumption)))
  have h2 : ((↑(ByteArray.size { data := (List.toArray v) }) : Int) == (0 : Int)) = true := by (first | assumption | (((try simp only [SA] at *); (try simp (disch := omega) only [SB, reduceCtorEq] at *)) <;> first | omega | assumption | (refine ⟨?_, ?_⟩ <;> assumption) | (refine ⟨?_, ?_, ?_⟩ <;> assumption) | (intros; assumption) | (right; right; assumption) | (right; left; assumption) | (left; assumption)))
  exact pV 12 [(2, bt), (3, bt), (4, .v (V.d (D.int IntKind.u8 (byteAt w (Int.toNat (0 : Int)))))), (5, bt), (7, bt), (8, bt), (9, .v (V.d (D.str v))), (12, bt), (13, bt), (14, bt), (15, bt)] (cP h2 (cP h2 (cP h2 (cP h2 (cP (@sliceOneE (w) (v) (by (first | assumption | (((try simp only [SA] at *); (try simp (disch := omega) only [SB, reduceCtorEq] at *)) <;> first | omega | assumption | (refine ⟨?_, ?_⟩ <;> assumption) | (refine ⟨?_, ?_, ?_⟩ <;> assumption) | (intros; assumption) | (right; right; assumption) | (right; left; assumption) | (left; assumption)))) hv) (cP h1 (cP h0 (cP h0 (cP (@indexStr (w) ((0 : Int)) (by (first | assumption | (((try simp only [SA] at *); (try simp (disch := omega) only [SB, reduceCtorEq] at *)) <;> first | omega | assumption | (refine ⟨?_, ?_⟩ <;> assumption) | (refine ⟨?_, ?_, ?_⟩ <;> assumption) | (intros; assumption) | (right; right; assumption) | (right; left; assumption) | (left; assumption)))) (by (first | assumption | (((try simp only [SA] at *); (try simp (disch := omega) only [SB, reduceCtorEq] at *)) <;> first | omega | assumption | (refine ⟨?_, ?_⟩ <;> assumption) | (refine ⟨?_, ?_, ?_⟩ <;> assumption) | (intros; assumption) | (right; right; assumption) | (right; left; assumption) | (left; assumption))))) (cP h0 (cP h0 nilE))))))))))) (by kernel_rfl) rfl rfl
set_option maxHeartbeats 4000000 in
theorem rb3 : rb3_T := by
  intro w v h0 hm hv hl
  have h0 : (decide ((↑(ByteArray.size { data := (List.toArray w) }) : Int) > (0 : Int))) = true := by (first | assumption | (((try simp only [SA] at *); (try simp (disch := omega) only [SB, reduceCtorEq] at *)) <;> first | omega | assumption | (refine ⟨?_, ?_⟩ <;> assumption) | (refine ⟨?_, ?_, ?_⟩ <;> assumption) | (intros; assumption) | (right; right; assumption) | (right; left; assumption) | (left; assumption)))
  have h1 : ((byteAt w (Int.toNat (0 : Int))) == (45 : Int)) = true := by (first | assumption | (((try simp only [SA] at *); (try simp (disch := omega) only [SB, reduceCtorEq] at *)) <;> first | omega | assumption | (refine ⟨?_, ?_⟩ <;> assumption) | (refine ⟨?_, ?_, ?_⟩ <;> assumption) | (intros; assumption) | (right; right; assumption) | (right; left; assumption) | (left; assumption)))
  have h2 : ((↑(ByteArray.size { data := (List.toArray v) }) : Int) == (0 : Int)) = false := by (first | assumption | (((try simp only [SA] at *); (try simp (disch := omega) only [SB, reduceCtorEq] at *)) <;> first | omega | assumption | (refine ⟨?_, ?_⟩ <;> assumption) | (refine ⟨?_, ?_, ?_⟩ <;> assumption) | (intros; assumption) | (right; right; assumption) | (right; left; assumption) | (left; assumption)))
  have h3 : (decide ((↑(ByteArray.size { data := (List.toArray v) }) : Int) > (12 : Int))) = true := by (first | assumption | (((try simp only [SA] at *); (try simp (disch := omega) only [SB, reduceCtorEq] at *)) <;> first | omega | assumption | (refine ⟨?_, ?_⟩ <;> assumption) | (refine ⟨?_, ?_, ?_⟩ <;> assumption) | (intros; assumption) | (right; right; assumption) | (right; left; assumption) | (left; assumption)))
  exact pV 12 [(2, bt), (3, bt), (4, .v (V.d (D.int IntKind.u8 (byteAt w (Int.toNat (0 : Int)))))), (5, bt), (7, bt), (8, bt), (9, .v (V.d (D.str v))), (12, bf), (13, bf), (15, bf), (17, bf), (18, bt)] (cP h3 (cP h2 (cP h2 (cP h2 (cP h2 (cP (@sliceOneE (w) (v) (by (first | assumption | (((try simp only [SA] at *); (try simp (disch := omega) only [SB, reduceCtorEq] at *)) <;> first | omega | assumption | (refine ⟨?_, ?_⟩ <;> assumption) | (refine ⟨?_, ?_, ?_⟩ <;> assumption) | (intros; assumption) | (right; right; assumption) | (right; left; assumption) | (left; assumption)))) hv) (cP h1 (cP h0 (cP h0 (cP (@indexStr (w) ((0 : Int)) (by (first | assumption | (((try simp only [SA] at *); (try simp (disch := omega) only [SB, reduceCtorEq] at *)) <;> first | omega | assumption | (refine ⟨?_, ?_⟩ <;> assumption) | (refine ⟨?_, ?_, ?_⟩ <;> assumption) | (intros; assumption) | (right; right; assumption) | (right; left; assumption) | (left; assumption)))) (by (first | assumption | (((try simp only [SA] at *); (try simp (disch := omega) only [SB, reduceCtorEq] at *)) <;> first | omega | assumption | (refine ⟨?_, ?_⟩ <;> assumption) | (refine ⟨?_, ?_, ?_⟩ <;> assumption) | (intros; assumption) | (right; right; assumption) | (right; left; assumption) | (left; assumption))))) (cP h0 (cP h0 nilE)))))))))))) (by kernel_rfl) rfl rfl
set_option maxHeartbeats 4000000 in
theorem rb4 : rb4_T := by
  intro w v h0 hm hv h1 hl hn
  have h0 : (decide ((↑(ByteArray.size { data := (List.toArray w) }) : Int) > (0 : Int))) = true := by (first | assumption | (((try simp only [SA] at *); (try simp (disch := omega) only [SB, reduceCtorEq] at *)) <;> first | omega | assumption | (refine ⟨?_, ?_⟩ <;> assumption) | (refine ⟨?_, ?_, ?_⟩ <;> assumption) | (intros; assumption) | (right; right; assumption) | (right; left; assumption) | (left; assumption)))
  have h1 : ((byteAt w (Int.toNat (0 : Int))) == (45 : Int)) = true := by (first | assumption | (((try simp only [SA] at *); (try simp (disch := omega) only [SB, reduceCtorEq] at *)) <;> first | omega | assumption | (refine ⟨?_, ?_⟩ <;> assumption) | (refine ⟨?_, ?_, ?_⟩ <;> assumption) | (intros; assumption) | (right; right; assumption) | (right; left; assumption) | (left; assumption)))
  have h2 : ((↑(ByteArray.size { data := (List.toArray v) }) : Int) == (0 : Int)) = false := by (first | assumption | (((try simp only [SA] at *); (try simp (disch := omega) only [SB, reduceCtorEq] at *)) <;> first | omega | assumption | (refine ⟨?_, ?_⟩ <;> assumption) | (refine ⟨?_, ?_, ?_⟩ <;> assumption) | (intros; assumption) | (right; right; assumption) | (right; left; assumption) | (left; assumption)))
  have h3 : (decide ((↑(ByteArray.size { data := (List.toArray v) }) : Int) > (12 : Int))) = false := by (first | assumption | (((try simp only [SA] at *); (try simp (disch := omega) only [SB, reduceCtorEq] at *)) <;> first | omega | assumption | (refine ⟨?_, ?_⟩ <;> assumption) | (refine ⟨?_, ?_, ?_⟩ <;> assumption) | (intros; assumption) | (right; right; assumption) | (right; left; assumption) | (left; assumption)))
  exact pV 12 [(2, bt), (3, bt), (4, .v (V.d (D.int IntKind.u8 (byteAt w (Int.toNat (0 : Int)))))), (5, bt), (7, bt), (8, bt), (9, .v (V.d (D.str v))), (12, bf), (13, bf), (15, bf), (17, bf), (18, bf), (19, .l (Ex.ret) (stQr))] (cE (@rqNoL (v) (((-1) : Int)) hl hn) (cP h3 (cP h2 (cP h2 (cP h2 (cP h2 (cP (@sliceOneE (w) (v) (by (first | assumption | (((try simp only [SA] at *); (try simp (disch := omega) only [SB, reduceCtorEq] at *)) <;> first | omega | assumption | (refine ⟨?_, ?_⟩ <;> assumption) | (refine ⟨?_, ?_, ?_⟩ <;> assumption) | (intros; assumption) | (right; right; assumption) | (right; left; assumption) | (left; assumption)))) hv) (cP h1 (cP h0 (cP h0 (cP (@indexStr (w) ((0 : Int)) (by (first | assumption | (((try simp only [SA] at *); (try simp (disch := omega) only [SB, reduceCtorEq] at *)) <;> first | omega | assumption | (refine ⟨?_, ?_⟩ <;> assumption) | (refine ⟨?_, ?_, ?_⟩ <;> assumption) | (intros; assumption) | (right; right; assumption) | (right; left; assumption) | (left; assumption)))) (by (first | assumption | (((try simp only [SA] at *); (try simp (disch := omega) only [SB, reduceCtorEq] at *)) <;> first | omega | assumption | (refine ⟨?_, ?_⟩ <;> assumption) | (refine ⟨?_, ?_, ?_⟩ <;> assumption) | (intros; assumption) | (right; right; assumption) | (right; left; assumption) | (left; assumption))))) (cP h0 (cP h0 nilE))))))))))))) (by kernel_rfl) rfl rfl
set_option maxHeartbeats 4000000 in
theorem rb5 : rb5_T := by
  intro w v h0 hm hv h1 hl hn n0 n1
  have h0 : (decide ((↑(ByteArray.size { data := (List.toArray w) }) : Int) > (0 : Int))) = true := by (first | assumption | (((try simp only [SA] at *); (try simp (disch := omega) only [SB, reduceCtorEq] at *)) <;> first | omega | assumption | (refine ⟨?_, ?_⟩ <;> assumption) | (refine ⟨?_, ?_, ?_⟩ <;> assumption) | (intros; assumption) | (right; right; assumption) | (right; left; assumption) | (left; assumption)))
  have h1 : ((byteAt w (Int.toNat (0 : Int))) == (45 : Int)) = true := by (first | assumption | (((try simp only [SA] at *); (try simp (disch := omega) only [SB, reduceCtorEq] at *)) <;> first | omega | assumption | (refine ⟨?_, ?_⟩ <;> assumption) | (refine ⟨?_, ?_, ?_⟩ <;> assumption) | (intros; assumption) | (right; right; assumption) | (right; left; assumption) | (left; assumption)))
  have h2 : ((↑(ByteArray.size { data := (List.toArray v) }) : Int) == (0 : Int)) = false := by (first | assumption | (((try simp only [SA] at *); (try simp (disch := omega) only [SB, reduceCtorEq] at *)) <;> first | omega | assumption | (refine ⟨?_, ?_⟩ <;> assumption) | (refine ⟨?_, ?_, ?_⟩ <;> assumption) | (intros; assumption) | (right; right; assumption) | (right; left; assumption) | (left; assumption)))
  have h3 : (decide ((↑(ByteArray.size { data := (List.toArray v) }) : Int) > (12 : Int))) = false := by (first | assumption | (((try simp only [SA] at *); (try simp (disch := omega) only [SB, reduceCtorEq] at *)) <;> first | omega | assumption | (refine ⟨?_, ?_⟩ <;> assumption) | (refine ⟨?_, ?_, ?_⟩ <;> assumption) | (intros; assumption) | (right; right; assumption) | (right; left; assumption) | (left; assumption)))
  exact (pV (v := V.d (D.agg [(D.int IntKind.i64 (IntKind.wrap IntKind.i64 (((-1) : Int) * (numR v)))), (D.str []), (D.bool true)])) 12 [(2, bt), (3, bt), (4, .v (V.d (D.int IntKind.u8 (byteAt w (Int.toNat (0 : Int)))))), (5, bt), (7, bt), (8, bt), (9, .v (V.d (D.str v))), (12, bf), (13, bf), (15, bf), (17, bf), (18, bf), (19, .l (Ex.exit (0 : Nat)) (stQx v ((-1) : Int) (numR v) (List.length v)))] (cE (@rqYesL (v) (((-1) : Int)) hl hn) (cP h3 (cP h2 (cP h2 (cP h2 (cP h2 (cP (@sliceOneE (w) (v) (by (first | assumption | (((try simp only [SA] at *); (try simp (disch := omega) only [SB, reduceCtorEq] at *)) <;> first | omega | assumption | (refine ⟨?_, ?_⟩ <;> assumption) | (refine ⟨?_, ?_, ?_⟩ <;> assumption) | (intros; assumption) | (right; right; assumption) | (right; left; assumption) | (left; assumption)))) hv) (cP h1 (cP h0 (cP h0 (cP (@indexStr (w) ((0 : Int)) (by (first | assumption | (((try simp only [SA] at *); (try simp (disch := omega) only [SB, reduceCtorEq] at *)) <;> first | omega | assumption | (refine ⟨?_, ?_⟩ <;> assumption) | (refine ⟨?_, ?_, ?_⟩ <;> assumption) | (intros; assumption) | (right; right; assumption) | (right; left; assumption) | (left; assumption)))) (by (first | assumption | (((try simp only [SA] at *); (try simp (disch := omega) only [SB, reduceCtorEq] at *)) <;> first | omega | assumption | (refine ⟨?_, ?_⟩ <;> assumption) | (refine ⟨?_, ?_, ?_⟩ <;> assumption) | (intros; assumption) | (right; right; assumption) | (right; left; assumption) | (left; assumption))))) (cP h0 (cP h0 nilE))))))))))))) (by kernel_rfl) rfl rfl).to (by ((try simp (disch := omega) only [wrapId, sizeOne, sizeStr, List.length_cons, List.length_nil, wrapU8, toNatAdd, toNatSucc] at *) <;> (try simp only [Int.toNat_natCast, beq_iff_eq, beq_eq_false_iff_ne, bne_iff_ne, bne_eq_false_iff_eq, ne_eq, Int.natCast_eq_zero, Int.natCast_inj] at *) <;> first | (simp (disch := omega) [Ty.enc, wrapId, toNatPred, toNatAdd, toNatSucc, sizeOne, sizeStr, List.length_cons, List.length_nil, wrapU8, ltF, ltT, Ty.slD, *]; done) | (subst_vars; simp (disch := omega) [Ty.enc, wrapId, toNatPred, toNatAdd, toNatSucc, sizeOne, sizeStr, List.length_cons, List.length_nil, wrapU8, ltF, ltT, Ty.slD, *]; done)))
set_option maxHeartbeats 4000000 in
theorem rb6 : rb6_T := by
  intro w hm hl
  have h0 : (decide ((↑(ByteArray.size { data := (List.toArray w) }) : Int) > (0 : Int))) = true := by (first | assumption | (((try simp only [SA] at *); (try simp (disch := omega) only [SB, reduceCtorEq] at *)) <;> first | omega | assumption | (refine ⟨?_, ?_⟩ <;> assumption) | (refine ⟨?_, ?_, ?_⟩ <;> assumption) | (intros; assumption) | (right; right; assumption) | (right; left; assumption) | (left; assumption)))
  have h1 : ((byteAt w (Int.toNat (0 : Int))) == (45 : Int)) = false := by (first | assumption | (((try simp only [SA] at *); (try simp (disch := omega) only [SB, reduceCtorEq] at *)) <;> first | omega | assumption | (refine ⟨?_, ?_⟩ <;> assumption) | (refine ⟨?_, ?_, ?_⟩ <;> assumption) | (intros; assumption) | (right; right; assumption) | (right; left; assumption) | (left; assumption)))
  have h2 : ((↑(ByteArray.size { data := (List.toArray w) }) : Int) == (0 : Int)) = false := by (first | assumption | (((try simp only [SA] at *); (try simp (disch := omega) only [SB, reduceCtorEq] at *)) <;> first | omega | assumption | (refine ⟨?_, ?_⟩ <;> assumption) | (refine ⟨?_, ?_, ?_⟩ <;> assumption) | (intros; assumption) | (right; right; assumption) | (right; left; assumption) | (left; assumption)))
  have h3 : (decide ((↑(ByteArray.size { data := (List.toArray w) }) : Int) > (12 : Int))) = true := by (first | assumption | (((try simp only [SA] at *); (try simp (disch := omega) only [SB, reduceCtorEq] at *)) <;> first | omega | assumption | (refine ⟨?_, ?_⟩ <;> assumption) | (refine ⟨?_, ?_, ?_⟩ <;> assumption) | (intros; assumption) | (right; right; assumption) | (right; left; assumption) | (left; assumption)))
  exact pV 12 [(2, bt), (3, bt), (4, .v (V.d (D.int IntKind.u8 (byteAt w (Int.toNat (0 : Int)))))), (5, bt), (7, bt), (8, bf), (11, bf), (12, bf), (14, bf), (16, bf), (17, bt)] (cP h3 (cP h2 (cP h2 (cP h2 (cP h2 (cP h1 (cP h0 (cP h0 (cP (@indexStr (w) ((0 : Int)) (by (first | assumption | (((try simp only [SA] at *); (try simp (disch := omega) only [SB, reduceCtorEq] at *)) <;> first | omega | assumption | (refine ⟨?_, ?_⟩ <;> assumption) | (refine ⟨?_, ?_, ?_⟩ <;> assumption) | (intros; assumption) | (right; right; assumption) | (right; left; assumption) | (left; assumption)))) (by (first | assumption | (((try simp only [SA] at *); (try simp (disch := omega) only [SB, reduceCtorEq] at *)) <;> first | omega | assumption | (refine ⟨?_, ?_⟩ <;> assumption) | (refine ⟨?_, ?_, ?_⟩ <;> assumption) | (intros; assumption) | (right; right; assumption) | (right; left; assumption) | (left; assumption))))) (cP h0 (cP h0 nilE))))))))))) (by kernel_rfl) rfl rfl
set_option maxHeartbeats 4000000 in
theorem rb7 : rb7_T := by
  intro w h0 hm hl hn
  have h0 : (decide ((↑(ByteArray.size { data := (List.toArray w) }) : Int) > (0 : Int))) = true := by (first | assumption | (((try simp only [SA] at *); (try simp (disch := omega) only [SB, reduceCtorEq] at *)) <;> first | omega | assumption | (refine ⟨?_, ?_⟩ <;> assumption) | (refine ⟨?_, ?_, ?_⟩ <;> assumption) | (intros; assumption) | (right; right; assumption) | (right; left; assumption) | (left; assumption)))
  have h1 : ((byteAt w (Int.toNat (0 : Int))) == (45 : Int)) = false := by (first | assumption | (((try simp only [SA] at *); (try simp (disch := omega) only [SB, reduceCtorEq] at *)) <;> first | omega | assumption | (refine ⟨?_, ?_⟩ <;> assumption) | (refine ⟨?_, ?_, ?_⟩ <;> assumption) | (intros; assumption) | (right; right; assumption) | (right; left; assumption) | (left; assumption)))
  have h2 : ((↑(ByteArray.size { data := (List.toArray w) }) : Int) == (0 : Int)) = false := by (first | assumption | (((try simp only [SA] at *); (try simp (disch := omega) only [SB, reduceCtorEq] at *)) <;> first | omega | assumption | (refine ⟨?_, ?_⟩ <;> assumption) | (refine ⟨?_, ?_, ?_⟩ <;> assumption) | (intros; assumption) | (right; right; assumption) | (right; left; assumption) | (left; assumption)))
  have h3 : (decide ((↑(ByteArray.size { data := (List.toArray w) }) : Int) > (12 : Int))) = false := by (first | assumption | (((try simp only [SA] at *); (try simp (disch := omega) only [SB, reduceCtorEq] at *)) <;> first | omega | assumption | (refine ⟨?_, ?_⟩ <;> assumption) | (refine ⟨?_, ?_, ?_⟩ <;> assumption) | (intros; assumption) | (right; right; assumption) | (right; left; assumption) | (left; assumption)))
  exact pV 12 [(2, bt), (3, bt), (4, .v (V.d (D.int IntKind.u8 (byteAt w (Int.toNat (0 : Int)))))), (5, bt), (7, bt), (8, bf), (11, bf), (12, bf), (14, bf), (16, bf), (17, bf), (18, .l (Ex.ret) (stQr))] (cE (@rqNoL (w) ((1 : Int)) hl hn) (cP h3 (cP h2 (cP h2 (cP h2 (cP h2 (cP h1 (cP h0 (cP h0 (cP (@indexStr (w) ((0 : Int)) (by (first | assumption | (((try simp only [SA] at *); (try simp (disch := omega) only [SB, reduceCtorEq] at *)) <;> first | omega | assumption | (refine ⟨?_, ?_⟩ <;> assumption) | (refine ⟨?_, ?_, ?_⟩ <;> assumption) | (intros; assumption) | (right; right; assumption) | (right; left; assumption) | (left; assumption)))) (by (first | assumption | (((try simp only [SA] at *); (try simp (disch := omega) only [SB, reduceCtorEq] at *)) <;> first | omega | assumption | (refine ⟨?_, ?_⟩ <;> assumption) | (refine ⟨?_, ?_, ?_⟩ <;> assumption) | (intros; assumption) | (right; right; assumption) | (right; left; assumption) | (left; assumption))))) (cP h0 (cP h0 nilE)))))))))))) (by kernel_rfl) rfl rfl
set_option maxHeartbeats 4000000 in
theorem rb8 : rb8_T := by
  intro w h0 hm hl hn n0 n1
  have h0 : (decide ((↑(ByteArray.size { data := (List.toArray w) }) : Int) > (0 : Int))) = true := by (first | assumption | (((try simp only [SA] at *); (try simp (disch := omega) only [SB, reduceCtorEq] at *)) <;> first | omega | assumption | (refine ⟨?_, ?_⟩ <;> assumption) | (refine ⟨?_, ?_, ?_⟩ <;> assumption) | (intros; assumption) | (right; right; assumption) | (right; left; assumption) | (left; assumption)))
  have h1 : ((byteAt w (Int.toNat (0 : Int))) == (45 : Int)) = false := by (first | assumption | (((try simp only [SA] at *); (try simp (disch := omega) only [SB, reduceCtorEq] at *)) <;> first | omega | assumption | (refine ⟨?_, ?_⟩ <;> assumption) | (refine ⟨?_, ?_, ?_⟩ <;> assumption) | (intros; assumption) | (right; right; assumption) | (right; left; assumption) | (left; assumption)))
  have h2 : ((↑(ByteArray.size { data := (List.toArray w) }) : Int) == (0 : Int)) = false := by (first | assumption | (((try simp only [SA] at *); (try simp (disch := omega) only [SB, reduceCtorEq] at *)) <;> first | omega | assumption | (refine ⟨?_, ?_⟩ <;> assumption) | (refine ⟨?_, ?_, ?_⟩ <;> assumption) | (intros; assumption) | (right; right; assumption) | (right; left; assumption) | (left; assumption)))
  have h3 : (decide ((↑(ByteArray.size { data := (List.toArray w) }) : Int) > (12 : Int))) = false := by (first | assumption | (((try simp only [SA] at *); (try simp (disch := omega) only [SB, reduceCtorEq] at *)) <;> first | omega | assumption | (refine ⟨?_, ?_⟩ <;> assumption) | (refine ⟨?_, ?_, ?_⟩ <;> assumption) | (intros; assumption) | (right; right; assumption) | (right; left; assumption) | (left; assumption)))
  exact (pV (v := V.d (D.agg [(D.int IntKind.i64 (IntKind.wrap IntKind.i64 ((1 : Int) * (numR w)))), (D.str []), (D.bool true)])) 12 [(2, bt), (3, bt), (4, .v (V.d (D.int IntKind.u8 (byteAt w (Int.toNat (0 : Int)))))), (5, bt), (7, bt), (8, bf), (11, bf), (12, bf), (14, bf), (16, bf), (17, bf), (18, .l (Ex.exit (0 : Nat)) (stQx w (1 : Int) (numR w) (List.length w)))] (cE (@rqYesL (w) ((1 : Int)) hl hn) (cP h3 (cP h2 (cP h2 (cP h2 (cP h2 (cP h1 (cP h0 (cP h0 (cP (@indexStr (w) ((0 : Int)) (by (first | assumption | (((try simp only [SA] at *); (try simp (disch := omega) only [SB, reduceCtorEq] at *)) <;> first | omega | assumption | (refine ⟨?_, ?_⟩ <;> assumption) | (refine ⟨?_, ?_, ?_⟩ <;> assumption) | (intros; assumption) | (right; right; assumption) | (right; left; assumption) | (left; assumption)))) (by (first | assumption | (((try simp only [SA] at *); (try simp (disch := omega) only [SB, reduceCtorEq] at *)) <;> first | omega | assumption | (refine ⟨?_, ?_⟩ <;> assumption) | (refine ⟨?_, ?_, ?_⟩ <;> assumption) | (intros; assumption) | (right; right; assumption) | (right; left; assumption) | (left; assumption))))) (cP h0 (cP h0 nilE)))))))))))) (by kernel_rfl) rfl rfl).to (by ((try simp (disch := omega) only [wrapId, sizeOne, sizeStr, List.length_cons, List.length_nil, wrapU8, toNatAdd, toNatSucc] at *) <;> (try simp only [Int.toNat_natCast, beq_iff_eq, beq_eq_false_iff_ne, bne_iff_ne, bne_eq_false_iff_eq, ne_eq, Int.natCast_eq_zero, Int.natCast_inj] at *) <;> first | (simp (disch := omega) [Ty.enc, wrapId, toNatPred, toNatAdd, toNatSucc, sizeOne, sizeStr, List.length_cons, List.length_nil, wrapU8, ltF, ltT, Ty.slD, *]; done) | (subst_vars; simp (disch := omega) [Ty.enc, wrapId, toNatPred, toNatAdd, toNatSucc, sizeOne, sizeStr, List.length_cons, List.length_nil, wrapU8, ltF, ltT, Ty.slD, *]; done)))
set_option maxHeartbeats 4000000 in
theorem rt1 : rt1_T := by
  intro w he
  have h0 : (w == [(92 : UInt8), (101 : UInt8)]) = true := by (first | assumption | (((try simp only [SA] at *); (try simp (disch := omega) only [SB, reduceCtorEq] at *)) <;> first | omega | assumption | (refine ⟨?_, ?_⟩ <;> assumption) | (refine ⟨?_, ?_, ?_⟩ <;> assumption) | (intros; assumption) | (right; right; assumption) | (right; left; assumption) | (left; assumption)))
  exact pV 12 [(0, .v (V.d (D.bool (w == [(92 : UInt8), (101 : UInt8)])))), (1, bt)] (cP h0 (cP (@strEq (w) ([(92 : UInt8), (101 : UInt8)])) nilE)) (by kernel_rfl) rfl rfl
set_option maxHeartbeats 4000000 in
theorem rt2 : rt2_T := by
  intro w s hw he h h0
  have h0 : (w == [(92 : UInt8), (101 : UInt8)]) = false := by (first | assumption | (((try simp only [SA] at *); (try simp (disch := omega) only [SB, reduceCtorEq] at *)) <;> first | omega | assumption | (refine ⟨?_, ?_⟩ <;> assumption) | (refine ⟨?_, ?_, ?_⟩ <;> assumption) | (intros; assumption) | (right; right; assumption) | (right; left; assumption) | (left; assumption)))
  exact (pV (v := V.d (D.agg [(D.int IntKind.i64 (0 : Int)), (D.str s), (D.bool (decide ((↑(ByteArray.size { data := (List.toArray w) }) : Int) > (0 : Int))))])) 12 [(0, .v (V.d (D.bool (w == [(92 : UInt8), (101 : UInt8)])))), (1, bf), (2, .l (Ex.exit (0 : Nat)) (stDx w s (List.length w)))] (cE (@rdYesL (w) (s) hw h) (cP h0 (cP (@strEq (w) ([(92 : UInt8), (101 : UInt8)])) nilE))) (by kernel_rfl) rfl rfl).to (by ((try simp (disch := omega) only [wrapId, sizeOne, sizeStr, List.length_cons, List.length_nil, wrapU8, toNatAdd, toNatSucc] at *) <;> (try simp only [Int.toNat_natCast, beq_iff_eq, beq_eq_false_iff_ne, bne_iff_ne, bne_eq_false_iff_eq, ne_eq, Int.natCast_eq_zero, Int.natCast_inj] at *) <;> first | (simp (disch := omega) [Ty.enc, wrapId, toNatPred, toNatAdd, toNatSucc, sizeOne, sizeStr, List.length_cons, List.length_nil, wrapU8, ltF, ltT, Ty.slD, *]; done) | (subst_vars; simp (disch := omega) [Ty.enc, wrapId, toNatPred, toNatAdd, toNatSucc, sizeOne, sizeStr, List.length_cons, List.length_nil, wrapU8, ltF, ltT, Ty.slD, *]; done)))
set_option maxHeartbeats 4000000 in
theorem rt3 : rt3_T := by
  intro w hw he h
  have h0 : (w == [(92 : UInt8), (101 : UInt8)]) = false := by (first | assumption | (((try simp only [SA] at *); (try simp (disch := omega) only [SB, reduceCtorEq] at *)) <;> first | omega | assumption | (refine ⟨?_, ?_⟩ <;> assumption) | (refine ⟨?_, ?_, ?_⟩ <;> assumption) | (intros; assumption) | (right; right; assumption) | (right; left; assumption) | (left; assumption)))
  exact pV 12 [(0, .v (V.d (D.bool (w == [(92 : UInt8), (101 : UInt8)])))), (1, bf), (2, .l (Ex.ret) (stQr))] (cE (@rdNoL (w) hw h) (cP h0 (cP (@strEq (w) ([(92 : UInt8), (101 : UInt8)])) nilE))) (by kernel_rfl) rfl rfl
set_option maxHeartbeats 4000000 in
theorem rt4 : rt4_T := by
  intro w s hw he h
  have h0 : (w == [(92 : UInt8), (101 : UInt8)]) = false := by (first | assumption | (((try simp only [SA] at *); (try simp (disch := omega) only [SB, reduceCtorEq] at *)) <;> first | omega | assumption | (refine ⟨?_, ?_⟩ <;> assumption) | (refine ⟨?_, ?_, ?_⟩ <;> assumption) | (intros; assumption) | (right; right; assumption) | (right; left; assumption) | (left; assumption)))
  exact (pV (v := V.d (D.agg [(D.int IntKind.i64 (0 : Int)), (D.str s), (D.bool (decide ((↑(ByteArray.size { data := (List.toArray w) }) : Int) > (0 : Int))))])) 12 [(0, .v (V.d (D.bool (w == [(92 : UInt8), (101 : UInt8)])))), (1, bf), (2, .l (Ex.exit (0 : Nat)) (stDx w s (List.length w)))] (cE (@rdYesL (w) (s) (by (first | assumption | (((try simp only [SA] at *); (try simp (disch := omega) only [SB, reduceCtorEq] at *)) <;> first | omega | assumption | (refine ⟨?_, ?_⟩ <;> assumption) | (refine ⟨?_, ?_, ?_⟩ <;> assumption) | (intros; assumption) | (right; right; assumption) | (right; left; assumption) | (left; assumption)))) h) (cP h0 (cP (@strEq (w) ([(92 : UInt8), (101 : UInt8)])) nilE))) (by kernel_rfl) rfl rfl).to (by ((try simp (disch := omega) only [wrapId, sizeOne, sizeStr, List.length_cons, List.length_nil, wrapU8, toNatAdd, toNatSucc] at *) <;> (try simp only [Int.toNat_natCast, beq_iff_eq, beq_eq_false_iff_ne, bne_iff_ne, bne_eq_false_iff_eq, ne_eq, Int.natCast_eq_zero, Int.natCast_inj] at *) <;> first | (simp (disch := omega) [Ty.enc, wrapId, toNatPred, toNatAdd, toNatSucc, sizeOne, sizeStr, List.length_cons, List.length_nil, wrapU8, ltF, ltT, Ty.slD, *]; done) | (subst_vars; simp (disch := omega) [Ty.enc, wrapId, toNatPred, toNatAdd, toNatSucc, sizeOne, sizeStr, List.length_cons, List.length_nil, wrapU8, ltF, ltT, Ty.slD, *]; done)))
set_option maxHeartbeats 4000000 in
theorem rwB : rwB_T := by
  intro s hs hl
  exact pV 12 [(0, .l (Ex.exit (0 : Nat)) (stXx s (wdO (32 : Int) s) (wdW (32 : Int) s) (List.length s))), (1, .v (Ty.tailV strT (9 : TypeId) ((wdO (32 : Int) s) ++ [(wdW (32 : Int) s)])))] (cP (@appendStr (wdO (32 : Int) s) (wdW (32 : Int) s) hl) (cE (@rwL (s) hs) nilE)) (by kernel_rfl) rfl rfl
set_option maxHeartbeats 4000000 in
theorem rlB : rlB_T := by
  intro s hs hl
  exact pV 12 [(0, .l (Ex.exit (0 : Nat)) (stXx s (wdO (10 : Int) s) (wdW (10 : Int) s) (List.length s))), (1, .v (Ty.tailV strT (9 : TypeId) ((wdO (10 : Int) s) ++ [(wdW (10 : Int) s)])))] (cP (@appendStr (wdO (10 : Int) s) (wdW (10 : Int) s) hl) (cE (@rlL (s) hs) nilE)) (by kernel_rfl) rfl rfl
end Go.Proofs.YtgiahagbmgnmkaaDoor.Script
/- Script: the reference's Number, Told, Words, Lines as one; rounds of numbers, edits, inlays, Parse, Same. -/
set_option linter.unusedVariables false
set_option linter.unusedSimpArgs false
namespace Go.Proofs.YtgiahagbmgnmkaaDoor.Script
open Go Pv G
theorem cutB_iff (w : Str) : cutB w = true ↔ 0 < w.length ∧ byteAt w 0 = 45 := by
  cases w with
  | nil => simp [cutB]
  | cons c w =>
    have h := byteAt_eq (c :: w) 0 45 (by simp)
    unfold cutB
    rw [show (List.take 1 (c :: w)) = [c] from rfl]
    constructor
    · intro e
      have : c = 45 := by simpa using e
      exact ⟨by simp, h.2 this⟩
    · intro ⟨_, e⟩
      have : c = 45 := h.1 e
      rw [this]; rfl
theorem cutV_neg {w : Str} (h : cutB w = true) : cutV w = w.drop 1 := by unfold cutV; rw [if_pos h]
theorem cutV_pos {w : Str} (h : cutB w = false) : cutV w = w := by unfold cutV; rw [h]; rfl
theorem ansE {f : FuncId} {args : List V} {v u : V} (h : Ans X0 f args v) (e : v = u) : Ans X0 f args u := e ▸ h
theorem refNum (w : Str) (hw : w.length ≤ 1000000) : Ans X0 FQ [.d (.str w)] (.d (valD (numVW w) [] (numOkW w))) := by
  have no : numOkW w = false → valD (numVW w) [] (numOkW w) = valD 0 [] false := fun h => by
    unfold numVW; rw [h]; rfl
  by_cases h0 : 0 < w.length
  · by_cases hm : byteAt w 0 = 45
    · have hb : cutB w = true := (cutB_iff w).2 ⟨h0, hm⟩
      have hv := cutV_neg hb
      by_cases h1 : 1 ≤ (w.drop 1).length
      · by_cases hl : (w.drop 1).length ≤ 12
        · cases hn : numOk (w.drop 1) with
          | true =>
            obtain ⟨n0, n1⟩ := numR_lt (w.drop 1) hl
            refine ansE (rb5 w _ h0 hm rfl h1 hl hn n0 n1) ?_
            have ho : numOkW w = true := by unfold numOkW; rw [hv, decide_eq_true h1, decide_eq_true hl, hn]; rfl
            unfold numVW
            rw [ho, if_pos rfl, if_pos hb, hv]
            rw [show -1 * numR (w.drop 1) = -(numR (w.drop 1)) by omega]
          | false => exact ansE (rb4 w _ h0 hm rfl h1 hl hn) (by rw [no]; unfold numOkW; rw [hv, hn]; simp)
        · exact ansE (rb3 w _ h0 hm rfl (by omega)) (by rw [no]; unfold numOkW; rw [hv, decide_eq_false hl]; simp)
      · exact ansE (rb2 w _ h0 hm rfl (by omega)) (by rw [no]; unfold numOkW; rw [hv, decide_eq_false h1]; simp)
    · have hb : cutB w = false := by
        cases hb : cutB w with
        | true => exact absurd ((cutB_iff w).1 hb).2 hm
        | false => rfl
      have hv := cutV_pos hb
      by_cases hl : w.length ≤ 12
      · cases hn : numOk w with
        | true =>
          obtain ⟨n0, n1⟩ := numR_lt w hl
          refine ansE (rb8 w h0 hm hl hn n0 n1) ?_
          have ho : numOkW w = true := by unfold numOkW; rw [hv, decide_eq_true (show 1 ≤ w.length from h0), decide_eq_true hl, hn]; rfl
          unfold numVW
          rw [ho, if_pos rfl, hb, hv]
          rw [show 1 * numR w = numR w by omega]
          rfl
        | false => exact ansE (rb7 w h0 hm hl hn) (by rw [no]; unfold numOkW; rw [hv, hn]; simp)
      · exact ansE (rb6 w hm (by omega)) (by rw [no]; unfold numOkW; rw [hv, decide_eq_false hl]; simp)
  · exact ansE (rb1 w (by omega)) (by
      have : w = [] := List.eq_nil_of_length_eq_zero (by omega)
      subst this
      rw [no]; rfl)
def refNumY_T : Prop := ∀ (w : Str) (v : Int) (hw : w.length ≤ 1000000) (h : numOkW w = true) (e : numVW w = v), Ans X0 FQ [.d (.str w)] (.d (valD v [] true))
theorem refNumY : refNumY_T := fun w v hw h e => by have := refNum w hw; rwa [h, e] at this
def refNumN_T : Prop := ∀ (w : Str) (hw : w.length ≤ 1000000) (h : numOkW w = false), Ans X0 FQ [.d (.str w)] (.d (valD 0 [] false))
theorem refNumN : refNumN_T := fun w hw h => by
  have := refNum w hw
  rwa [h, show numVW w = 0 by unfold numVW; rw [h]; rfl] at this
/-- A text's value: nothing where there is none. -/
def tdS (w : Str) : Str := if tdB w then tdV w else []
theorem refTold (w : Str) (hw : w.length ≤ 1000000) : Ans X0 FTd [.d (.str w)] (.d (valD 0 (tdS w) (tdB w))) := by
  by_cases he : w = [92, 101]
  · refine ansE (rt1 w (by simpa using he)) ?_
    unfold tdS tdB tdV
    rw [if_pos he, if_pos he]; rfl
  · have he' : (w == [92, 101]) = false := by simpa using he
    cases ht : toldO w with
    | none =>
      refine ansE (rt3 w hw he' ht) ?_
      unfold tdS tdB tdV
      rw [if_neg he, ht]; rfl
    | some s =>
      by_cases h0 : 0 < w.length
      · refine ansE (rt2 w s hw he' ht h0) ?_
        unfold tdS tdB tdV
        rw [if_neg he, if_neg he, ht, decide_eq_true h0]; rfl
      · refine ansE (rt4 w s (by omega) he' ht) ?_
        have hw0 : w = [] := List.eq_nil_of_length_eq_zero (by omega)
        subst hw0
        cases ht
        rfl
def toldE_T : Prop := ∀ (w t : Str) (b : Bool) (hw : w.length ≤ 1000000) (e1 : tdS w = t) (e2 : tdB w = b), Ans X0 FTd [.d (.str w)] (.d (valD 0 t b))
theorem toldE : toldE_T := fun w t b hw e1 e2 => by subst e1; subst e2; exact refTold w hw
def wordsE_T : Prop := ∀ (s : Str) (l : List Str) (hs : s.length ≤ 1000000) (e : pieces 32 s = l), Ans X0 FWd [.d (.str s)] (.d (strsD l))
theorem wordsE : wordsE_T := fun s l hs e => by
  have h := rwB s hs (by have := (wd_len 32 s).1; exact Nat.le_trans this hs)
  have e2 := wd_pieces 32 s
  rw [strsFlat] at h
  subst e
  rw [← e2]; exact h
def linesE_T : Prop := ∀ (s : Str) (l : List Str) (hs : s.length ≤ 1000000) (e : pieces 10 s = l), Ans X0 FLn [.d (.str s)] (.d (strsD l))
theorem linesE : linesE_T := fun s l hs e => by
  have h := rlB s hs (by have := (wd_len 10 s).1; exact Nat.le_trans this hs)
  have e2 := wd_pieces 10 s
  rw [strsFlat] at h
  subst e
  rw [← e2]; exact h
def loadStrN_T : Prop := ∀ (l : List Str) (h : List Ob) (k : Nat) (hk : k < l.length), loadV X0 h 9 (.d (.ref (l.map D.str) ((k : Int).toNat * 1))) = some (.d (.str (strAt l k)))
theorem loadStrN : loadStrN_T := fun l h k hk => loadStr l h k hk
/- numbers -/
abbrev FNs : Nat := 43
abbrev valO (n : Int) (s : Str) (b : Bool) : Ob := .cells [.d (.int .i64 n), .d (.str s), .d (.bool b)]
abbrev stM (l : List Str) (out : List Int) (i : Nat) : St := ⟨[(3, i64.tailV 3 out), (8, .d (strsD l)), (9, .d (.int .i64 l.length)), (10, .d (.int .i64 i))], [], []⟩
abbrev stMx (l : List Str) (out : List Int) (i : Nat) : St := ⟨[(3, i64.tailV 3 out), (8, .d (strsD l)), (9, .d (.int .i64 l.length)), (10, .d (.int .i64 i)), (11, .d (.bool false))], [], []⟩
abbrev stM0 (l : List Str) : St := ⟨[(3, .full [] 0), (8, .d (strsD l)), (9, .d (.int .i64 l.length)), (10, .d (.int .i64 0))], [], []⟩
abbrev stM0x (l : List Str) : St := ⟨[(3, .full [] 0), (8, .d (strsD l)), (9, .d (.int .i64 l.length)), (10, .d (.int .i64 0)), (11, .d (.bool false))], [], []⟩
abbrev stMr : St := ⟨[(2, i64.tailV 3 [])], [zV], []⟩
def rm1_T : Prop := ∀ (l : List Str) (out : List Int) (i : Nat) (v : Int) (hl : l.length ≤ 1000000) (ho : out.length ≤ 1000000) (hi : i < l.length) (hs : (strAt l i).length ≤ 1000000) (h : numOkW (strAt l i) = true) (e : numVW (strAt l i) = v),
  RdC X0 0 (ntOf X0 FNs) (lpKeep X0 FNs 0) (lpBody X0 FNs 0) 0 (stM l out i) (stM l (out ++ [v]) (i + 1))
def rm2_T : Prop := ∀ (l : List Str) (v : Int) (hl : l.length ≤ 1000000) (hi : 0 < l.length) (hs : (strAt l 0).length ≤ 1000000) (h : numOkW (strAt l 0) = true) (e : numVW (strAt l 0) = v),
  RdC X0 0 (ntOf X0 FNs) (lpKeep X0 FNs 0) (lpBody X0 FNs 0) 0 (stM0 l) (stM l [v] 1)
def rm3_T : Prop := ∀ (l : List Str) (out : List Int) (i : Nat) (hl : l.length ≤ 1000000) (ho : out.length ≤ 1000000) (hi : i < l.length) (hs : (strAt l i).length ≤ 1000000) (h : numOkW (strAt l i) = false),
  Rd X0 0 (ntOf X0 FNs) (lpBody X0 FNs 0) (stM l out i) (.ret, stMr)
def rm4_T : Prop := ∀ (l : List Str) (hl : l.length ≤ 1000000) (hi : 0 < l.length) (hs : (strAt l 0).length ≤ 1000000) (h : numOkW (strAt l 0) = false),
  Rd X0 0 (ntOf X0 FNs) (lpBody X0 FNs 0) (stM0 l) (.ret, stMr)
def rm5_T : Prop := ∀ (l : List Str) (out : List Int) (i : Nat) (hi : l.length ≤ i) (h2 : i ≤ 1000000), Rd X0 0 (ntOf X0 FNs) (lpBody X0 FNs 0) (stM l out i) (.exit 0, stMx l out i)
def rm6_T : Prop := ∀ (l : List Str) (hi : l.length = 0), Rd X0 0 (ntOf X0 FNs) (lpBody X0 FNs 0) (stM0 l) (.exit 0, stM0x l)
/- edits -/
abbrev FRe : Nat := 28
abbrev FRi : Nat := 30
abbrev FSz : Nat := 29
abbrev FPr : Nat := 11
abbrev FSm : Nat := 12
abbrev obO (k a b : Int) (es : List Edit) (rs : List Int) (ns : List Inl) : Ob := .cells [.d (.int .i64 k), .d (.int .i64 a), .d (.int .i64 b), .d (editT.slD es), .d (i64.slD rs), .d (inlT.slD ns)]
/- Parse: is there a line's end? -/
abbrev stP (s : Str) (i : Nat) : St := ⟨[(0, .d (.str s)), (2, .obj 0 0), (4, .d (.int .i64 i))], [zO], []⟩
abbrev stPx (s : Str) (i : Nat) : St := ⟨[(0, .d (.str s)), (2, .obj 0 0), (4, .d (.int .i64 i)), (9, .d (.bool false))], [zO], []⟩
abbrev stPr : St := ⟨[(2, .obj 0 0), (3, .d (.bool false))], [zO], []⟩
def rp1_T : Prop := ∀ (s : Str) (i : Nat) (hs : s.length ≤ 1000000) (hi : i < s.length) (h : byteAt s i ≠ 10), RdC X0 0 (ntOf X0 FPr) (lpKeep X0 FPr 0) (lpBody X0 FPr 0) 1 (stP s i) (stP s (i + 1))
def rp2_T : Prop := ∀ (s : Str) (i : Nat) (hs : s.length ≤ 1000000) (hi : i < s.length) (h : byteAt s i = 10), Rd X0 0 (ntOf X0 FPr) (lpBody X0 FPr 0) (stP s i) (.ret, stPr)
def rp3_T : Prop := ∀ (s : Str) (i : Nat) (hs : s.length ≤ i) (h2 : i ≤ 1000000), Rd X0 0 (ntOf X0 FPr) (lpBody X0 FPr 0) (stP s i) (.exit 0, stPx s i)
/- Same, of an operation with itself -/
section
variable (k a b : Int) (es : List Edit) (rs : List Int) (ns : List Inl)
abbrev stS1 (i : Nat) : St := ⟨[(2, .obj 0 0), (3, .obj 1 0), (58, .d (editT.slD es)), (59, .d (.int .i64 es.length)), (60, .d (.int .i64 i))], [obO k a b es rs ns, obO k a b es rs ns], []⟩
abbrev stS1x (i : Nat) : St := ⟨[(2, .obj 0 0), (3, .obj 1 0), (58, .d (editT.slD es)), (59, .d (.int .i64 es.length)), (60, .d (.int .i64 i)), (61, .d (.bool false))], [obO k a b es rs ns, obO k a b es rs ns], []⟩
abbrev stS2 (i : Nat) : St := ⟨[(2, .obj 0 0), (3, .obj 1 0), (74, .d (i64.slD rs)), (75, .d (.int .i64 rs.length)), (76, .d (.int .i64 i))], [obO k a b es rs ns, obO k a b es rs ns], []⟩
abbrev stS2x (i : Nat) : St := ⟨[(2, .obj 0 0), (3, .obj 1 0), (74, .d (i64.slD rs)), (75, .d (.int .i64 rs.length)), (76, .d (.int .i64 i)), (77, .d (.bool false))], [obO k a b es rs ns, obO k a b es rs ns], []⟩
abbrev stS3 (i : Nat) : St := ⟨[(3, .obj 1 0), (90, .d (inlT.slD ns)), (91, .d (.int .i64 ns.length)), (92, .d (.int .i64 i))], [obO k a b es rs ns, obO k a b es rs ns], []⟩
abbrev stS3x (i : Nat) : St := ⟨[(3, .obj 1 0), (90, .d (inlT.slD ns)), (91, .d (.int .i64 ns.length)), (92, .d (.int .i64 i)), (93, .d (.bool false))], [obO k a b es rs ns, obO k a b es rs ns], []⟩
end
def iaddrEdit_T : Prop := ∀ (l : List Edit) (i : Int) (h0 : 0 ≤ i) (hi : i < l.length), iaddrV X0 23 (.d (editT.slD l)) (.d (.int .i64 i)) = some (.d (.ref (l.flatMap editT.enc) (i.toNat * 3)))
theorem iaddrEdit : iaddrEdit_T := fun l i h0 hi => iaddrSl (te := 48) (z := 3) (by kernel_rfl) (by kernel_rfl) h0 hi (flat_len editT.enc 3 editT.enc_length l)
def loadEdit_T : Prop := ∀ (l : List Edit) (h : List Ob) (k : Nat) (hk : k < l.length), loadV X0 h 48 (.d (.ref (l.flatMap editT.enc) (k * 3))) = some (.d (.agg (editT.enc (editT.nth l k))))
theorem loadEdit : loadEdit_T := fun l h k hk => loadAgg (e := editT) (by kernel_rfl) (by kernel_rfl) hk
def iaddrInl_T : Prop := ∀ (l : List Inl) (i : Int) (h0 : 0 ≤ i) (hi : i < l.length), iaddrV X0 25 (.d (inlT.slD l)) (.d (.int .i64 i)) = some (.d (.ref (l.flatMap inlT.enc) (i.toNat * 5)))
theorem iaddrInl : iaddrInl_T := fun l i h0 hi => iaddrSl (te := 60) (z := 5) (by kernel_rfl) (by kernel_rfl) h0 hi (flat_len inlT.enc 5 inlT.enc_length l)
def loadInl_T : Prop := ∀ (l : List Inl) (h : List Ob) (k : Nat) (hk : k < l.length), loadV X0 h 60 (.d (.ref (l.flatMap inlT.enc) (k * 5))) = some (.d (.agg (inlT.enc (inlT.nth l k))))
theorem loadInl : loadInl_T := fun l h k hk => loadAgg (e := inlT) (by kernel_rfl) (by kernel_rfl) hk
def iaddrInt_T : Prop := ∀ (l : List Int) (i : Int) (h0 : 0 ≤ i) (hi : i < l.length), iaddrV X0 24 (.d (i64.slD l)) (.d (.int .i64 i)) = some (.d (.ref (l.flatMap i64.enc) (i.toNat * 1)))
theorem iaddrInt : iaddrInt_T := fun l i h0 hi => iaddrSl (te := 3) (z := 1) (by kernel_rfl) (by kernel_rfl) h0 hi (flat_len i64.enc 1 i64.enc_length l)
def loadInt_T : Prop := ∀ (l : List Int) (h : List Ob) (k : Nat) (hk : k < l.length), loadV X0 h 3 (.d (.ref (l.flatMap i64.enc) (k * 1))) = some (.d (.int .i64 (intAt l k)))
theorem loadInt : loadInt_T := fun l h k hk => loadCell (X := X0) (e := i64) (z1 := 1) (t := 3) (by kernel_rfl) (by kernel_rfl) (k := k) (o := 0) hk (by decide)
def loadIntK_T : Prop := ∀ (l : List Int) (h : List Ob) (k : Nat) (hk : k < l.length), loadV X0 h 3 (.d (.ref (l.flatMap i64.enc) k)) = some (.d (.int .i64 (intAt l k)))
theorem loadIntK : loadIntK_T := fun l h k hk => by
  have := loadInt l h k hk
  rwa [Nat.mul_one] at this
def ss1_T : Prop := ∀ (k a b : Int) (es : List Edit) (rs : List Int) (ns : List Inl) (i : Nat) (hl : es.length ≤ 1000000000) (hi : i < es.length), RdC X0 0 (ntOf X0 FSm) (lpKeep X0 FSm 0) (lpBody X0 FSm 0) 2 (stS1 k a b es rs ns i) (stS1 k a b es rs ns (i + 1))
def ss2_T : Prop := ∀ (k a b : Int) (es : List Edit) (rs : List Int) (ns : List Inl) (i : Nat) (hi : es.length ≤ i) (h2 : i ≤ 1000000000), Rd X0 0 (ntOf X0 FSm) (lpBody X0 FSm 0) (stS1 k a b es rs ns i) (.exit 0, stS1x k a b es rs ns i)
def ss3_T : Prop := ∀ (k a b : Int) (es : List Edit) (rs : List Int) (ns : List Inl) (i : Nat) (hl : rs.length ≤ 1000000000) (hi : i < rs.length), RdC X0 0 (ntOf X0 FSm) (lpKeep X0 FSm 1) (lpBody X0 FSm 1) 2 (stS2 k a b es rs ns i) (stS2 k a b es rs ns (i + 1))
def ss4_T : Prop := ∀ (k a b : Int) (es : List Edit) (rs : List Int) (ns : List Inl) (i : Nat) (hi : rs.length ≤ i) (h2 : i ≤ 1000000000), Rd X0 0 (ntOf X0 FSm) (lpBody X0 FSm 1) (stS2 k a b es rs ns i) (.exit 2, stS2x k a b es rs ns i)
def ss5_T : Prop := ∀ (k a b : Int) (es : List Edit) (rs : List Int) (ns : List Inl) (i : Nat) (hl : ns.length ≤ 1000000000) (hi : i < ns.length), RdC X0 0 (ntOf X0 FSm) (lpKeep X0 FSm 2) (lpBody X0 FSm 2) 2 (stS3 k a b es rs ns i) (stS3 k a b es rs ns (i + 1))
def ss6_T : Prop := ∀ (k a b : Int) (es : List Edit) (rs : List Int) (ns : List Inl) (i : Nat) (hi : ns.length ≤ i) (h2 : i ≤ 1000000000), Rd X0 0 (ntOf X0 FSm) (lpBody X0 FSm 2) (stS3 k a b es rs ns i) (.exit 4, stS3x k a b es rs ns i)
/- structs of plain fields, compared with themselves -/
def neEdit_T : Prop := ∀ (x : Edit), binV X0 .neq 48 (.d (.agg (editT.enc x))) (.d (.agg (editT.enc x))) = some (.d (.bool false))
theorem neEdit : neEdit_T := fun x => by
  obtain ⟨a, b, t, ⟨⟩⟩ := x
  have key : eqAgg X0.P 48 [.int .i64 a, .int .i64 b, .str t] [.int .i64 a, .int .i64 b, .str t] = some ((a == a) && ((b == b) && ((t == t) && true))) := by kernel_rfl
  have hu : unlike X0.P 48 (.d (.agg [.int .i64 a, .int .i64 b, .str t])) (.d (.agg [.int .i64 a, .int .i64 b, .str t])) = false := by kernel_rfl
  show binV X0 .neq 48 (.d (.agg [.int .i64 a, .int .i64 b, .str t])) (.d (.agg [.int .i64 a, .int .i64 b, .str t])) = _
  unfold binV valOp
  simp only [two2, hu, eqOp, key]
  simp
def neInl_T : Prop := ∀ (x : Inl), binV X0 .neq 60 (.d (.agg (inlT.enc x))) (.d (.agg (inlT.enc x))) = some (.d (.bool false))
theorem neInl : neInl_T := fun x => by
  obtain ⟨a, b, c, d, t, ⟨⟩⟩ := x
  have key : eqAgg X0.P 60 [.int .i64 a, .int .i64 b, .int .i64 c, .int .i64 d, .str t] [.int .i64 a, .int .i64 b, .int .i64 c, .int .i64 d, .str t] = some ((a == a) && ((b == b) && ((c == c) && ((d == d) && ((t == t) && true))))) := by kernel_rfl
  have hu : unlike X0.P 60 (.d (.agg [.int .i64 a, .int .i64 b, .int .i64 c, .int .i64 d, .str t])) (.d (.agg [.int .i64 a, .int .i64 b, .int .i64 c, .int .i64 d, .str t])) = false := by kernel_rfl
  show binV X0 .neq 60 (.d (.agg [.int .i64 a, .int .i64 b, .int .i64 c, .int .i64 d, .str t])) (.d (.agg [.int .i64 a, .int .i64 b, .int .i64 c, .int .i64 d, .str t])) = _
  unfold binV valOp
  simp only [two2, hu, eqOp, key]
  simp
end Go.Proofs.YtgiahagbmgnmkaaDoor.Script
/- Script: paths, printed by a program of mine. -/
set_option maxRecDepth 100000
set_option linter.unusedSimpArgs false
set_option linter.unusedVariables false
namespace Go.Proofs.YtgiahagbmgnmkaaDoor.Script
open Go Pv G
set_option maxHeartbeats 4000000 in
theorem rm1 : rm1_T := by
  intro l out i v hl ho hi hs h e
  have h0 : (decide ((↑i : Int) < (↑(List.length l) : Int))) = true := by (first | assumption | (((try simp only [SA] at *); (try simp (disch := omega) only [SB, reduceCtorEq] at *)) <;> first | omega | assumption | (refine ⟨?_, ?_⟩ <;> assumption) | (refine ⟨?_, ?_, ?_⟩ <;> assumption) | (intros; assumption) | (right; right; assumption) | (right; left; assumption) | (left; assumption)))
  exact (pC (st' := { s := [((nat_lit 3), (V.tail (nat_lit 3) (List.flatMap (Ty.enc i64) (out ++ [v])) (List.length (out ++ [v])))), ((nat_lit 8), (V.d (D.sl (List.map D.str l) (List.length l)))), ((nat_lit 9), (V.d (D.int IntKind.i64 (↑(List.length l) : Int)))), ((nat_lit 10), (V.d (D.int IntKind.i64 (IntKind.wrap IntKind.i64 ((↑i : Int) + (1 : Int))))))], h := [], og := [] }) 12 [(1, bt), (2, .v (V.d (D.ref (List.map D.str l) ((Int.toNat (↑i : Int)) * (1 : Nat))))), (3, .v (V.d (D.str (strAt l i)))), (4, .v (V.d (valD v [] true))), (8, .v (Ty.tailV i64 (3 : TypeId) (out ++ [v])))] (cP (@appendInt (out) (v) ho) (cC (@refNumY (strAt l i) (v) hs h e) (cP (@loadStrN (l) ([]) (i) hi) (cP (@iaddrStr (l) ((↑i : Int)) (by (first | assumption | (((try simp only [SA] at *); (try simp (disch := omega) only [SB, reduceCtorEq] at *)) <;> first | omega | assumption | (refine ⟨?_, ?_⟩ <;> assumption) | (refine ⟨?_, ?_, ?_⟩ <;> assumption) | (intros; assumption) | (right; right; assumption) | (right; left; assumption) | (left; assumption)))) (by (first | assumption | (((try simp only [SA] at *); (try simp (disch := omega) only [SB, reduceCtorEq] at *)) <;> first | omega | assumption | (refine ⟨?_, ?_⟩ <;> assumption) | (refine ⟨?_, ?_, ?_⟩ <;> assumption) | (intros; assumption) | (right; right; assumption) | (right; left; assumption) | (left; assumption))))) (cP h0 nilE))))) (by kernel_rfl)).to (by ((try simp (disch := omega) only [wrapId, sizeOne, sizeStr, List.length_cons, List.length_nil, wrapU8, toNatAdd, toNatSucc] at *) <;> (try simp only [Int.toNat_natCast, beq_iff_eq, beq_eq_false_iff_ne, bne_iff_ne, bne_eq_false_iff_eq, ne_eq, Int.natCast_eq_zero, Int.natCast_inj] at *) <;> first | (simp (disch := omega) [Ty.enc, wrapId, toNatPred, toNatAdd, toNatSucc, sizeOne, sizeStr, List.length_cons, List.length_nil, wrapU8, ltF, ltT, Ty.slD, *]; done) | (subst_vars; simp (disch := omega) [Ty.enc, wrapId, toNatPred, toNatAdd, toNatSucc, sizeOne, sizeStr, List.length_cons, List.length_nil, wrapU8, ltF, ltT, Ty.slD, *]; done)))
set_option maxHeartbeats 4000000 in
theorem rm2 : rm2_T := by
  intro l v hl hi hs h e
  have h0 : (decide ((0 : Int) < (↑(List.length l) : Int))) = true := by (first | assumption | (((try simp only [SA] at *); (try simp (disch := omega) only [SB, reduceCtorEq] at *)) <;> first | omega | assumption | (refine ⟨?_, ?_⟩ <;> assumption) | (refine ⟨?_, ?_, ?_⟩ <;> assumption) | (intros; assumption) | (right; right; assumption) | (right; left; assumption) | (left; assumption)))
  exact pC 12 [(1, bt), (2, .v (V.d (D.ref (List.map D.str l) ((Int.toNat (0 : Int)) * (1 : Nat))))), (3, .v (V.d (D.str (strAt l (nat_lit 0))))), (4, .v (V.d (valD v [] true)))] (cC (@refNumY (strAt l (nat_lit 0)) (v) hs h e) (cP (@loadStrK (l) ([]) (nat_lit 0) hi) (cP (@iaddrStr (l) ((0 : Int)) (by (first | assumption | (((try simp only [SA] at *); (try simp (disch := omega) only [SB, reduceCtorEq] at *)) <;> first | omega | assumption | (refine ⟨?_, ?_⟩ <;> assumption) | (refine ⟨?_, ?_, ?_⟩ <;> assumption) | (intros; assumption) | (right; right; assumption) | (right; left; assumption) | (left; assumption)))) (by (first | assumption | (((try simp only [SA] at *); (try simp (disch := omega) only [SB, reduceCtorEq] at *)) <;> first | omega | assumption | (refine ⟨?_, ?_⟩ <;> assumption) | (refine ⟨?_, ?_, ?_⟩ <;> assumption) | (intros; assumption) | (right; right; assumption) | (right; left; assumption) | (left; assumption))))) (cP h0 nilE)))) (by kernel_rfl)
set_option maxHeartbeats 4000000 in
theorem rm3 : rm3_T := by
  intro l out i hl ho hi hs h
  have h0 : (decide ((↑i : Int) < (↑(List.length l) : Int))) = true := by (first | assumption | (((try simp only [SA] at *); (try simp (disch := omega) only [SB, reduceCtorEq] at *)) <;> first | omega | assumption | (refine ⟨?_, ?_⟩ <;> assumption) | (refine ⟨?_, ?_, ?_⟩ <;> assumption) | (intros; assumption) | (right; right; assumption) | (right; left; assumption) | (left; assumption)))
  exact pR 12 [(1, bt), (2, .v (V.d (D.ref (List.map D.str l) ((Int.toNat (↑i : Int)) * (1 : Nat))))), (3, .v (V.d (D.str (strAt l (Int.toNat (↑i : Int)))))), (4, .v (V.d (valD (0 : Int) [] false)))] (cC (@refNumN (strAt l (Int.toNat (↑i : Int))) (by (first | assumption | (((try simp only [SA] at *); (try simp (disch := omega) only [SB, reduceCtorEq] at *)) <;> first | omega | assumption | (refine ⟨?_, ?_⟩ <;> assumption) | (refine ⟨?_, ?_, ?_⟩ <;> assumption) | (intros; assumption) | (right; right; assumption) | (right; left; assumption) | (left; assumption)))) (by (first | assumption | (((try simp only [SA] at *); (try simp (disch := omega) only [SB, reduceCtorEq] at *)) <;> first | omega | assumption | (refine ⟨?_, ?_⟩ <;> assumption) | (refine ⟨?_, ?_, ?_⟩ <;> assumption) | (intros; assumption) | (right; right; assumption) | (right; left; assumption) | (left; assumption))))) (cP (@loadStr (l) ([]) (Int.toNat (↑i : Int)) (by (first | assumption | (((try simp only [SA] at *); (try simp (disch := omega) only [SB, reduceCtorEq] at *)) <;> first | omega | assumption | (refine ⟨?_, ?_⟩ <;> assumption) | (refine ⟨?_, ?_, ?_⟩ <;> assumption) | (intros; assumption) | (right; right; assumption) | (right; left; assumption) | (left; assumption))))) (cP (@iaddrStr (l) ((↑i : Int)) (by (first | assumption | (((try simp only [SA] at *); (try simp (disch := omega) only [SB, reduceCtorEq] at *)) <;> first | omega | assumption | (refine ⟨?_, ?_⟩ <;> assumption) | (refine ⟨?_, ?_, ?_⟩ <;> assumption) | (intros; assumption) | (right; right; assumption) | (right; left; assumption) | (left; assumption)))) (by (first | assumption | (((try simp only [SA] at *); (try simp (disch := omega) only [SB, reduceCtorEq] at *)) <;> first | omega | assumption | (refine ⟨?_, ?_⟩ <;> assumption) | (refine ⟨?_, ?_, ?_⟩ <;> assumption) | (intros; assumption) | (right; right; assumption) | (right; left; assumption) | (left; assumption))))) (cP h0 nilE)))) (by kernel_rfl)
set_option maxHeartbeats 4000000 in
theorem rm4 : rm4_T := by
  intro l hl hi hs h
  have h0 : (decide ((0 : Int) < (↑(List.length l) : Int))) = true := by (first | assumption | (((try simp only [SA] at *); (try simp (disch := omega) only [SB, reduceCtorEq] at *)) <;> first | omega | assumption | (refine ⟨?_, ?_⟩ <;> assumption) | (refine ⟨?_, ?_, ?_⟩ <;> assumption) | (intros; assumption) | (right; right; assumption) | (right; left; assumption) | (left; assumption)))
  exact pR 12 [(1, bt), (2, .v (V.d (D.ref (List.map D.str l) ((Int.toNat (0 : Int)) * (1 : Nat))))), (3, .v (V.d (D.str (strAt l (nat_lit 0))))), (4, .v (V.d (valD (0 : Int) [] false)))] (cC (@refNumN (strAt l (nat_lit 0)) hs h) (cP (@loadStrK (l) ([]) (nat_lit 0) hi) (cP (@iaddrStr (l) ((0 : Int)) (by (first | assumption | (((try simp only [SA] at *); (try simp (disch := omega) only [SB, reduceCtorEq] at *)) <;> first | omega | assumption | (refine ⟨?_, ?_⟩ <;> assumption) | (refine ⟨?_, ?_, ?_⟩ <;> assumption) | (intros; assumption) | (right; right; assumption) | (right; left; assumption) | (left; assumption)))) (by (first | assumption | (((try simp only [SA] at *); (try simp (disch := omega) only [SB, reduceCtorEq] at *)) <;> first | omega | assumption | (refine ⟨?_, ?_⟩ <;> assumption) | (refine ⟨?_, ?_, ?_⟩ <;> assumption) | (intros; assumption) | (right; right; assumption) | (right; left; assumption) | (left; assumption))))) (cP h0 nilE)))) (by kernel_rfl)
set_option maxHeartbeats 4000000 in
theorem rm5 : rm5_T := by
  intro l out i hi h2
  have h0 : (decide ((↑i : Int) < (↑(List.length l) : Int))) = false := by (first | assumption | (((try simp only [SA] at *); (try simp (disch := omega) only [SB, reduceCtorEq] at *)) <;> first | omega | assumption | (refine ⟨?_, ?_⟩ <;> assumption) | (refine ⟨?_, ?_, ?_⟩ <;> assumption) | (intros; assumption) | (right; right; assumption) | (right; left; assumption) | (left; assumption)))
  exact (pR (r := ((Ex.exit (nat_lit 0)), { s := [((nat_lit 3), (V.tail (nat_lit 3) (List.flatMap (Ty.enc i64) out) (List.length out))), ((nat_lit 8), (V.d (D.sl (List.map D.str l) (List.length l)))), ((nat_lit 9), (V.d (D.int IntKind.i64 (↑(List.length l) : Int)))), ((nat_lit 10), (V.d (D.int IntKind.i64 (↑i : Int)))), ((nat_lit 11), (V.d (D.bool (decide ((↑i : Int) < (↑(List.length l) : Int))))))], h := [], og := [] })) 12 [(1, bf)] (cP h0 nilE) (by kernel_rfl)).to (by ((try simp (disch := omega) only [wrapId, sizeOne, sizeStr, List.length_cons, List.length_nil, wrapU8, toNatAdd, toNatSucc] at *) <;> (try simp only [Int.toNat_natCast, beq_iff_eq, beq_eq_false_iff_ne, bne_iff_ne, bne_eq_false_iff_eq, ne_eq, Int.natCast_eq_zero, Int.natCast_inj] at *) <;> first | (simp (disch := omega) [Ty.enc, wrapId, toNatPred, toNatAdd, toNatSucc, sizeOne, sizeStr, List.length_cons, List.length_nil, wrapU8, ltF, ltT, Ty.slD, *]; done) | (subst_vars; simp (disch := omega) [Ty.enc, wrapId, toNatPred, toNatAdd, toNatSucc, sizeOne, sizeStr, List.length_cons, List.length_nil, wrapU8, ltF, ltT, Ty.slD, *]; done)))
set_option maxHeartbeats 4000000 in
theorem rm6 : rm6_T := by
  intro l hi
  have h0 : (decide ((0 : Int) < (↑(List.length l) : Int))) = false := by (first | assumption | (((try simp only [SA] at *); (try simp (disch := omega) only [SB, reduceCtorEq] at *)) <;> first | omega | assumption | (refine ⟨?_, ?_⟩ <;> assumption) | (refine ⟨?_, ?_, ?_⟩ <;> assumption) | (intros; assumption) | (right; right; assumption) | (right; left; assumption) | (left; assumption)))
  exact (pR (r := ((Ex.exit (nat_lit 0)), { s := [((nat_lit 3), (V.full [] (nat_lit 0))), ((nat_lit 8), (V.d (D.sl (List.map D.str l) (List.length l)))), ((nat_lit 9), (V.d (D.int IntKind.i64 (↑(List.length l) : Int)))), ((nat_lit 10), (V.d (D.int IntKind.i64 (0 : Int)))), ((nat_lit 11), (V.d (D.bool (decide ((0 : Int) < (↑(List.length l) : Int))))))], h := [], og := [] })) 12 [(1, bf)] (cP h0 nilE) (by kernel_rfl)).to (by ((try simp (disch := omega) only [wrapId, sizeOne, sizeStr, List.length_cons, List.length_nil, wrapU8, toNatAdd, toNatSucc] at *) <;> (try simp only [Int.toNat_natCast, beq_iff_eq, beq_eq_false_iff_ne, bne_iff_ne, bne_eq_false_iff_eq, ne_eq, Int.natCast_eq_zero, Int.natCast_inj] at *) <;> first | (simp (disch := omega) [Ty.enc, wrapId, toNatPred, toNatAdd, toNatSucc, sizeOne, sizeStr, List.length_cons, List.length_nil, wrapU8, ltF, ltT, Ty.slD, *]; done) | (subst_vars; simp (disch := omega) [Ty.enc, wrapId, toNatPred, toNatAdd, toNatSucc, sizeOne, sizeStr, List.length_cons, List.length_nil, wrapU8, ltF, ltT, Ty.slD, *]; done)))
set_option maxHeartbeats 4000000 in
theorem rp1 : rp1_T := by
  intro s i hs hi h
  have h0 : (decide ((↑i : Int) < (↑(ByteArray.size { data := (List.toArray s) }) : Int))) = true := by (first | assumption | (((try simp only [SA] at *); (try simp (disch := omega) only [SB, reduceCtorEq] at *)) <;> first | omega | assumption | (refine ⟨?_, ?_⟩ <;> assumption) | (refine ⟨?_, ?_, ?_⟩ <;> assumption) | (intros; assumption) | (right; right; assumption) | (right; left; assumption) | (left; assumption)))
  have h1 : ((byteAt s (Int.toNat (↑i : Int))) == (10 : Int)) = false := by (first | assumption | (((try simp only [SA] at *); (try simp (disch := omega) only [SB, reduceCtorEq] at *)) <;> first | omega | assumption | (refine ⟨?_, ?_⟩ <;> assumption) | (refine ⟨?_, ?_, ?_⟩ <;> assumption) | (intros; assumption) | (right; right; assumption) | (right; left; assumption) | (left; assumption)))
  exact (pC (st' := { s := [((nat_lit 0), (V.d (D.str s))), ((nat_lit 2), (V.obj (nat_lit 0) (nat_lit 0))), ((nat_lit 4), (V.d (D.int IntKind.i64 (IntKind.wrap IntKind.i64 ((↑i : Int) + (1 : Int))))))], h := [(Ob.cells [(V.d (D.int IntKind.i64 (0 : Int))), (V.d (D.int IntKind.i64 (0 : Int))), (V.d (D.int IntKind.i64 (0 : Int))), (V.tail (nat_lit 48) [] (nat_lit 0)), (V.tail (nat_lit 3) [] (nat_lit 0)), (V.tail (nat_lit 60) [] (nat_lit 0))])], og := [] }) 12 [(2, bt), (3, .v (V.d (D.int IntKind.u8 (byteAt s (Int.toNat (↑i : Int)))))), (5, bf)] (cP h1 (cP (@indexStr (s) ((↑i : Int)) (by (first | assumption | (((try simp only [SA] at *); (try simp (disch := omega) only [SB, reduceCtorEq] at *)) <;> first | omega | assumption | (refine ⟨?_, ?_⟩ <;> assumption) | (refine ⟨?_, ?_, ?_⟩ <;> assumption) | (intros; assumption) | (right; right; assumption) | (right; left; assumption) | (left; assumption)))) (by (first | assumption | (((try simp only [SA] at *); (try simp (disch := omega) only [SB, reduceCtorEq] at *)) <;> first | omega | assumption | (refine ⟨?_, ?_⟩ <;> assumption) | (refine ⟨?_, ?_, ?_⟩ <;> assumption) | (intros; assumption) | (right; right; assumption) | (right; left; assumption) | (left; assumption))))) (cP h0 nilE))) (by kernel_rfl)).to (by ((try simp (disch := omega) only [wrapId, sizeOne, sizeStr, List.length_cons, List.length_nil, wrapU8, toNatAdd, toNatSucc] at *) <;> (try simp only [Int.toNat_natCast, beq_iff_eq, beq_eq_false_iff_ne, bne_iff_ne, bne_eq_false_iff_eq, ne_eq, Int.natCast_eq_zero, Int.natCast_inj] at *) <;> first | (simp (disch := omega) [Ty.enc, wrapId, toNatPred, toNatAdd, toNatSucc, sizeOne, sizeStr, List.length_cons, List.length_nil, wrapU8, ltF, ltT, Ty.slD, *]; done) | (subst_vars; simp (disch := omega) [Ty.enc, wrapId, toNatPred, toNatAdd, toNatSucc, sizeOne, sizeStr, List.length_cons, List.length_nil, wrapU8, ltF, ltT, Ty.slD, *]; done)))
set_option maxHeartbeats 4000000 in
theorem rp2 : rp2_T := by
  intro s i hs hi h
  have h0 : (decide ((↑i : Int) < (↑(ByteArray.size { data := (List.toArray s) }) : Int))) = true := by (first | assumption | (((try simp only [SA] at *); (try simp (disch := omega) only [SB, reduceCtorEq] at *)) <;> first | omega | assumption | (refine ⟨?_, ?_⟩ <;> assumption) | (refine ⟨?_, ?_, ?_⟩ <;> assumption) | (intros; assumption) | (right; right; assumption) | (right; left; assumption) | (left; assumption)))
  have h1 : ((byteAt s (Int.toNat (↑i : Int))) == (10 : Int)) = true := by (first | assumption | (((try simp only [SA] at *); (try simp (disch := omega) only [SB, reduceCtorEq] at *)) <;> first | omega | assumption | (refine ⟨?_, ?_⟩ <;> assumption) | (refine ⟨?_, ?_, ?_⟩ <;> assumption) | (intros; assumption) | (right; right; assumption) | (right; left; assumption) | (left; assumption)))
  exact pR 12 [(2, bt), (3, .v (V.d (D.int IntKind.u8 (byteAt s (Int.toNat (↑i : Int)))))), (5, bt)] (cP h1 (cP (@indexStr (s) ((↑i : Int)) (by (first | assumption | (((try simp only [SA] at *); (try simp (disch := omega) only [SB, reduceCtorEq] at *)) <;> first | omega | assumption | (refine ⟨?_, ?_⟩ <;> assumption) | (refine ⟨?_, ?_, ?_⟩ <;> assumption) | (intros; assumption) | (right; right; assumption) | (right; left; assumption) | (left; assumption)))) (by (first | assumption | (((try simp only [SA] at *); (try simp (disch := omega) only [SB, reduceCtorEq] at *)) <;> first | omega | assumption | (refine ⟨?_, ?_⟩ <;> assumption) | (refine ⟨?_, ?_, ?_⟩ <;> assumption) | (intros; assumption) | (right; right; assumption) | (right; left; assumption) | (left; assumption))))) (cP h0 nilE))) (by kernel_rfl)
set_option maxHeartbeats 4000000 in
theorem rp3 : rp3_T := by
  intro s i hs h2
  have h0 : (decide ((↑i : Int) < (↑(ByteArray.size { data := (List.toArray s) }) : Int))) = false := by (first | assumption | (((try simp only [SA] at *); (try simp (disch := omega) only [SB, reduceCtorEq] at *)) <;> first | omega | assumption | (refine ⟨?_, ?_⟩ <;> assumption) | (refine ⟨?_, ?_, ?_⟩ <;> assumption) | (intros; assumption) | (right; right; assumption) | (right; left; assumption) | (left; assumption)))
  exact (pR (r := ((Ex.exit (nat_lit 0)), { s := [((nat_lit 0), (V.d (D.str s))), ((nat_lit 2), (V.obj (nat_lit 0) (nat_lit 0))), ((nat_lit 4), (V.d (D.int IntKind.i64 (↑i : Int)))), ((nat_lit 9), (V.d (D.bool (decide ((↑i : Int) < (↑(ByteArray.size { data := (List.toArray s) }) : Int))))))], h := [(Ob.cells [(V.d (D.int IntKind.i64 (0 : Int))), (V.d (D.int IntKind.i64 (0 : Int))), (V.d (D.int IntKind.i64 (0 : Int))), (V.tail (nat_lit 48) [] (nat_lit 0)), (V.tail (nat_lit 3) [] (nat_lit 0)), (V.tail (nat_lit 60) [] (nat_lit 0))])], og := [] })) 12 [(2, bf)] (cP h0 nilE) (by kernel_rfl)).to (by ((try simp (disch := omega) only [wrapId, sizeOne, sizeStr, List.length_cons, List.length_nil, wrapU8, toNatAdd, toNatSucc] at *) <;> (try simp only [Int.toNat_natCast, beq_iff_eq, beq_eq_false_iff_ne, bne_iff_ne, bne_eq_false_iff_eq, ne_eq, Int.natCast_eq_zero, Int.natCast_inj] at *) <;> first | (simp (disch := omega) [Ty.enc, wrapId, toNatPred, toNatAdd, toNatSucc, sizeOne, sizeStr, List.length_cons, List.length_nil, wrapU8, ltF, ltT, Ty.slD, *]; done) | (subst_vars; simp (disch := omega) [Ty.enc, wrapId, toNatPred, toNatAdd, toNatSucc, sizeOne, sizeStr, List.length_cons, List.length_nil, wrapU8, ltF, ltT, Ty.slD, *]; done)))
set_option maxHeartbeats 4000000 in
theorem ss1 : ss1_T := by
  intro k a b es rs ns i hl hi
  have h0 : (decide ((↑i : Int) < (↑(List.length es) : Int))) = true := by (first | assumption | (((try simp only [SA] at *); (try simp (disch := omega) only [SB, reduceCtorEq] at *)) <;> first | omega | assumption | (refine ⟨?_, ?_⟩ <;> assumption) | (refine ⟨?_, ?_, ?_⟩ <;> assumption) | (intros; assumption) | (right; right; assumption) | (right; left; assumption) | (left; assumption)))
  exact (pC (st' := { s := [((nat_lit 2), (V.obj (nat_lit 0) (nat_lit 0))), ((nat_lit 3), (V.obj (nat_lit 1) (nat_lit 0))), ((nat_lit 58), (V.d (D.sl (List.flatMap (Ty.enc editT) es) (List.length es)))), ((nat_lit 59), (V.d (D.int IntKind.i64 (↑(List.length es) : Int)))), ((nat_lit 60), (V.d (D.int IntKind.i64 (IntKind.wrap IntKind.i64 ((↑i : Int) + (1 : Int))))))], h := [(Ob.cells [(V.d (D.int IntKind.i64 k)), (V.d (D.int IntKind.i64 a)), (V.d (D.int IntKind.i64 b)), (V.d (D.sl (List.flatMap (Ty.enc editT) es) (List.length es))), (V.d (D.sl (List.flatMap (Ty.enc i64) rs) (List.length rs))), (V.d (D.sl (List.flatMap (Ty.enc inlT) ns) (List.length ns)))]), (Ob.cells [(V.d (D.int IntKind.i64 k)), (V.d (D.int IntKind.i64 a)), (V.d (D.int IntKind.i64 b)), (V.d (D.sl (List.flatMap (Ty.enc editT) es) (List.length es))), (V.d (D.sl (List.flatMap (Ty.enc i64) rs) (List.length rs))), (V.d (D.sl (List.flatMap (Ty.enc inlT) ns) (List.length ns)))])], og := [] }) 12 [(1, bt), (2, .v (V.d (D.ref (List.flatMap (Ty.enc editT) es) ((Int.toNat (↑i : Int)) * (3 : Nat))))), (3, .v (V.d (D.agg (Ty.enc editT (Ty.nth editT es (Int.toNat (↑i : Int))))))), (6, .v (V.d (D.ref (List.flatMap (Ty.enc editT) es) ((Int.toNat (↑i : Int)) * (3 : Nat))))), (7, .v (V.d (D.agg (Ty.enc editT (Ty.nth editT es (Int.toNat (↑i : Int))))))), (8, .v (V.d (D.bool false)))] (cP (@neEdit (Ty.nth editT es (Int.toNat (↑i : Int)))) (cP (@loadEdit (es) ([(Ob.cells [(V.d (D.int IntKind.i64 k)), (V.d (D.int IntKind.i64 a)), (V.d (D.int IntKind.i64 b)), (V.d (D.sl (List.flatMap (Ty.enc editT) es) (List.length es))), (V.d (D.sl (List.flatMap (Ty.enc i64) rs) (List.length rs))), (V.d (D.sl (List.flatMap (Ty.enc inlT) ns) (List.length ns)))]), (Ob.cells [(V.d (D.int IntKind.i64 k)), (V.d (D.int IntKind.i64 a)), (V.d (D.int IntKind.i64 b)), (V.d (D.sl (List.flatMap (Ty.enc editT) es) (List.length es))), (V.d (D.sl (List.flatMap (Ty.enc i64) rs) (List.length rs))), (V.d (D.sl (List.flatMap (Ty.enc inlT) ns) (List.length ns)))]), (Ob.cells [(V.d (D.int IntKind.i64 (Prod.fst (Ty.nth editT es (Int.toNat (↑i : Int)))))), (V.d (D.int IntKind.i64 (Prod.fst (Prod.snd (Ty.nth editT es (Int.toNat (↑i : Int))))))), (V.d (D.str (Prod.fst (Prod.snd (Prod.snd (Ty.nth editT es (Int.toNat (↑i : Int))))))))])]) (Int.toNat (↑i : Int)) (by (first | assumption | (((try simp only [SA] at *); (try simp (disch := omega) only [SB, reduceCtorEq] at *)) <;> first | omega | assumption | (refine ⟨?_, ?_⟩ <;> assumption) | (refine ⟨?_, ?_, ?_⟩ <;> assumption) | (intros; assumption) | (right; right; assumption) | (right; left; assumption) | (left; assumption))))) (cP (@iaddrEdit (es) ((↑i : Int)) (by (first | assumption | (((try simp only [SA] at *); (try simp (disch := omega) only [SB, reduceCtorEq] at *)) <;> first | omega | assumption | (refine ⟨?_, ?_⟩ <;> assumption) | (refine ⟨?_, ?_, ?_⟩ <;> assumption) | (intros; assumption) | (right; right; assumption) | (right; left; assumption) | (left; assumption)))) (by (first | assumption | (((try simp only [SA] at *); (try simp (disch := omega) only [SB, reduceCtorEq] at *)) <;> first | omega | assumption | (refine ⟨?_, ?_⟩ <;> assumption) | (refine ⟨?_, ?_, ?_⟩ <;> assumption) | (intros; assumption) | (right; right; assumption) | (right; left; assumption) | (left; assumption))))) (cP (@loadEdit (es) ([(Ob.cells [(V.d (D.int IntKind.i64 k)), (V.d (D.int IntKind.i64 a)), (V.d (D.int IntKind.i64 b)), (V.d (D.sl (List.flatMap (Ty.enc editT) es) (List.length es))), (V.d (D.sl (List.flatMap (Ty.enc i64) rs) (List.length rs))), (V.d (D.sl (List.flatMap (Ty.enc inlT) ns) (List.length ns)))]), (Ob.cells [(V.d (D.int IntKind.i64 k)), (V.d (D.int IntKind.i64 a)), (V.d (D.int IntKind.i64 b)), (V.d (D.sl (List.flatMap (Ty.enc editT) es) (List.length es))), (V.d (D.sl (List.flatMap (Ty.enc i64) rs) (List.length rs))), (V.d (D.sl (List.flatMap (Ty.enc inlT) ns) (List.length ns)))])]) (Int.toNat (↑i : Int)) (by (first | assumption | (((try simp only [SA] at *); (try simp (disch := omega) only [SB, reduceCtorEq] at *)) <;> first | omega | assumption | (refine ⟨?_, ?_⟩ <;> assumption) | (refine ⟨?_, ?_, ?_⟩ <;> assumption) | (intros; assumption) | (right; right; assumption) | (right; left; assumption) | (left; assumption))))) (cP (@iaddrEdit (es) ((↑i : Int)) (by (first | assumption | (((try simp only [SA] at *); (try simp (disch := omega) only [SB, reduceCtorEq] at *)) <;> first | omega | assumption | (refine ⟨?_, ?_⟩ <;> assumption) | (refine ⟨?_, ?_, ?_⟩ <;> assumption) | (intros; assumption) | (right; right; assumption) | (right; left; assumption) | (left; assumption)))) (by (first | assumption | (((try simp only [SA] at *); (try simp (disch := omega) only [SB, reduceCtorEq] at *)) <;> first | omega | assumption | (refine ⟨?_, ?_⟩ <;> assumption) | (refine ⟨?_, ?_, ?_⟩ <;> assumption) | (intros; assumption) | (right; right; assumption) | (right; left; assumption) | (left; assumption))))) (cP h0 nilE)))))) (by kernel_rfl)).to (by ((try simp (disch := omega) only [wrapId, sizeOne, sizeStr, List.length_cons, List.length_nil, wrapU8, toNatAdd, toNatSucc] at *) <;> (try simp only [Int.toNat_natCast, beq_iff_eq, beq_eq_false_iff_ne, bne_iff_ne, bne_eq_false_iff_eq, ne_eq, Int.natCast_eq_zero, Int.natCast_inj] at *) <;> first | (simp (disch := omega) [Ty.enc, wrapId, toNatPred, toNatAdd, toNatSucc, sizeOne, sizeStr, List.length_cons, List.length_nil, wrapU8, ltF, ltT, Ty.slD, *]; done) | (subst_vars; simp (disch := omega) [Ty.enc, wrapId, toNatPred, toNatAdd, toNatSucc, sizeOne, sizeStr, List.length_cons, List.length_nil, wrapU8, ltF, ltT, Ty.slD, *]; done)))
set_option maxHeartbeats 4000000 in
theorem ss2 : ss2_T := by
  intro k a b es rs ns i hi h2
  have h0 : (decide ((↑i : Int) < (↑(List.length es) : Int))) = false := by (first | assumption | (((try simp only [SA] at *); (try simp (disch := omega) only [SB, reduceCtorEq] at *)) <;> first | omega | assumption | (refine ⟨?_, ?_⟩ <;> assumption) | (refine ⟨?_, ?_, ?_⟩ <;> assumption) | (intros; assumption) | (right; right; assumption) | (right; left; assumption) | (left; assumption)))
  exact (pR (r := ((Ex.exit (nat_lit 0)), { s := [((nat_lit 2), (V.obj (nat_lit 0) (nat_lit 0))), ((nat_lit 3), (V.obj (nat_lit 1) (nat_lit 0))), ((nat_lit 58), (V.d (D.sl (List.flatMap (Ty.enc editT) es) (List.length es)))), ((nat_lit 59), (V.d (D.int IntKind.i64 (↑(List.length es) : Int)))), ((nat_lit 60), (V.d (D.int IntKind.i64 (↑i : Int)))), ((nat_lit 61), (V.d (D.bool (decide ((↑i : Int) < (↑(List.length es) : Int))))))], h := [(Ob.cells [(V.d (D.int IntKind.i64 k)), (V.d (D.int IntKind.i64 a)), (V.d (D.int IntKind.i64 b)), (V.d (D.sl (List.flatMap (Ty.enc editT) es) (List.length es))), (V.d (D.sl (List.flatMap (Ty.enc i64) rs) (List.length rs))), (V.d (D.sl (List.flatMap (Ty.enc inlT) ns) (List.length ns)))]), (Ob.cells [(V.d (D.int IntKind.i64 k)), (V.d (D.int IntKind.i64 a)), (V.d (D.int IntKind.i64 b)), (V.d (D.sl (List.flatMap (Ty.enc editT) es) (List.length es))), (V.d (D.sl (List.flatMap (Ty.enc i64) rs) (List.length rs))), (V.d (D.sl (List.flatMap (Ty.enc inlT) ns) (List.length ns)))])], og := [] })) 12 [(1, bf)] (cP h0 nilE) (by kernel_rfl)).to (by ((try simp (disch := omega) only [wrapId, sizeOne, sizeStr, List.length_cons, List.length_nil, wrapU8, toNatAdd, toNatSucc] at *) <;> (try simp only [Int.toNat_natCast, beq_iff_eq, beq_eq_false_iff_ne, bne_iff_ne, bne_eq_false_iff_eq, ne_eq, Int.natCast_eq_zero, Int.natCast_inj] at *) <;> first | (simp (disch := omega) [Ty.enc, wrapId, toNatPred, toNatAdd, toNatSucc, sizeOne, sizeStr, List.length_cons, List.length_nil, wrapU8, ltF, ltT, Ty.slD, *]; done) | (subst_vars; simp (disch := omega) [Ty.enc, wrapId, toNatPred, toNatAdd, toNatSucc, sizeOne, sizeStr, List.length_cons, List.length_nil, wrapU8, ltF, ltT, Ty.slD, *]; done)))
set_option maxHeartbeats 4000000 in
theorem ss3 : ss3_T := by
  intro k a b es rs ns i hl hi
  have h0 : (decide ((↑i : Int) < (↑(List.length rs) : Int))) = true := by (first | assumption | (((try simp only [SA] at *); (try simp (disch := omega) only [SB, reduceCtorEq] at *)) <;> first | omega | assumption | (refine ⟨?_, ?_⟩ <;> assumption) | (refine ⟨?_, ?_, ?_⟩ <;> assumption) | (intros; assumption) | (right; right; assumption) | (right; left; assumption) | (left; assumption)))
  have h1 : ((intAt rs (Int.toNat (↑i : Int))) != (intAt rs (Int.toNat (↑i : Int)))) = false := by (first | assumption | (((try simp only [SA] at *); (try simp (disch := omega) only [SB, reduceCtorEq] at *)) <;> first | omega | assumption | (refine ⟨?_, ?_⟩ <;> assumption) | (refine ⟨?_, ?_, ?_⟩ <;> assumption) | (intros; assumption) | (right; right; assumption) | (right; left; assumption) | (left; assumption)))
  exact (pC (st' := { s := [((nat_lit 2), (V.obj (nat_lit 0) (nat_lit 0))), ((nat_lit 3), (V.obj (nat_lit 1) (nat_lit 0))), ((nat_lit 74), (V.d (D.sl (List.flatMap (Ty.enc i64) rs) (List.length rs)))), ((nat_lit 75), (V.d (D.int IntKind.i64 (↑(List.length rs) : Int)))), ((nat_lit 76), (V.d (D.int IntKind.i64 (IntKind.wrap IntKind.i64 ((↑i : Int) + (1 : Int))))))], h := [(Ob.cells [(V.d (D.int IntKind.i64 k)), (V.d (D.int IntKind.i64 a)), (V.d (D.int IntKind.i64 b)), (V.d (D.sl (List.flatMap (Ty.enc editT) es) (List.length es))), (V.d (D.sl (List.flatMap (Ty.enc i64) rs) (List.length rs))), (V.d (D.sl (List.flatMap (Ty.enc inlT) ns) (List.length ns)))]), (Ob.cells [(V.d (D.int IntKind.i64 k)), (V.d (D.int IntKind.i64 a)), (V.d (D.int IntKind.i64 b)), (V.d (D.sl (List.flatMap (Ty.enc editT) es) (List.length es))), (V.d (D.sl (List.flatMap (Ty.enc i64) rs) (List.length rs))), (V.d (D.sl (List.flatMap (Ty.enc inlT) ns) (List.length ns)))])], og := [] }) 12 [(1, bt), (2, .v (V.d (D.ref (List.flatMap (Ty.enc i64) rs) ((Int.toNat (↑i : Int)) * (1 : Nat))))), (3, .v (V.d (D.int IntKind.i64 (intAt rs (Int.toNat (↑i : Int)))))), (5, .v (V.d (D.ref (List.flatMap (Ty.enc i64) rs) ((Int.toNat (↑i : Int)) * (1 : Nat))))), (6, .v (V.d (D.int IntKind.i64 (intAt rs (Int.toNat (↑i : Int)))))), (8, bf)] (cP h1 (cP (@loadInt (rs) ([(Ob.cells [(V.d (D.int IntKind.i64 k)), (V.d (D.int IntKind.i64 a)), (V.d (D.int IntKind.i64 b)), (V.d (D.sl (List.flatMap (Ty.enc editT) es) (List.length es))), (V.d (D.sl (List.flatMap (Ty.enc i64) rs) (List.length rs))), (V.d (D.sl (List.flatMap (Ty.enc inlT) ns) (List.length ns)))]), (Ob.cells [(V.d (D.int IntKind.i64 k)), (V.d (D.int IntKind.i64 a)), (V.d (D.int IntKind.i64 b)), (V.d (D.sl (List.flatMap (Ty.enc editT) es) (List.length es))), (V.d (D.sl (List.flatMap (Ty.enc i64) rs) (List.length rs))), (V.d (D.sl (List.flatMap (Ty.enc inlT) ns) (List.length ns)))])]) (Int.toNat (↑i : Int)) (by (first | assumption | (((try simp only [SA] at *); (try simp (disch := omega) only [SB, reduceCtorEq] at *)) <;> first | omega | assumption | (refine ⟨?_, ?_⟩ <;> assumption) | (refine ⟨?_, ?_, ?_⟩ <;> assumption) | (intros; assumption) | (right; right; assumption) | (right; left; assumption) | (left; assumption))))) (cP (@iaddrInt (rs) ((↑i : Int)) (by (first | assumption | (((try simp only [SA] at *); (try simp (disch := omega) only [SB, reduceCtorEq] at *)) <;> first | omega | assumption | (refine ⟨?_, ?_⟩ <;> assumption) | (refine ⟨?_, ?_, ?_⟩ <;> assumption) | (intros; assumption) | (right; right; assumption) | (right; left; assumption) | (left; assumption)))) (by (first | assumption | (((try simp only [SA] at *); (try simp (disch := omega) only [SB, reduceCtorEq] at *)) <;> first | omega | assumption | (refine ⟨?_, ?_⟩ <;> assumption) | (refine ⟨?_, ?_, ?_⟩ <;> assumption) | (intros; assumption) | (right; right; assumption) | (right; left; assumption) | (left; assumption))))) (cP (@loadInt (rs) ([(Ob.cells [(V.d (D.int IntKind.i64 k)), (V.d (D.int IntKind.i64 a)), (V.d (D.int IntKind.i64 b)), (V.d (D.sl (List.flatMap (Ty.enc editT) es) (List.length es))), (V.d (D.sl (List.flatMap (Ty.enc i64) rs) (List.length rs))), (V.d (D.sl (List.flatMap (Ty.enc inlT) ns) (List.length ns)))]), (Ob.cells [(V.d (D.int IntKind.i64 k)), (V.d (D.int IntKind.i64 a)), (V.d (D.int IntKind.i64 b)), (V.d (D.sl (List.flatMap (Ty.enc editT) es) (List.length es))), (V.d (D.sl (List.flatMap (Ty.enc i64) rs) (List.length rs))), (V.d (D.sl (List.flatMap (Ty.enc inlT) ns) (List.length ns)))])]) (Int.toNat (↑i : Int)) (by (first | assumption | (((try simp only [SA] at *); (try simp (disch := omega) only [SB, reduceCtorEq] at *)) <;> first | omega | assumption | (refine ⟨?_, ?_⟩ <;> assumption) | (refine ⟨?_, ?_, ?_⟩ <;> assumption) | (intros; assumption) | (right; right; assumption) | (right; left; assumption) | (left; assumption))))) (cP (@iaddrInt (rs) ((↑i : Int)) (by (first | assumption | (((try simp only [SA] at *); (try simp (disch := omega) only [SB, reduceCtorEq] at *)) <;> first | omega | assumption | (refine ⟨?_, ?_⟩ <;> assumption) | (refine ⟨?_, ?_, ?_⟩ <;> assumption) | (intros; assumption) | (right; right; assumption) | (right; left; assumption) | (left; assumption)))) (by (first | assumption | (((try simp only [SA] at *); (try simp (disch := omega) only [SB, reduceCtorEq] at *)) <;> first | omega | assumption | (refine ⟨?_, ?_⟩ <;> assumption) | (refine ⟨?_, ?_, ?_⟩ <;> assumption) | (intros; assumption) | (right; right; assumption) | (right; left; assumption) | (left; assumption))))) (cP h0 nilE)))))) (by kernel_rfl)).to (by ((try simp (disch := omega) only [wrapId, sizeOne, sizeStr, List.length_cons, List.length_nil, wrapU8, toNatAdd, toNatSucc] at *) <;> (try simp only [Int.toNat_natCast, beq_iff_eq, beq_eq_false_iff_ne, bne_iff_ne, bne_eq_false_iff_eq, ne_eq, Int.natCast_eq_zero, Int.natCast_inj] at *) <;> first | (simp (disch := omega) [Ty.enc, wrapId, toNatPred, toNatAdd, toNatSucc, sizeOne, sizeStr, List.length_cons, List.length_nil, wrapU8, ltF, ltT, Ty.slD, *]; done) | (subst_vars; simp (disch := omega) [Ty.enc, wrapId, toNatPred, toNatAdd, toNatSucc, sizeOne, sizeStr, List.length_cons, List.length_nil, wrapU8, ltF, ltT, Ty.slD, *]; done)))
set_option maxHeartbeats 4000000 in
theorem ss4 : ss4_T := by
  intro k a b es rs ns i hi h2
  have h0 : (decide ((↑i : Int) < (↑(List.length rs) : Int))) = false := by (first | assumption | (((try simp only [SA] at *); (try simp (disch := omega) only [SB, reduceCtorEq] at *)) <;> first | omega | assumption | (refine ⟨?_, ?_⟩ <;> assumption) | (refine ⟨?_, ?_, ?_⟩ <;> assumption) | (intros; assumption) | (right; right; assumption) | (right; left; assumption) | (left; assumption)))
  exact (pR (r := ((Ex.exit (nat_lit 2)), { s := [((nat_lit 2), (V.obj (nat_lit 0) (nat_lit 0))), ((nat_lit 3), (V.obj (nat_lit 1) (nat_lit 0))), ((nat_lit 74), (V.d (D.sl (List.flatMap (Ty.enc i64) rs) (List.length rs)))), ((nat_lit 75), (V.d (D.int IntKind.i64 (↑(List.length rs) : Int)))), ((nat_lit 76), (V.d (D.int IntKind.i64 (↑i : Int)))), ((nat_lit 77), (V.d (D.bool (decide ((↑i : Int) < (↑(List.length rs) : Int))))))], h := [(Ob.cells [(V.d (D.int IntKind.i64 k)), (V.d (D.int IntKind.i64 a)), (V.d (D.int IntKind.i64 b)), (V.d (D.sl (List.flatMap (Ty.enc editT) es) (List.length es))), (V.d (D.sl (List.flatMap (Ty.enc i64) rs) (List.length rs))), (V.d (D.sl (List.flatMap (Ty.enc inlT) ns) (List.length ns)))]), (Ob.cells [(V.d (D.int IntKind.i64 k)), (V.d (D.int IntKind.i64 a)), (V.d (D.int IntKind.i64 b)), (V.d (D.sl (List.flatMap (Ty.enc editT) es) (List.length es))), (V.d (D.sl (List.flatMap (Ty.enc i64) rs) (List.length rs))), (V.d (D.sl (List.flatMap (Ty.enc inlT) ns) (List.length ns)))])], og := [] })) 12 [(1, bf)] (cP h0 nilE) (by kernel_rfl)).to (by ((try simp (disch := omega) only [wrapId, sizeOne, sizeStr, List.length_cons, List.length_nil, wrapU8, toNatAdd, toNatSucc] at *) <;> (try simp only [Int.toNat_natCast, beq_iff_eq, beq_eq_false_iff_ne, bne_iff_ne, bne_eq_false_iff_eq, ne_eq, Int.natCast_eq_zero, Int.natCast_inj] at *) <;> first | (simp (disch := omega) [Ty.enc, wrapId, toNatPred, toNatAdd, toNatSucc, sizeOne, sizeStr, List.length_cons, List.length_nil, wrapU8, ltF, ltT, Ty.slD, *]; done) | (subst_vars; simp (disch := omega) [Ty.enc, wrapId, toNatPred, toNatAdd, toNatSucc, sizeOne, sizeStr, List.length_cons, List.length_nil, wrapU8, ltF, ltT, Ty.slD, *]; done)))
set_option maxHeartbeats 4000000 in
theorem ss5 : ss5_T := by
  intro k a b es rs ns i hl hi
  have h0 : (decide ((↑i : Int) < (↑(List.length ns) : Int))) = true := by (first | assumption | (((try simp only [SA] at *); (try simp (disch := omega) only [SB, reduceCtorEq] at *)) <;> first | omega | assumption | (refine ⟨?_, ?_⟩ <;> assumption) | (refine ⟨?_, ?_, ?_⟩ <;> assumption) | (intros; assumption) | (right; right; assumption) | (right; left; assumption) | (left; assumption)))
  exact (pC (st' := { s := [((nat_lit 3), (V.obj (nat_lit 1) (nat_lit 0))), ((nat_lit 90), (V.d (D.sl (List.flatMap (Ty.enc inlT) ns) (List.length ns)))), ((nat_lit 91), (V.d (D.int IntKind.i64 (↑(List.length ns) : Int)))), ((nat_lit 92), (V.d (D.int IntKind.i64 (IntKind.wrap IntKind.i64 ((↑i : Int) + (1 : Int))))))], h := [(Ob.cells [(V.d (D.int IntKind.i64 k)), (V.d (D.int IntKind.i64 a)), (V.d (D.int IntKind.i64 b)), (V.d (D.sl (List.flatMap (Ty.enc editT) es) (List.length es))), (V.d (D.sl (List.flatMap (Ty.enc i64) rs) (List.length rs))), (V.d (D.sl (List.flatMap (Ty.enc inlT) ns) (List.length ns)))]), (Ob.cells [(V.d (D.int IntKind.i64 k)), (V.d (D.int IntKind.i64 a)), (V.d (D.int IntKind.i64 b)), (V.d (D.sl (List.flatMap (Ty.enc editT) es) (List.length es))), (V.d (D.sl (List.flatMap (Ty.enc i64) rs) (List.length rs))), (V.d (D.sl (List.flatMap (Ty.enc inlT) ns) (List.length ns)))])], og := [] }) 12 [(1, bt), (2, .v (V.d (D.ref (List.flatMap (Ty.enc inlT) ns) ((Int.toNat (↑i : Int)) * (5 : Nat))))), (3, .v (V.d (D.agg (Ty.enc inlT (Ty.nth inlT ns (Int.toNat (↑i : Int))))))), (6, .v (V.d (D.ref (List.flatMap (Ty.enc inlT) ns) ((Int.toNat (↑i : Int)) * (5 : Nat))))), (7, .v (V.d (D.agg (Ty.enc inlT (Ty.nth inlT ns (Int.toNat (↑i : Int))))))), (8, .v (V.d (D.bool false)))] (cP (@neInl (Ty.nth inlT ns (Int.toNat (↑i : Int)))) (cP (@loadInl (ns) ([(Ob.cells [(V.d (D.int IntKind.i64 k)), (V.d (D.int IntKind.i64 a)), (V.d (D.int IntKind.i64 b)), (V.d (D.sl (List.flatMap (Ty.enc editT) es) (List.length es))), (V.d (D.sl (List.flatMap (Ty.enc i64) rs) (List.length rs))), (V.d (D.sl (List.flatMap (Ty.enc inlT) ns) (List.length ns)))]), (Ob.cells [(V.d (D.int IntKind.i64 k)), (V.d (D.int IntKind.i64 a)), (V.d (D.int IntKind.i64 b)), (V.d (D.sl (List.flatMap (Ty.enc editT) es) (List.length es))), (V.d (D.sl (List.flatMap (Ty.enc i64) rs) (List.length rs))), (V.d (D.sl (List.flatMap (Ty.enc inlT) ns) (List.length ns)))]), (Ob.cells [(V.d (D.int IntKind.i64 (Prod.fst (Ty.nth inlT ns (Int.toNat (↑i : Int)))))), (V.d (D.int IntKind.i64 (Prod.fst (Prod.snd (Ty.nth inlT ns (Int.toNat (↑i : Int))))))), (V.d (D.int IntKind.i64 (Prod.fst (Prod.snd (Prod.snd (Ty.nth inlT ns (Int.toNat (↑i : Int)))))))), (V.d (D.int IntKind.i64 (Prod.fst (Prod.snd (Prod.snd (Prod.snd (Ty.nth inlT ns (Int.toNat (↑i : Int))))))))), (V.d (D.str (Prod.fst (Prod.snd (Prod.snd (Prod.snd (Prod.snd (Ty.nth inlT ns (Int.toNat (↑i : Int))))))))))])]) (Int.toNat (↑i : Int)) (by (first | assumption | (((try simp only [SA] at *); (try simp (disch := omega) only [SB, reduceCtorEq] at *)) <;> first | omega | assumption | (refine ⟨?_, ?_⟩ <;> assumption) | (refine ⟨?_, ?_, ?_⟩ <;> assumption) | (intros; assumption) | (right; right; assumption) | (right; left; assumption) | (left; assumption))))) (cP (@iaddrInl (ns) ((↑i : Int)) (by (first | assumption | (((try simp only [SA] at *); (try simp (disch := omega) only [SB, reduceCtorEq] at *)) <;> first | omega | assumption | (refine ⟨?_, ?_⟩ <;> assumption) | (refine ⟨?_, ?_, ?_⟩ <;> assumption) | (intros; assumption) | (right; right; assumption) | (right; left; assumption) | (left; assumption)))) (by (first | assumption | (((try simp only [SA] at *); (try simp (disch := omega) only [SB, reduceCtorEq] at *)) <;> first | omega | assumption | (refine ⟨?_, ?_⟩ <;> assumption) | (refine ⟨?_, ?_, ?_⟩ <;> assumption) | (intros; assumption) | (right; right; assumption) | (right; left; assumption) | (left; assumption))))) (cP (@loadInl (ns) ([(Ob.cells [(V.d (D.int IntKind.i64 k)), (V.d (D.int IntKind.i64 a)), (V.d (D.int IntKind.i64 b)), (V.d (D.sl (List.flatMap (Ty.enc editT) es) (List.length es))), (V.d (D.sl (List.flatMap (Ty.enc i64) rs) (List.length rs))), (V.d (D.sl (List.flatMap (Ty.enc inlT) ns) (List.length ns)))]), (Ob.cells [(V.d (D.int IntKind.i64 k)), (V.d (D.int IntKind.i64 a)), (V.d (D.int IntKind.i64 b)), (V.d (D.sl (List.flatMap (Ty.enc editT) es) (List.length es))), (V.d (D.sl (List.flatMap (Ty.enc i64) rs) (List.length rs))), (V.d (D.sl (List.flatMap (Ty.enc inlT) ns) (List.length ns)))])]) (Int.toNat (↑i : Int)) (by (first | assumption | (((try simp only [SA] at *); (try simp (disch := omega) only [SB, reduceCtorEq] at *)) <;> first | omega | assumption | (refine ⟨?_, ?_⟩ <;> assumption) | (refine ⟨?_, ?_, ?_⟩ <;> assumption) | (intros; assumption) | (right; right; assumption) | (right; left; assumption) | (left; assumption))))) (cP (@iaddrInl (ns) ((↑i : Int)) (by (first | assumption | (((try simp only [SA] at *); (try simp (disch := omega) only [SB, reduceCtorEq] at *)) <;> first | omega | assumption | (refine ⟨?_, ?_⟩ <;> assumption) | (refine ⟨?_, ?_, ?_⟩ <;> assumption) | (intros; assumption) | (right; right; assumption) | (right; left; assumption) | (left; assumption)))) (by (first | assumption | (((try simp only [SA] at *); (try simp (disch := omega) only [SB, reduceCtorEq] at *)) <;> first | omega | assumption | (refine ⟨?_, ?_⟩ <;> assumption) | (refine ⟨?_, ?_, ?_⟩ <;> assumption) | (intros; assumption) | (right; right; assumption) | (right; left; assumption) | (left; assumption))))) (cP h0 nilE)))))) (by kernel_rfl)).to (by ((try simp (disch := omega) only [wrapId, sizeOne, sizeStr, List.length_cons, List.length_nil, wrapU8, toNatAdd, toNatSucc] at *) <;> (try simp only [Int.toNat_natCast, beq_iff_eq, beq_eq_false_iff_ne, bne_iff_ne, bne_eq_false_iff_eq, ne_eq, Int.natCast_eq_zero, Int.natCast_inj] at *) <;> first | (simp (disch := omega) [Ty.enc, wrapId, toNatPred, toNatAdd, toNatSucc, sizeOne, sizeStr, List.length_cons, List.length_nil, wrapU8, ltF, ltT, Ty.slD, *]; done) | (subst_vars; simp (disch := omega) [Ty.enc, wrapId, toNatPred, toNatAdd, toNatSucc, sizeOne, sizeStr, List.length_cons, List.length_nil, wrapU8, ltF, ltT, Ty.slD, *]; done)))
set_option maxHeartbeats 4000000 in
theorem ss6 : ss6_T := by
  intro k a b es rs ns i hi h2
  have h0 : (decide ((↑i : Int) < (↑(List.length ns) : Int))) = false := by (first | assumption | (((try simp only [SA] at *); (try simp (disch := omega) only [SB, reduceCtorEq] at *)) <;> first | omega | assumption | (refine ⟨?_, ?_⟩ <;> assumption) | (refine ⟨?_, ?_, ?_⟩ <;> assumption) | (intros; assumption) | (right; right; assumption) | (right; left; assumption) | (left; assumption)))
  exact (pR (r := ((Ex.exit (nat_lit 4)), { s := [((nat_lit 3), (V.obj (nat_lit 1) (nat_lit 0))), ((nat_lit 90), (V.d (D.sl (List.flatMap (Ty.enc inlT) ns) (List.length ns)))), ((nat_lit 91), (V.d (D.int IntKind.i64 (↑(List.length ns) : Int)))), ((nat_lit 92), (V.d (D.int IntKind.i64 (↑i : Int)))), ((nat_lit 93), (V.d (D.bool (decide ((↑i : Int) < (↑(List.length ns) : Int))))))], h := [(Ob.cells [(V.d (D.int IntKind.i64 k)), (V.d (D.int IntKind.i64 a)), (V.d (D.int IntKind.i64 b)), (V.d (D.sl (List.flatMap (Ty.enc editT) es) (List.length es))), (V.d (D.sl (List.flatMap (Ty.enc i64) rs) (List.length rs))), (V.d (D.sl (List.flatMap (Ty.enc inlT) ns) (List.length ns)))]), (Ob.cells [(V.d (D.int IntKind.i64 k)), (V.d (D.int IntKind.i64 a)), (V.d (D.int IntKind.i64 b)), (V.d (D.sl (List.flatMap (Ty.enc editT) es) (List.length es))), (V.d (D.sl (List.flatMap (Ty.enc i64) rs) (List.length rs))), (V.d (D.sl (List.flatMap (Ty.enc inlT) ns) (List.length ns)))])], og := [] })) 12 [(1, bf)] (cP h0 nilE) (by kernel_rfl)).to (by ((try simp (disch := omega) only [wrapId, sizeOne, sizeStr, List.length_cons, List.length_nil, wrapU8, toNatAdd, toNatSucc] at *) <;> (try simp only [Int.toNat_natCast, beq_iff_eq, beq_eq_false_iff_ne, bne_iff_ne, bne_eq_false_iff_eq, ne_eq, Int.natCast_eq_zero, Int.natCast_inj] at *) <;> first | (simp (disch := omega) [Ty.enc, wrapId, toNatPred, toNatAdd, toNatSucc, sizeOne, sizeStr, List.length_cons, List.length_nil, wrapU8, ltF, ltT, Ty.slD, *]; done) | (subst_vars; simp (disch := omega) [Ty.enc, wrapId, toNatPred, toNatAdd, toNatSucc, sizeOne, sizeStr, List.length_cons, List.length_nil, wrapU8, ltF, ltT, Ty.slD, *]; done)))
end Go.Proofs.YtgiahagbmgnmkaaDoor.Script
/- Script: loops of the reference's numbers, Parse, Same; their statements; rounds of edits and inlays. -/
set_option linter.unusedVariables false
set_option linter.unusedSimpArgs false
namespace Go.Proofs.YtgiahagbmgnmkaaDoor.Script
open Go Pv G
theorem strAt_sm {l : List Str} (h : Sm l) (k : Nat) : (strAt l k).length ≤ 1000000 := by
  by_cases hk : k < l.length
  · have e : strAt l k = l[k] := by unfold strAt; rw [List.getD_eq_getElem?_getD, List.getElem?_eq_getElem hk]; rfl
    rw [e]; exact h _ (List.getElem_mem hk)
  · unfold strAt
    rw [List.getD_eq_getElem?_getD, List.getElem?_eq_none (by omega)]; simp
theorem smTake {ws : List Str} (n : Nat) (h : Sm ws) : Sm (ws.take n) := fun w hw => h w (List.mem_of_mem_take hw)
theorem okAll_iff (l : List Str) : okAll l = true ↔ ∀ j, j < l.length → numOkW (strAt l j) = true := by
  unfold okAll
  rw [List.all_eq_true]
  constructor
  · intro h j hj
    have e : strAt l j = l[j] := by unfold strAt; rw [List.getD_eq_getElem?_getD, List.getElem?_eq_getElem hj]; rfl
    rw [e]; exact h _ (List.getElem_mem hj)
  · intro h w hw
    obtain ⟨j, hj, e⟩ := List.getElem_of_mem hw
    have e2 : strAt l j = l[j] := by unfold strAt; rw [List.getD_eq_getElem?_getD, List.getElem?_eq_getElem hj]; rfl
    rw [← e, ← e2]; exact h j hj
theorem okAll_no {l : List Str} (h : okAll l = false) : ∃ j, j < l.length ∧ numOkW (strAt l j) = false := by
  refine Classical.byContradiction fun hn => ?_
  have := (okAll_iff l).2 (fun j hj => by
    cases hb : numOkW (strAt l j) with
    | true => rfl
    | false => exact absurd ⟨j, hj, hb⟩ hn)
  rw [h] at this; cases this
theorem nmYesC (l : List Str) (hl : l.length ≤ 1000000) (hs : Sm l) : ∀ f i out k, i + f = l.length → out.length ≤ i → (∀ j, i ≤ j → j < l.length → numOkW (strAt l j) = true) → f < k → LpC X0 0 (ntOf X0 FNs) (lpKeep X0 FNs 0) (lpBody X0 FNs 0) 0 k (stM l out i) (.exit 0, stMx l (out ++ (l.drop i).map numVW) l.length) := by
  intro f
  induction f with
  | zero =>
    intro i out k hi ho h hk
    obtain rfl : i = l.length := by omega
    rw [List.drop_of_length_le (Nat.le_refl _), List.map_nil, List.append_nil]
    exact LpC.last (rm5 l out l.length (by omega) hl) (by simp)
  | succ f ih =>
    intro i out k hi ho h hk
    obtain ⟨k, rfl⟩ : ∃ x, k = x + 1 := ⟨k - 1, by omega⟩
    have hlt : i < l.length := by omega
    have e : strAt l i = l[i] := by unfold strAt; rw [List.getD_eq_getElem?_getD, List.getElem?_eq_getElem hlt]; rfl
    have := ih (i + 1) (out ++ [numVW (strAt l i)]) k (by omega) (by simp; omega) (fun j hj => h j (by omega)) (by omega)
    rw [List.drop_eq_getElem_cons hlt, List.map_cons, ← e]
    rw [List.append_assoc] at this
    exact LpC.next (rm1 l out i _ hl (by omega) hlt (strAt_sm hs i) (h i (Nat.le_refl _) hlt) rfl) this
theorem nmNoC (l : List Str) (hl : l.length ≤ 1000000) (hs : Sm l) : ∀ f i out k, i + f = l.length → out.length ≤ i → (∃ j, i ≤ j ∧ j < l.length ∧ numOkW (strAt l j) = false) → f < k → LpC X0 0 (ntOf X0 FNs) (lpKeep X0 FNs 0) (lpBody X0 FNs 0) 0 k (stM l out i) (.ret, stMr) := by
  intro f
  induction f with
  | zero => intro i out k hi ho ⟨j, a, b, _⟩; omega
  | succ f ih =>
    intro i out k hi ho ⟨j, a, b, c⟩ hk
    obtain ⟨k, rfl⟩ : ∃ x, k = x + 1 := ⟨k - 1, by omega⟩
    have hlt : i < l.length := by omega
    cases hb : numOkW (strAt l i) with
    | true =>
      have hj : j ≠ i := by rintro rfl; rw [hb] at c; cases c
      exact LpC.next (rm1 l out i _ hl (by omega) hlt (strAt_sm hs i) hb rfl) (ih (i + 1) _ k (by omega) (by simp; omega) ⟨j, by omega, b, c⟩ (by omega))
    | false => exact LpC.last (rm3 l out i hl (by omega) hlt (strAt_sm hs i) hb) (by simp)
def nmYesL_T : Prop := ∀ (l : List Str) (ns : List Int) (hl : l.length ≤ 1000000) (hs : Sm l) (h0 : 0 < l.length) (h : okAll l = true) (e : l.map numVW = ns), Lp X0 0 (ntOf X0 FNs) (lpKeep X0 FNs 0) (lpBody X0 FNs 0) 0 FUEL (stM0 l) (.exit 0, stMx l ns l.length)
theorem nmYesL : nmYesL_T := fun l ns hl hs h0 h e => by
  subst e
  have ho := (okAll_iff l).1 h
  have e1 : l.map numVW = [numVW (strAt l 0)] ++ (l.drop 1).map numVW := by
    obtain ⟨a, t, rfl⟩ := List.exists_cons_of_ne_nil (show l ≠ [] from fun e => by rw [e] at h0; simp at h0)
    rfl
  rw [e1]
  exact LpC.start (m := 1152921504606846975) (LpC.next (rm2 l _ hl h0 (strAt_sm hs 0) (ho 0 h0) rfl) (nmYesC l hl hs (l.length - 1) 1 _ _ (by omega) (by simp) (fun j _ hj => ho j hj) (show l.length - 1 < 1152921504606846974 by omega))) (by kernel_rfl)
def nmNoL_T : Prop := ∀ (l : List Str) (hl : l.length ≤ 1000000) (hs : Sm l) (h : okAll l = false), Lp X0 0 (ntOf X0 FNs) (lpKeep X0 FNs 0) (lpBody X0 FNs 0) 0 FUEL (stM0 l) (.ret, stMr)
theorem nmNoC0 (l : List Str) (hl : l.length ≤ 1000000) (hs : Sm l) (h : okAll l = false) (k : Nat) (hk : l.length < k) : LpC X0 0 (ntOf X0 FNs) (lpKeep X0 FNs 0) (lpBody X0 FNs 0) 0 k (stM0 l) (.ret, stMr) := by
  obtain ⟨j, hj, c⟩ := okAll_no h
  obtain ⟨k, rfl⟩ : ∃ x, k = x + 1 := ⟨k - 1, by omega⟩
  cases hb : numOkW (strAt l 0) with
  | true =>
    have hj0 : j ≠ 0 := by rintro rfl; rw [hb] at c; cases c
    exact LpC.next (rm2 l _ hl (by omega) (strAt_sm hs 0) hb rfl) (nmNoC l hl hs (l.length - 1) 1 _ _ (by omega) (by simp) ⟨j, by omega, hj, c⟩ (by omega))
  | false => exact LpC.last (rm4 l hl (by omega) (strAt_sm hs 0) hb) (by simp)
theorem nmNoL : nmNoL_T := fun l hl hs h => LpC.start (m := 1152921504606846975) (nmNoC0 l hl hs h _ (by omega)) (by kernel_rfl)
def nmEmpL_T : Prop := ∀ (l : List Str) (h : l.length = 0), Lp X0 0 (ntOf X0 FNs) (lpKeep X0 FNs 0) (lpBody X0 FNs 0) 0 FUEL (stM0 l) (.exit 0, stM0x l)
theorem nmEmpC (l : List Str) (h : l.length = 0) (k : Nat) : LpC X0 0 (ntOf X0 FNs) (lpKeep X0 FNs 0) (lpBody X0 FNs 0) 0 (k + 1) (stM0 l) (.exit 0, stM0x l) := LpC.last (rm6 l h) (by simp)
theorem nmEmpL : nmEmpL_T := fun l h => LpC.start (m := 1152921504606846975) (nmEmpC l h 1152921504606846974) (by kernel_rfl)
def nmY_T : Prop := ∀ (l : List Str) (ns : List Int) (hl : l.length ≤ 1000000) (hs : Sm l) (h0 : 0 < l.length) (h : okAll l = true) (e : l.map numVW = ns), Ans X0 FNs [.d (strsD l)] (.d (i64.slD ns))
def nmN_T : Prop := ∀ (l : List Str) (hl : l.length ≤ 1000000) (hs : Sm l) (h : okAll l = false), Ans X0 FNs [.d (strsD l)] (i64.tailV 3 [])
def nmE_T : Prop := ∀ (l : List Str) (h : l.length = 0), Ans X0 FNs [.d (strsD l)] (.full [] 0)
/- is there a line's end? -/
theorem nlNoC (s : Str) (hs : s.length ≤ 1000000) : ∀ f i k, i + f = s.length → (∀ j, i ≤ j → j < s.length → byteAt s j ≠ 10) → f < k → LpC X0 0 (ntOf X0 FPr) (lpKeep X0 FPr 0) (lpBody X0 FPr 0) 1 k (stP s i) (.exit 0, stPx s s.length) := by
  intro f
  induction f with
  | zero =>
    intro i k hi h hk
    obtain rfl : i = s.length := by omega
    exact LpC.last (rp3 s s.length (by omega) hs) (by simp)
  | succ f ih =>
    intro i k hi h hk
    obtain ⟨k, rfl⟩ : ∃ x, k = x + 1 := ⟨k - 1, by omega⟩
    exact LpC.next (rp1 s i hs (by omega) (h i (Nat.le_refl _) (by omega))) (ih (i + 1) k (by omega) (fun j hj => h j (by omega)) (by omega))
theorem nlYesC (s : Str) (hs : s.length ≤ 1000000) : ∀ f i k, i + f = s.length → (∃ j, i ≤ j ∧ j < s.length ∧ byteAt s j = 10) → f < k → LpC X0 0 (ntOf X0 FPr) (lpKeep X0 FPr 0) (lpBody X0 FPr 0) 1 k (stP s i) (.ret, stPr) := by
  intro f
  induction f with
  | zero => intro i k hi ⟨j, a, b, _⟩; omega
  | succ f ih =>
    intro i k hi ⟨j, a, b, c⟩ hk
    obtain ⟨k, rfl⟩ : ∃ x, k = x + 1 := ⟨k - 1, by omega⟩
    by_cases h : byteAt s i = 10
    · exact LpC.last (rp2 s i hs (by omega) h) (by simp)
    · have hj : j ≠ i := by rintro rfl; exact h c
      exact LpC.next (rp1 s i hs (by omega) h) (ih (i + 1) k (by omega) ⟨j, by omega, b, c⟩ (by omega))
def nlNoL_T : Prop := ∀ (s : Str) (hs : s.length ≤ 1000000) (h : hasC 10 s = false), Lp X0 0 (ntOf X0 FPr) (lpKeep X0 FPr 0) (lpBody X0 FPr 0) 1 FUEL (stP s 0) (.exit 0, stPx s s.length)
theorem nlNoL : nlNoL_T := fun s hs h => LpC.start (m := 1152921504606846975) (nlNoC s hs s.length 0 _ (by omega) (fun j _ hj => (nonl_of h) j) (by omega)) (by kernel_rfl)
def nlYesL_T : Prop := ∀ (s : Str) (hs : s.length ≤ 1000000) (h : hasC 10 s = true), Lp X0 0 (ntOf X0 FPr) (lpKeep X0 FPr 0) (lpBody X0 FPr 0) 1 FUEL (stP s 0) (.ret, stPr)
theorem nlYesL : nlYesL_T := fun s hs h => LpC.start (m := 1152921504606846975) (nlYesC s hs s.length 0 _ (by omega) (by obtain ⟨j, a, b⟩ := (hasC_iff 10 s).1 h; exact ⟨j, by omega, a, b⟩) (by omega)) (by kernel_rfl)
/- Same -/
theorem same1C (k a b : Int) (es : List Edit) (rs : List Int) (ns : List Inl) (hl : es.length ≤ 1000000000) : ∀ f i m, i + f = es.length → f < m → LpC X0 0 (ntOf X0 FSm) (lpKeep X0 FSm 0) (lpBody X0 FSm 0) 2 m (stS1 k a b es rs ns i) (.exit 0, stS1x k a b es rs ns es.length) := by
  intro f
  induction f with
  | zero =>
    intro i m hi hk
    obtain rfl : i = es.length := by omega
    exact LpC.last (ss2 k a b es rs ns es.length (by omega) hl) (by simp)
  | succ f ih =>
    intro i m hi hk
    obtain ⟨m, rfl⟩ : ∃ x, m = x + 1 := ⟨m - 1, by omega⟩
    exact LpC.next (ss1 k a b es rs ns i hl (by omega)) (ih (i + 1) m (by omega) (by omega))
theorem same2C (k a b : Int) (es : List Edit) (rs : List Int) (ns : List Inl) (hl : rs.length ≤ 1000000000) : ∀ f i m, i + f = rs.length → f < m → LpC X0 0 (ntOf X0 FSm) (lpKeep X0 FSm 1) (lpBody X0 FSm 1) 2 m (stS2 k a b es rs ns i) (.exit 2, stS2x k a b es rs ns rs.length) := by
  intro f
  induction f with
  | zero =>
    intro i m hi hk
    obtain rfl : i = rs.length := by omega
    exact LpC.last (ss4 k a b es rs ns rs.length (by omega) hl) (by simp)
  | succ f ih =>
    intro i m hi hk
    obtain ⟨m, rfl⟩ : ∃ x, m = x + 1 := ⟨m - 1, by omega⟩
    exact LpC.next (ss3 k a b es rs ns i hl (by omega)) (ih (i + 1) m (by omega) (by omega))
theorem same3C (k a b : Int) (es : List Edit) (rs : List Int) (ns : List Inl) (hl : ns.length ≤ 1000000000) : ∀ f i m, i + f = ns.length → f < m → LpC X0 0 (ntOf X0 FSm) (lpKeep X0 FSm 2) (lpBody X0 FSm 2) 2 m (stS3 k a b es rs ns i) (.exit 4, stS3x k a b es rs ns ns.length) := by
  intro f
  induction f with
  | zero =>
    intro i m hi hk
    obtain rfl : i = ns.length := by omega
    exact LpC.last (ss6 k a b es rs ns ns.length (by omega) hl) (by simp)
  | succ f ih =>
    intro i m hi hk
    obtain ⟨m, rfl⟩ : ∃ x, m = x + 1 := ⟨m - 1, by omega⟩
    exact LpC.next (ss5 k a b es rs ns i hl (by omega)) (ih (i + 1) m (by omega) (by omega))
abbrev stS2y (k a b : Int) (es : List Edit) (rs : List Int) (ns : List Inl) : St := ⟨[(2, .obj 0 0), (3, .obj 1 0), (74, .d (i64.slD rs)), (75, .d (.int .i64 rs.length)), (76, .d (.int .i64 0))], [obO k a b es rs ns, obO k a b es rs ns], []⟩
def same1L_T : Prop := ∀ (k a b : Int) (es : List Edit) (rs : List Int) (ns : List Inl) (hl : es.length ≤ 1000000000), Lp X0 0 (ntOf X0 FSm) (lpKeep X0 FSm 0) (lpBody X0 FSm 0) 2 FUEL (stS1 k a b es rs ns 0) (.exit 0, stS1x k a b es rs ns es.length)
theorem same1L : same1L_T := fun k a b es rs ns hl => LpC.start (m := 1152921504606846975) (same1C k a b es rs ns hl es.length 0 _ (by omega) (by omega)) (by kernel_rfl)
def same2L_T : Prop := ∀ (k a b : Int) (es : List Edit) (rs : List Int) (ns : List Inl) (hl : rs.length ≤ 1000000000), Lp X0 0 (ntOf X0 FSm) (lpKeep X0 FSm 1) (lpBody X0 FSm 1) 2 FUEL (stS2 k a b es rs ns 0) (.exit 2, stS2x k a b es rs ns rs.length)
theorem same2L : same2L_T := fun k a b es rs ns hl => LpC.start (m := 1152921504606846975) (same2C k a b es rs ns hl rs.length 0 _ (by omega) (by omega)) (by kernel_rfl)
def same3L_T : Prop := ∀ (k a b : Int) (es : List Edit) (rs : List Int) (ns : List Inl) (hl : ns.length ≤ 1000000000), Lp X0 0 (ntOf X0 FSm) (lpKeep X0 FSm 2) (lpBody X0 FSm 2) 2 FUEL (stS3 k a b es rs ns 0) (.exit 4, stS3x k a b es rs ns ns.length)
theorem same3L : same3L_T := fun k a b es rs ns hl => LpC.start (m := 1152921504606846975) (same3C k a b es rs ns hl ns.length 0 _ (by omega) (by omega)) (by kernel_rfl)
def sameX_T : Prop := ∀ (k a b : Int) (es : List Edit) (rs : List Int) (ns : List Inl) (h1 : es.length ≤ 1000000000) (h2 : rs.length ≤ 1000000000) (h3 : ns.length ≤ 1000000000), Ans X0 FSm [.d (opR k a b es rs ns), .d (opR k a b es rs ns)] (.d (.bool true))
/- edits -/
def sliceTo_T : Prop := ∀ (l m : List Str) (b : Nat) (h2 : b ≤ l.length) (e : l.take b = m), sliceV X0 41 (.d (strsD l)) none (some (.d (.int .i64 (b : Int)))) none = some (.d (strsD m))
theorem sliceTo : sliceTo_T := fun l m b h2 e => by subst e; exact sliceUpto l b (by omega) (by omega)
def sliceMid_T : Prop := ∀ (l m : List Str) (a b : Nat) (h1 : a ≤ b) (h2 : b ≤ l.length) (e : mid l a b = m), sliceV X0 41 (.d (strsD l)) (some (.d (.int .i64 (a : Int)))) (some (.d (.int .i64 (b : Int)))) none = some (.d (strsD m))
theorem sliceMid : sliceMid_T := fun l m a b h1 h2 e => by
  subst e
  have := sliceSl (X := X0) (t := 41) (te := 9) (e := strT) (by kernel_rfl) (by kernel_rfl) (l := l) (a := a) (b := b) (by omega) (by omega) (by omega)
  rw [strsFlat] at this
  exact this.trans (by rw [strsFlat]; rfl)
def sliceFr_T : Prop := ∀ (l m : List Str) (a : Nat) (h1 : a ≤ l.length) (e : l.drop a = m), sliceV X0 41 (.d (strsD l)) (some (.d (.int .i64 (a : Int)))) none none = some (.d (strsD m))
theorem sliceFr : sliceFr_T := fun l m a h1 e => by subst e; exact sliceFrom l a (by omega) (by omega)
def sliceTo2_T : Prop := ∀ (l m : List Str) (h2 : 2 ≤ l.length) (e : l.take 2 = m), sliceV X0 41 (.d (strsD l)) none (some (.d (.int .i64 2))) none = some (.d (strsD m))
theorem sliceTo2 : sliceTo2_T := fun l m h2 e => sliceTo l m 2 h2 e
def sliceFr1_T : Prop := ∀ (l m : List Str) (h2 : 1 ≤ l.length) (e : l.drop 1 = m), sliceV X0 41 (.d (strsD l)) (some (.d (.int .i64 1))) none none = some (.d (strsD m))
theorem sliceFr1 : sliceFr1_T := fun l m h2 e => sliceFr l m 1 h2 e
def sliceFr2_T : Prop := ∀ (l m : List Str) (h2 : 2 ≤ l.length) (e : l.drop 2 = m), sliceV X0 41 (.d (strsD l)) (some (.d (.int .i64 2))) none none = some (.d (strsD m))
theorem sliceFr2 : sliceFr2_T := fun l m h2 e => sliceFr l m 2 h2 e
def sliceFr3_T : Prop := ∀ (l m : List Str) (h2 : 3 ≤ l.length) (e : l.drop 3 = m), sliceV X0 41 (.d (strsD l)) (some (.d (.int .i64 3))) none none = some (.d (strsD m))
theorem sliceFr3 : sliceFr3_T := fun l m h2 e => sliceFr l m 3 h2 e
def sliceFr6_T : Prop := ∀ (l m : List Str) (h2 : 6 ≤ l.length) (e : l.drop 6 = m), sliceV X0 41 (.d (strsD l)) (some (.d (.int .i64 6))) none none = some (.d (strsD m))
theorem sliceFr6 : sliceFr6_T := fun l m h2 e => sliceFr l m 6 h2 e
def sliceMid12_T : Prop := ∀ (l m : List Str) (h2 : 2 ≤ l.length) (e : mid l 1 2 = m), sliceV X0 41 (.d (strsD l)) (some (.d (.int .i64 1))) (some (.d (.int .i64 2))) none = some (.d (strsD m))
theorem sliceMid12 : sliceMid12_T := fun l m h2 e => sliceMid l m 1 2 (by decide) h2 e
def sliceMid15_T : Prop := ∀ (l m : List Str) (h2 : 5 ≤ l.length) (e : mid l 1 5 = m), sliceV X0 41 (.d (strsD l)) (some (.d (.int .i64 1))) (some (.d (.int .i64 5))) none = some (.d (strsD m))
theorem sliceMid15 : sliceMid15_T := fun l m h2 e => sliceMid l m 1 5 (by decide) h2 e
def iaddrInt0_T : Prop := ∀ (l : List Int) (h0 : 0 < l.length), iaddrV X0 24 (.d (i64.slD l)) (.d (.int .i64 0)) = some (.d (.ref (l.flatMap i64.enc) (0 * 1)))
theorem iaddrInt0 : iaddrInt0_T := fun l h0 => iaddrInt l 0 (by omega) (by omega)
abbrev stRE (l : List Str) (es : List Edit) : St := ⟨[(0, .d (strsD l)), (2, .obj 0 0), (4, .obj 1 0)], [zO, opO 1 0 0 es [] []], []⟩
abbrev stREx (l : List Str) (es : List Edit) : St := ⟨[(0, .d (strsD l)), (2, .obj 0 0), (4, .obj 1 0), (10, .d (.bool false))], [zO, opO 1 0 0 es [] []], []⟩
abbrev stREr (es : List Edit) (z : List Ob) : St := ⟨[(2, .obj 0 0), (3, .d (.bool false))], obO 1 0 0 es [] [] :: opO 1 0 0 es [] [] :: z, []⟩
def re1_T : Prop := ∀ (l m r : List Str) (es : List Edit) (ns : List Int) (t : Str) (hl : l.length ≤ 1000000) (hr : es.length ≤ 1000000) (hs : Sm m) (hw : (strAt l 2).length ≤ 1000000) (h3 : 3 ≤ l.length) (em : l.take 2 = m) (er : l.drop 3 = r) (hm : m.length = 2) (ho : okAll m = true) (en : m.map numVW = ns) (hn : ns.length = 2) (et : tdS (strAt l 2) = t) (eb : tdB (strAt l 2) = true),
  RdC X0 0 (ntOf X0 FRe) (lpKeep X0 FRe 0) (lpBody X0 FRe 0) 2 (stRE l es) (stRE r (es ++ [(intAt ns 0, intAt ns 1, t, ())]))
def re2_T : Prop := ∀ (l : List Str) (es : List Edit) (h0 : 0 < l.length) (h3 : l.length < 3), Rd X0 0 (ntOf X0 FRe) (lpBody X0 FRe 0) (stRE l es) (.ret, stREr es [])
def re3_T : Prop := ∀ (l m : List Str) (es : List Edit) (t : Str) (b : Bool) (hl : l.length ≤ 1000000) (hs : Sm m) (hw : (strAt l 2).length ≤ 1000000) (h3 : 3 ≤ l.length) (em : l.take 2 = m) (hm : m.length = 2) (ho : okAll m = false) (et : tdS (strAt l 2) = t) (eb : tdB (strAt l 2) = b),
  Rd X0 0 (ntOf X0 FRe) (lpBody X0 FRe 0) (stRE l es) (.ret, stREr es [valO 0 t b])
def re4_T : Prop := ∀ (l m : List Str) (es : List Edit) (ns : List Int) (t : Str) (hl : l.length ≤ 1000000) (hs : Sm m) (hw : (strAt l 2).length ≤ 1000000) (h3 : 3 ≤ l.length) (em : l.take 2 = m) (hm : m.length = 2) (ho : okAll m = true) (en : m.map numVW = ns) (hn : ns.length = 2) (et : tdS (strAt l 2) = t) (eb : tdB (strAt l 2) = false),
  Rd X0 0 (ntOf X0 FRe) (lpBody X0 FRe 0) (stRE l es) (.ret, stREr es [valO 0 t false])
def re5_T : Prop := ∀ (l : List Str) (es : List Edit) (h0 : l.length = 0), Rd X0 0 (ntOf X0 FRe) (lpBody X0 FRe 0) (stRE l es) (.exit 0, stREx l es)
/- inlays -/
abbrev stRI (l : List Str) (rs : List Int) (ns : List Inl) : St := ⟨[(0, .d (strsD l)), (2, .obj 0 0), (4, .obj 1 0)], [zO, opO 4 0 0 [] rs ns], []⟩
abbrev stRIx (l : List Str) (rs : List Int) (ns : List Inl) : St := ⟨[(0, .d (strsD l)), (2, .obj 0 0), (4, .obj 1 0), (17, .d (.bool false))], [zO, opO 4 0 0 [] rs ns], []⟩
abbrev stRIy (l : List Str) (rs : List Int) (ns : List Inl) : St := ⟨[(0, .d (strsD l)), (2, .obj 0 0), (4, .obj 1 0), (41, .d (.bool false))], [zO, opO 4 0 0 [] rs ns], []⟩
abbrev stRIr (rs : List Int) (ns : List Inl) (z : List Ob) : St := ⟨[(2, .obj 0 0), (3, .d (.bool false))], obO 4 0 0 [] rs ns :: opO 4 0 0 [] rs ns :: z, []⟩
def ri1_T : Prop := ∀ (l m r : List Str) (rs : List Int) (ns : List Inl) (v : List Int) (hl : l.length ≤ 1000000) (hr : rs.length ≤ 1000000) (hs : Sm m) (h2 : 2 ≤ l.length) (hd : (strAt l 0 == [45]) = true) (em : mid l 1 2 = m) (er : l.drop 2 = r) (hm : m.length = 1) (ho : okAll m = true) (en : m.map numVW = v) (hn : v.length = 1),
  RdC X0 0 (ntOf X0 FRi) (lpKeep X0 FRi 0) (lpBody X0 FRi 0) 2 (stRI l rs ns) (stRI r (rs ++ [intAt v 0]) ns)
def ri2_T : Prop := ∀ (l : List Str) (rs : List Int) (ns : List Inl) (h2 : l.length = 1) (hd : (strAt l 0 == [45]) = true), Rd X0 0 (ntOf X0 FRi) (lpBody X0 FRi 0) (stRI l rs ns) (.ret, stRIr rs ns [])
def ri3_T : Prop := ∀ (l m : List Str) (rs : List Int) (ns : List Inl) (hl : l.length ≤ 1000000) (hs : Sm m) (h2 : 2 ≤ l.length) (hd : (strAt l 0 == [45]) = true) (em : mid l 1 2 = m) (hm : m.length = 1) (ho : okAll m = false), Rd X0 0 (ntOf X0 FRi) (lpBody X0 FRi 0) (stRI l rs ns) (.ret, stRIr rs ns [])
def ri4_T : Prop := ∀ (l : List Str) (rs : List Int) (ns : List Inl) (h2 : 0 < l.length) (hd : (strAt l 0 == [45]) = false), Rd X0 0 (ntOf X0 FRi) (lpBody X0 FRi 0) (stRI l rs ns) (.exit 0, stRIx l rs ns)
def ri5_T : Prop := ∀ (l : List Str) (rs : List Int) (ns : List Inl) (h2 : l.length = 0), Rd X0 0 (ntOf X0 FRi) (lpBody X0 FRi 0) (stRI l rs ns) (.exit 0, stRIx l rs ns)
def ri6_T : Prop := ∀ (l m r : List Str) (rs : List Int) (ns : List Inl) (v : List Int) (t : Str) (hl : l.length ≤ 1000000) (hr : ns.length ≤ 1000000) (hs : Sm m) (hw : (strAt l 5).length ≤ 1000000) (h2 : 6 ≤ l.length) (hd : (strAt l 0 == [43]) = true) (em : mid l 1 5 = m) (er : l.drop 6 = r) (hm : m.length = 4) (ho : okAll m = true) (en : m.map numVW = v) (hn : v.length = 4) (et : tdS (strAt l 5) = t) (eb : tdB (strAt l 5) = true),
  RdC X0 0 (ntOf X0 FRi) (lpKeep X0 FRi 1) (lpBody X0 FRi 1) 2 (stRI l rs ns) (stRI r rs (ns ++ [(intAt v 0, intAt v 1, intAt v 2, intAt v 3, t, ())]))
def ri7_T : Prop := ∀ (l : List Str) (rs : List Int) (ns : List Inl) (h0 : 0 < l.length) (h2 : l.length < 6), Rd X0 0 (ntOf X0 FRi) (lpBody X0 FRi 1) (stRI l rs ns) (.ret, stRIr rs ns [])
def ri8_T : Prop := ∀ (l : List Str) (rs : List Int) (ns : List Inl) (h2 : 6 ≤ l.length) (hd : (strAt l 0 == [43]) = false), Rd X0 0 (ntOf X0 FRi) (lpBody X0 FRi 1) (stRI l rs ns) (.ret, stRIr rs ns [])
def ri9_T : Prop := ∀ (l m : List Str) (rs : List Int) (ns : List Inl) (t : Str) (b : Bool) (hl : l.length ≤ 1000000) (hs : Sm m) (hw : (strAt l 5).length ≤ 1000000) (h2 : 6 ≤ l.length) (hd : (strAt l 0 == [43]) = true) (em : mid l 1 5 = m) (hm : m.length = 4) (ho : okAll m = false) (et : tdS (strAt l 5) = t) (eb : tdB (strAt l 5) = b),
  Rd X0 0 (ntOf X0 FRi) (lpBody X0 FRi 1) (stRI l rs ns) (.ret, stRIr rs ns [valO 0 t b])
def ri10_T : Prop := ∀ (l m : List Str) (rs : List Int) (ns : List Inl) (v : List Int) (t : Str) (hl : l.length ≤ 1000000) (hs : Sm m) (hw : (strAt l 5).length ≤ 1000000) (h2 : 6 ≤ l.length) (hd : (strAt l 0 == [43]) = true) (em : mid l 1 5 = m) (hm : m.length = 4) (ho : okAll m = true) (en : m.map numVW = v) (hn : v.length = 4) (et : tdS (strAt l 5) = t) (eb : tdB (strAt l 5) = false),
  Rd X0 0 (ntOf X0 FRi) (lpBody X0 FRi 1) (stRI l rs ns) (.ret, stRIr rs ns [valO 0 t false])
def ri11_T : Prop := ∀ (l : List Str) (rs : List Int) (ns : List Inl) (h2 : l.length = 0), Rd X0 0 (ntOf X0 FRi) (lpBody X0 FRi 1) (stRI l rs ns) (.exit 2, stRIy l rs ns)
end Go.Proofs.YtgiahagbmgnmkaaDoor.Script
/- Script: paths, printed by a program of mine. -/
set_option maxRecDepth 100000
set_option linter.unusedSimpArgs false
set_option linter.unusedVariables false
namespace Go.Proofs.YtgiahagbmgnmkaaDoor.Script
open Go Pv G
set_option maxHeartbeats 4000000 in
theorem nmY : nmY_T := by
  intro l ns hl hs h0 h e
  exact pV 12 [(1, .l (Ex.exit (0 : Nat)) (stMx l ns (List.length l)))] (cE (@nmYesL (l) (ns) hl hs h0 h e) nilE) (by kernel_rfl) rfl rfl
set_option maxHeartbeats 4000000 in
theorem nmN : nmN_T := by
  intro l hl hs h
  exact pV 12 [(1, .l (Ex.ret) (stMr))] (cE (@nmNoL (l) hl hs h) nilE) (by kernel_rfl) rfl rfl
set_option maxHeartbeats 4000000 in
theorem nmE : nmE_T := by
  intro l h
  exact pV 12 [(1, .l (Ex.exit (0 : Nat)) (stM0x l))] (cE (@nmEmpL (l) h) nilE) (by kernel_rfl) rfl rfl
set_option maxHeartbeats 4000000 in
theorem sameX : sameX_T := by
  intro k a b es rs ns h1 h2 h3
  have hx0 : (k != k) = false := by (first | assumption | (((try simp only [SA] at *); (try simp (disch := omega) only [SB, reduceCtorEq] at *)) <;> first | omega | assumption | (refine ⟨?_, ?_⟩ <;> assumption) | (refine ⟨?_, ?_, ?_⟩ <;> assumption) | (intros; assumption) | (right; right; assumption) | (right; left; assumption) | (left; assumption)))
  have hx1 : (a != a) = false := by (first | assumption | (((try simp only [SA] at *); (try simp (disch := omega) only [SB, reduceCtorEq] at *)) <;> first | omega | assumption | (refine ⟨?_, ?_⟩ <;> assumption) | (refine ⟨?_, ?_, ?_⟩ <;> assumption) | (intros; assumption) | (right; right; assumption) | (right; left; assumption) | (left; assumption)))
  have hx2 : (b != b) = false := by (first | assumption | (((try simp only [SA] at *); (try simp (disch := omega) only [SB, reduceCtorEq] at *)) <;> first | omega | assumption | (refine ⟨?_, ?_⟩ <;> assumption) | (refine ⟨?_, ?_, ?_⟩ <;> assumption) | (intros; assumption) | (right; right; assumption) | (right; left; assumption) | (left; assumption)))
  have hx3 : ((↑(List.length es) : Int) != (↑(List.length es) : Int)) = false := by (first | assumption | (((try simp only [SA] at *); (try simp (disch := omega) only [SB, reduceCtorEq] at *)) <;> first | omega | assumption | (refine ⟨?_, ?_⟩ <;> assumption) | (refine ⟨?_, ?_, ?_⟩ <;> assumption) | (intros; assumption) | (right; right; assumption) | (right; left; assumption) | (left; assumption)))
  have hx4 : ((↑(List.length rs) : Int) != (↑(List.length rs) : Int)) = false := by (first | assumption | (((try simp only [SA] at *); (try simp (disch := omega) only [SB, reduceCtorEq] at *)) <;> first | omega | assumption | (refine ⟨?_, ?_⟩ <;> assumption) | (refine ⟨?_, ?_, ?_⟩ <;> assumption) | (intros; assumption) | (right; right; assumption) | (right; left; assumption) | (left; assumption)))
  have hx5 : ((↑(List.length ns) : Int) != (↑(List.length ns) : Int)) = false := by (first | assumption | (((try simp only [SA] at *); (try simp (disch := omega) only [SB, reduceCtorEq] at *)) <;> first | omega | assumption | (refine ⟨?_, ?_⟩ <;> assumption) | (refine ⟨?_, ?_, ?_⟩ <;> assumption) | (intros; assumption) | (right; right; assumption) | (right; left; assumption) | (left; assumption)))
  exact pV 12 [(3, bf), (4, bf), (6, bf), (7, bf), (9, bf), (11, bf), (12, bf), (13, bf), (15, bf), (16, bf), (18, bf), (20, bf), (21, bf), (22, bf), (24, bf), (26, bf), (27, bf), (29, bf), (31, bf), (33, bf), (34, bf), (35, bf), (37, bf), (39, bf), (40, bf), (42, bf), (44, bf), (46, bf), (47, bf), (48, bf), (50, bf), (52, bf), (53, bf), (55, bf), (57, bf), (59, bf), (60, bf), (63, .l (Ex.exit (0 : Nat)) (stS1x k a b es rs ns (List.length es))), (66, .l (Ex.exit (2 : Nat)) (stS2x k a b es rs ns (List.length rs))), (69, .l (Ex.exit (4 : Nat)) (stS3x k a b es rs ns (List.length ns)))] (cE (@same3L (k) (a) (b) (es) (rs) (ns) h3) (cE (@same2L (k) (a) (b) (es) (rs) (ns) h2) (cE (@same1L (k) (a) (b) (es) (rs) (ns) h1) (cP hx5 (cP hx4 (cP hx4 (cP hx4 (cP hx4 (cP hx4 (cP hx4 (cP hx4 (cP hx4 (cP hx3 (cP hx3 (cP hx3 (cP hx3 (cP hx3 (cP hx3 (cP hx3 (cP hx3 (cP hx2 (cP hx2 (cP hx2 (cP hx2 (cP hx2 (cP hx2 (cP hx2 (cP hx2 (cP hx1 (cP hx1 (cP hx1 (cP hx1 (cP hx1 (cP hx1 (cP hx0 (cP hx0 (cP hx0 (cP hx0 (cP hx0 (cP hx0 nilE)))))))))))))))))))))))))))))))))))))))) (by kernel_rfl) rfl rfl
end Go.Proofs.YtgiahagbmgnmkaaDoor.Script
/- Script: paths, printed by a program of mine. -/
set_option maxRecDepth 100000
set_option linter.unusedSimpArgs false
set_option linter.unusedVariables false
namespace Go.Proofs.YtgiahagbmgnmkaaDoor.Script
open Go Pv G
set_option maxHeartbeats 4000000 in
theorem re1 : re1_T := by
  intro l m r es ns t hl hr hs hw h3 em er hm ho en hn et eb
  have hx0 : (decide ((↑(List.length l) : Int) > (0 : Int))) = true := by (first | assumption | (((try simp only [SA] at *); (try simp (disch := omega) only [SB, reduceCtorEq] at *)) <;> first | omega | assumption | (refine ⟨?_, ?_⟩ <;> assumption) | (refine ⟨?_, ?_, ?_⟩ <;> assumption) | (intros; assumption) | (right; right; assumption) | (right; left; assumption) | (left; assumption)))
  have hx1 : (decide ((↑(List.length l) : Int) < (3 : Int))) = false := by (first | assumption | (((try simp only [SA] at *); (try simp (disch := omega) only [SB, reduceCtorEq] at *)) <;> first | omega | assumption | (refine ⟨?_, ?_⟩ <;> assumption) | (refine ⟨?_, ?_, ?_⟩ <;> assumption) | (intros; assumption) | (right; right; assumption) | (right; left; assumption) | (left; assumption)))
  have hx2 : (decide ((↑(List.length ns) : Int) < (2 : Int))) = false := by (first | assumption | (((try simp only [SA] at *); (try simp (disch := omega) only [SB, reduceCtorEq] at *)) <;> first | omega | assumption | (refine ⟨?_, ?_⟩ <;> assumption) | (refine ⟨?_, ?_, ?_⟩ <;> assumption) | (intros; assumption) | (right; right; assumption) | (right; left; assumption) | (left; assumption)))
  exact pC 12 [(2, bt), (5, bf), (6, .v (V.d (strsD m))), (7, .v (V.d (Ty.slD i64 ns))), (8, .v (V.d (D.ref (List.map D.str l) ((Int.toNat (2 : Int)) * (1 : Nat))))), (9, .v (V.d (D.str (strAt l (nat_lit 2))))), (10, .v (V.d (valD (0 : Int) t true))), (13, bf), (14, bf), (16, bf), (17, bf), (20, .v (V.d (D.ref (List.flatMap (Ty.enc i64) ns) ((Int.toNat (0 : Int)) * (1 : Nat))))), (21, .v (V.d (D.int IntKind.i64 (intAt ns (nat_lit 0))))), (22, .v (V.d (D.ref (List.flatMap (Ty.enc i64) ns) ((Int.toNat (1 : Int)) * (1 : Nat))))), (23, .v (V.d (D.int IntKind.i64 (intAt ns (nat_lit 1))))), (25, .v (Ty.tailV editT (48 : TypeId) (es ++ [((intAt ns (nat_lit 0)), (intAt ns (nat_lit 1)), t, ())]))), (26, .v (V.d (strsD r)))] (cP (@sliceFr3 (l) (r) h3 er) (cP (@appendEdit (es) (intAt ns (nat_lit 0)) (intAt ns (nat_lit 1)) (t) hr) (cP (@loadIntK (ns) ([(Ob.cells [(V.d (D.int IntKind.i64 (0 : Int))), (V.d (D.int IntKind.i64 (0 : Int))), (V.d (D.int IntKind.i64 (0 : Int))), (V.tail (nat_lit 48) [] (nat_lit 0)), (V.tail (nat_lit 3) [] (nat_lit 0)), (V.tail (nat_lit 60) [] (nat_lit 0))]), (Ob.cells [(V.d (D.int IntKind.i64 (1 : Int))), (V.d (D.int IntKind.i64 (0 : Int))), (V.d (D.int IntKind.i64 (0 : Int))), (V.tail (nat_lit 48) (List.flatMap (Ty.enc editT) es) (List.length es)), (V.tail (nat_lit 3) [] (nat_lit 0)), (V.tail (nat_lit 60) [] (nat_lit 0))]), (Ob.cells [(V.d (D.int IntKind.i64 (0 : Int))), (V.d (D.str t)), (V.d (D.bool true))])]) (nat_lit 1) (by (first | assumption | (((try simp only [SA] at *); (try simp (disch := omega) only [SB, reduceCtorEq] at *)) <;> first | omega | assumption | (refine ⟨?_, ?_⟩ <;> assumption) | (refine ⟨?_, ?_, ?_⟩ <;> assumption) | (intros; assumption) | (right; right; assumption) | (right; left; assumption) | (left; assumption))))) (cP (@iaddrInt (ns) ((1 : Int)) (by (first | assumption | (((try simp only [SA] at *); (try simp (disch := omega) only [SB, reduceCtorEq] at *)) <;> first | omega | assumption | (refine ⟨?_, ?_⟩ <;> assumption) | (refine ⟨?_, ?_, ?_⟩ <;> assumption) | (intros; assumption) | (right; right; assumption) | (right; left; assumption) | (left; assumption)))) (by (first | assumption | (((try simp only [SA] at *); (try simp (disch := omega) only [SB, reduceCtorEq] at *)) <;> first | omega | assumption | (refine ⟨?_, ?_⟩ <;> assumption) | (refine ⟨?_, ?_, ?_⟩ <;> assumption) | (intros; assumption) | (right; right; assumption) | (right; left; assumption) | (left; assumption))))) (cP (@loadIntK (ns) ([(Ob.cells [(V.d (D.int IntKind.i64 (0 : Int))), (V.d (D.int IntKind.i64 (0 : Int))), (V.d (D.int IntKind.i64 (0 : Int))), (V.tail (nat_lit 48) [] (nat_lit 0)), (V.tail (nat_lit 3) [] (nat_lit 0)), (V.tail (nat_lit 60) [] (nat_lit 0))]), (Ob.cells [(V.d (D.int IntKind.i64 (1 : Int))), (V.d (D.int IntKind.i64 (0 : Int))), (V.d (D.int IntKind.i64 (0 : Int))), (V.tail (nat_lit 48) (List.flatMap (Ty.enc editT) es) (List.length es)), (V.tail (nat_lit 3) [] (nat_lit 0)), (V.tail (nat_lit 60) [] (nat_lit 0))]), (Ob.cells [(V.d (D.int IntKind.i64 (0 : Int))), (V.d (D.str t)), (V.d (D.bool true))])]) (nat_lit 0) (by (first | assumption | (((try simp only [SA] at *); (try simp (disch := omega) only [SB, reduceCtorEq] at *)) <;> first | omega | assumption | (refine ⟨?_, ?_⟩ <;> assumption) | (refine ⟨?_, ?_, ?_⟩ <;> assumption) | (intros; assumption) | (right; right; assumption) | (right; left; assumption) | (left; assumption))))) (cP (@iaddrInt (ns) ((0 : Int)) (by (first | assumption | (((try simp only [SA] at *); (try simp (disch := omega) only [SB, reduceCtorEq] at *)) <;> first | omega | assumption | (refine ⟨?_, ?_⟩ <;> assumption) | (refine ⟨?_, ?_, ?_⟩ <;> assumption) | (intros; assumption) | (right; right; assumption) | (right; left; assumption) | (left; assumption)))) (by (first | assumption | (((try simp only [SA] at *); (try simp (disch := omega) only [SB, reduceCtorEq] at *)) <;> first | omega | assumption | (refine ⟨?_, ?_⟩ <;> assumption) | (refine ⟨?_, ?_, ?_⟩ <;> assumption) | (intros; assumption) | (right; right; assumption) | (right; left; assumption) | (left; assumption))))) (cP hx2 (cP hx2 (cP hx2 (cP hx2 (cC (@toldE (strAt l (nat_lit 2)) (t) (true) hw et eb) (cP (@loadStrK (l) ([(Ob.cells [(V.d (D.int IntKind.i64 (0 : Int))), (V.d (D.int IntKind.i64 (0 : Int))), (V.d (D.int IntKind.i64 (0 : Int))), (V.tail (nat_lit 48) [] (nat_lit 0)), (V.tail (nat_lit 3) [] (nat_lit 0)), (V.tail (nat_lit 60) [] (nat_lit 0))]), (Ob.cells [(V.d (D.int IntKind.i64 (1 : Int))), (V.d (D.int IntKind.i64 (0 : Int))), (V.d (D.int IntKind.i64 (0 : Int))), (V.tail (nat_lit 48) (List.flatMap (Ty.enc editT) es) (List.length es)), (V.tail (nat_lit 3) [] (nat_lit 0)), (V.tail (nat_lit 60) [] (nat_lit 0))])]) (nat_lit 2) (by (first | assumption | (((try simp only [SA] at *); (try simp (disch := omega) only [SB, reduceCtorEq] at *)) <;> first | omega | assumption | (refine ⟨?_, ?_⟩ <;> assumption) | (refine ⟨?_, ?_, ?_⟩ <;> assumption) | (intros; assumption) | (right; right; assumption) | (right; left; assumption) | (left; assumption))))) (cP (@iaddrStr (l) ((2 : Int)) (by (first | assumption | (((try simp only [SA] at *); (try simp (disch := omega) only [SB, reduceCtorEq] at *)) <;> first | omega | assumption | (refine ⟨?_, ?_⟩ <;> assumption) | (refine ⟨?_, ?_, ?_⟩ <;> assumption) | (intros; assumption) | (right; right; assumption) | (right; left; assumption) | (left; assumption)))) (by (first | assumption | (((try simp only [SA] at *); (try simp (disch := omega) only [SB, reduceCtorEq] at *)) <;> first | omega | assumption | (refine ⟨?_, ?_⟩ <;> assumption) | (refine ⟨?_, ?_, ?_⟩ <;> assumption) | (intros; assumption) | (right; right; assumption) | (right; left; assumption) | (left; assumption))))) (cC (@nmY (m) (ns) (by (first | assumption | (((try simp only [SA] at *); (try simp (disch := omega) only [SB, reduceCtorEq] at *)) <;> first | omega | assumption | (refine ⟨?_, ?_⟩ <;> assumption) | (refine ⟨?_, ?_, ?_⟩ <;> assumption) | (intros; assumption) | (right; right; assumption) | (right; left; assumption) | (left; assumption)))) hs (by (first | assumption | (((try simp only [SA] at *); (try simp (disch := omega) only [SB, reduceCtorEq] at *)) <;> first | omega | assumption | (refine ⟨?_, ?_⟩ <;> assumption) | (refine ⟨?_, ?_, ?_⟩ <;> assumption) | (intros; assumption) | (right; right; assumption) | (right; left; assumption) | (left; assumption)))) ho en) (cP (@sliceTo2 (l) (m) (by (first | assumption | (((try simp only [SA] at *); (try simp (disch := omega) only [SB, reduceCtorEq] at *)) <;> first | omega | assumption | (refine ⟨?_, ?_⟩ <;> assumption) | (refine ⟨?_, ?_, ?_⟩ <;> assumption) | (intros; assumption) | (right; right; assumption) | (right; left; assumption) | (left; assumption)))) em) (cP hx1 (cP hx0 nilE))))))))))))))))) (by kernel_rfl)
set_option maxHeartbeats 4000000 in
theorem re2 : re2_T := by
  intro l es h0 h3
  have hx0 : (decide ((↑(List.length l) : Int) > (0 : Int))) = true := by (first | assumption | (((try simp only [SA] at *); (try simp (disch := omega) only [SB, reduceCtorEq] at *)) <;> first | omega | assumption | (refine ⟨?_, ?_⟩ <;> assumption) | (refine ⟨?_, ?_, ?_⟩ <;> assumption) | (intros; assumption) | (right; right; assumption) | (right; left; assumption) | (left; assumption)))
  have hx1 : (decide ((↑(List.length l) : Int) < (3 : Int))) = true := by (first | assumption | (((try simp only [SA] at *); (try simp (disch := omega) only [SB, reduceCtorEq] at *)) <;> first | omega | assumption | (refine ⟨?_, ?_⟩ <;> assumption) | (refine ⟨?_, ?_, ?_⟩ <;> assumption) | (intros; assumption) | (right; right; assumption) | (right; left; assumption) | (left; assumption)))
  exact pR 12 [(2, bt), (5, bt)] (cP hx1 (cP hx0 nilE)) (by kernel_rfl)
set_option maxHeartbeats 4000000 in
theorem re3 : re3_T := by
  intro l m es t b hl hs hw h3 em hm ho et eb
  have hx0 : (decide ((↑(List.length l) : Int) > (0 : Int))) = true := by (first | assumption | (((try simp only [SA] at *); (try simp (disch := omega) only [SB, reduceCtorEq] at *)) <;> first | omega | assumption | (refine ⟨?_, ?_⟩ <;> assumption) | (refine ⟨?_, ?_, ?_⟩ <;> assumption) | (intros; assumption) | (right; right; assumption) | (right; left; assumption) | (left; assumption)))
  have hx1 : (decide ((↑(List.length l) : Int) < (3 : Int))) = false := by (first | assumption | (((try simp only [SA] at *); (try simp (disch := omega) only [SB, reduceCtorEq] at *)) <;> first | omega | assumption | (refine ⟨?_, ?_⟩ <;> assumption) | (refine ⟨?_, ?_, ?_⟩ <;> assumption) | (intros; assumption) | (right; right; assumption) | (right; left; assumption) | (left; assumption)))
  exact pR 12 [(2, bt), (5, bf), (6, .v (V.d (strsD m))), (7, .v (Ty.tailV i64 (3 : TypeId) [])), (8, .v (V.d (D.ref (List.map D.str l) ((Int.toNat (2 : Int)) * (1 : Nat))))), (9, .v (V.d (D.str (strAt l (nat_lit 2))))), (10, .v (V.d (valD (0 : Int) t b)))] (cC (@toldE (strAt l (nat_lit 2)) (t) (b) hw et eb) (cP (@loadStrK (l) ([(Ob.cells [(V.d (D.int IntKind.i64 (0 : Int))), (V.d (D.int IntKind.i64 (0 : Int))), (V.d (D.int IntKind.i64 (0 : Int))), (V.tail (nat_lit 48) [] (nat_lit 0)), (V.tail (nat_lit 3) [] (nat_lit 0)), (V.tail (nat_lit 60) [] (nat_lit 0))]), (Ob.cells [(V.d (D.int IntKind.i64 (1 : Int))), (V.d (D.int IntKind.i64 (0 : Int))), (V.d (D.int IntKind.i64 (0 : Int))), (V.tail (nat_lit 48) (List.flatMap (Ty.enc editT) es) (List.length es)), (V.tail (nat_lit 3) [] (nat_lit 0)), (V.tail (nat_lit 60) [] (nat_lit 0))])]) (nat_lit 2) (by (first | assumption | (((try simp only [SA] at *); (try simp (disch := omega) only [SB, reduceCtorEq] at *)) <;> first | omega | assumption | (refine ⟨?_, ?_⟩ <;> assumption) | (refine ⟨?_, ?_, ?_⟩ <;> assumption) | (intros; assumption) | (right; right; assumption) | (right; left; assumption) | (left; assumption))))) (cP (@iaddrStr (l) ((2 : Int)) (by (first | assumption | (((try simp only [SA] at *); (try simp (disch := omega) only [SB, reduceCtorEq] at *)) <;> first | omega | assumption | (refine ⟨?_, ?_⟩ <;> assumption) | (refine ⟨?_, ?_, ?_⟩ <;> assumption) | (intros; assumption) | (right; right; assumption) | (right; left; assumption) | (left; assumption)))) (by (first | assumption | (((try simp only [SA] at *); (try simp (disch := omega) only [SB, reduceCtorEq] at *)) <;> first | omega | assumption | (refine ⟨?_, ?_⟩ <;> assumption) | (refine ⟨?_, ?_, ?_⟩ <;> assumption) | (intros; assumption) | (right; right; assumption) | (right; left; assumption) | (left; assumption))))) (cC (@nmN (m) (by (first | assumption | (((try simp only [SA] at *); (try simp (disch := omega) only [SB, reduceCtorEq] at *)) <;> first | omega | assumption | (refine ⟨?_, ?_⟩ <;> assumption) | (refine ⟨?_, ?_, ?_⟩ <;> assumption) | (intros; assumption) | (right; right; assumption) | (right; left; assumption) | (left; assumption)))) hs ho) (cP (@sliceTo2 (l) (m) (by (first | assumption | (((try simp only [SA] at *); (try simp (disch := omega) only [SB, reduceCtorEq] at *)) <;> first | omega | assumption | (refine ⟨?_, ?_⟩ <;> assumption) | (refine ⟨?_, ?_, ?_⟩ <;> assumption) | (intros; assumption) | (right; right; assumption) | (right; left; assumption) | (left; assumption)))) em) (cP hx1 (cP hx0 nilE))))))) (by kernel_rfl)
set_option maxHeartbeats 4000000 in
theorem re4 : re4_T := by
  intro l m es ns t hl hs hw h3 em hm ho en hn et eb
  have hx0 : (decide ((↑(List.length l) : Int) > (0 : Int))) = true := by (first | assumption | (((try simp only [SA] at *); (try simp (disch := omega) only [SB, reduceCtorEq] at *)) <;> first | omega | assumption | (refine ⟨?_, ?_⟩ <;> assumption) | (refine ⟨?_, ?_, ?_⟩ <;> assumption) | (intros; assumption) | (right; right; assumption) | (right; left; assumption) | (left; assumption)))
  have hx1 : (decide ((↑(List.length l) : Int) < (3 : Int))) = false := by (first | assumption | (((try simp only [SA] at *); (try simp (disch := omega) only [SB, reduceCtorEq] at *)) <;> first | omega | assumption | (refine ⟨?_, ?_⟩ <;> assumption) | (refine ⟨?_, ?_, ?_⟩ <;> assumption) | (intros; assumption) | (right; right; assumption) | (right; left; assumption) | (left; assumption)))
  have hx2 : (decide ((↑(List.length ns) : Int) < (2 : Int))) = false := by (first | assumption | (((try simp only [SA] at *); (try simp (disch := omega) only [SB, reduceCtorEq] at *)) <;> first | omega | assumption | (refine ⟨?_, ?_⟩ <;> assumption) | (refine ⟨?_, ?_, ?_⟩ <;> assumption) | (intros; assumption) | (right; right; assumption) | (right; left; assumption) | (left; assumption)))
  exact pR 12 [(2, bt), (5, bf), (6, .v (V.d (strsD m))), (7, .v (V.d (Ty.slD i64 ns))), (8, .v (V.d (D.ref (List.map D.str l) ((Int.toNat (2 : Int)) * (1 : Nat))))), (9, .v (V.d (D.str (strAt l (nat_lit 2))))), (10, .v (V.d (valD (0 : Int) t false))), (13, bf), (14, bf), (16, bf), (17, bf)] (cP hx2 (cP hx2 (cP hx2 (cP hx2 (cC (@toldE (strAt l (nat_lit 2)) (t) (false) hw et eb) (cP (@loadStrK (l) ([(Ob.cells [(V.d (D.int IntKind.i64 (0 : Int))), (V.d (D.int IntKind.i64 (0 : Int))), (V.d (D.int IntKind.i64 (0 : Int))), (V.tail (nat_lit 48) [] (nat_lit 0)), (V.tail (nat_lit 3) [] (nat_lit 0)), (V.tail (nat_lit 60) [] (nat_lit 0))]), (Ob.cells [(V.d (D.int IntKind.i64 (1 : Int))), (V.d (D.int IntKind.i64 (0 : Int))), (V.d (D.int IntKind.i64 (0 : Int))), (V.tail (nat_lit 48) (List.flatMap (Ty.enc editT) es) (List.length es)), (V.tail (nat_lit 3) [] (nat_lit 0)), (V.tail (nat_lit 60) [] (nat_lit 0))])]) (nat_lit 2) (by (first | assumption | (((try simp only [SA] at *); (try simp (disch := omega) only [SB, reduceCtorEq] at *)) <;> first | omega | assumption | (refine ⟨?_, ?_⟩ <;> assumption) | (refine ⟨?_, ?_, ?_⟩ <;> assumption) | (intros; assumption) | (right; right; assumption) | (right; left; assumption) | (left; assumption))))) (cP (@iaddrStr (l) ((2 : Int)) (by (first | assumption | (((try simp only [SA] at *); (try simp (disch := omega) only [SB, reduceCtorEq] at *)) <;> first | omega | assumption | (refine ⟨?_, ?_⟩ <;> assumption) | (refine ⟨?_, ?_, ?_⟩ <;> assumption) | (intros; assumption) | (right; right; assumption) | (right; left; assumption) | (left; assumption)))) (by (first | assumption | (((try simp only [SA] at *); (try simp (disch := omega) only [SB, reduceCtorEq] at *)) <;> first | omega | assumption | (refine ⟨?_, ?_⟩ <;> assumption) | (refine ⟨?_, ?_, ?_⟩ <;> assumption) | (intros; assumption) | (right; right; assumption) | (right; left; assumption) | (left; assumption))))) (cC (@nmY (m) (ns) (by (first | assumption | (((try simp only [SA] at *); (try simp (disch := omega) only [SB, reduceCtorEq] at *)) <;> first | omega | assumption | (refine ⟨?_, ?_⟩ <;> assumption) | (refine ⟨?_, ?_, ?_⟩ <;> assumption) | (intros; assumption) | (right; right; assumption) | (right; left; assumption) | (left; assumption)))) hs (by (first | assumption | (((try simp only [SA] at *); (try simp (disch := omega) only [SB, reduceCtorEq] at *)) <;> first | omega | assumption | (refine ⟨?_, ?_⟩ <;> assumption) | (refine ⟨?_, ?_, ?_⟩ <;> assumption) | (intros; assumption) | (right; right; assumption) | (right; left; assumption) | (left; assumption)))) ho en) (cP (@sliceTo2 (l) (m) (by (first | assumption | (((try simp only [SA] at *); (try simp (disch := omega) only [SB, reduceCtorEq] at *)) <;> first | omega | assumption | (refine ⟨?_, ?_⟩ <;> assumption) | (refine ⟨?_, ?_, ?_⟩ <;> assumption) | (intros; assumption) | (right; right; assumption) | (right; left; assumption) | (left; assumption)))) em) (cP hx1 (cP hx0 nilE))))))))))) (by kernel_rfl)
set_option maxHeartbeats 4000000 in
theorem re5 : re5_T := by
  intro l es h0
  have hx0 : (decide ((↑(List.length l) : Int) > (0 : Int))) = false := by (first | assumption | (((try simp only [SA] at *); (try simp (disch := omega) only [SB, reduceCtorEq] at *)) <;> first | omega | assumption | (refine ⟨?_, ?_⟩ <;> assumption) | (refine ⟨?_, ?_, ?_⟩ <;> assumption) | (intros; assumption) | (right; right; assumption) | (right; left; assumption) | (left; assumption)))
  exact (pR (r := ((Ex.exit (nat_lit 0)), { s := [((nat_lit 0), (V.d (D.sl (List.map D.str l) (List.length l)))), ((nat_lit 2), (V.obj (nat_lit 0) (nat_lit 0))), ((nat_lit 4), (V.obj (nat_lit 1) (nat_lit 0))), ((nat_lit 10), (V.d (D.bool (decide ((↑(List.length l) : Int) > (0 : Int))))))], h := [(Ob.cells [(V.d (D.int IntKind.i64 (0 : Int))), (V.d (D.int IntKind.i64 (0 : Int))), (V.d (D.int IntKind.i64 (0 : Int))), (V.tail (nat_lit 48) [] (nat_lit 0)), (V.tail (nat_lit 3) [] (nat_lit 0)), (V.tail (nat_lit 60) [] (nat_lit 0))]), (Ob.cells [(V.d (D.int IntKind.i64 (1 : Int))), (V.d (D.int IntKind.i64 (0 : Int))), (V.d (D.int IntKind.i64 (0 : Int))), (V.tail (nat_lit 48) (List.flatMap (Ty.enc editT) es) (List.length es)), (V.tail (nat_lit 3) [] (nat_lit 0)), (V.tail (nat_lit 60) [] (nat_lit 0))])], og := [] })) 12 [(2, bf)] (cP hx0 nilE) (by kernel_rfl)).to (by ((try simp (disch := omega) only [wrapId, sizeOne, sizeStr, List.length_cons, List.length_nil, wrapU8, toNatAdd, toNatSucc] at *) <;> (try simp only [Int.toNat_natCast, beq_iff_eq, beq_eq_false_iff_ne, bne_iff_ne, bne_eq_false_iff_eq, ne_eq, Int.natCast_eq_zero, Int.natCast_inj] at *) <;> first | (simp (disch := omega) [Ty.enc, wrapId, toNatPred, toNatAdd, toNatSucc, sizeOne, sizeStr, List.length_cons, List.length_nil, wrapU8, ltF, ltT, Ty.slD, *]; done) | (subst_vars; simp (disch := omega) [Ty.enc, wrapId, toNatPred, toNatAdd, toNatSucc, sizeOne, sizeStr, List.length_cons, List.length_nil, wrapU8, ltF, ltT, Ty.slD, *]; done)))
set_option maxHeartbeats 4000000 in
theorem ri1 : ri1_T := by
  intro l m r rs ns v hl hr hs h2 hd em er hm ho en hn
  have hx0 : (decide ((↑(List.length l) : Int) > (0 : Int))) = true := by (first | assumption | (((try simp only [SA] at *); (try simp (disch := omega) only [SB, reduceCtorEq] at *)) <;> first | omega | assumption | (refine ⟨?_, ?_⟩ <;> assumption) | (refine ⟨?_, ?_, ?_⟩ <;> assumption) | (intros; assumption) | (right; right; assumption) | (right; left; assumption) | (left; assumption)))
  have hx1 : ((strAt l (nat_lit 0)) == [(45 : UInt8)]) = true := by (first | assumption | (((try simp only [SA] at *); (try simp (disch := omega) only [SB, reduceCtorEq] at *)) <;> first | omega | assumption | (refine ⟨?_, ?_⟩ <;> assumption) | (refine ⟨?_, ?_, ?_⟩ <;> assumption) | (intros; assumption) | (right; right; assumption) | (right; left; assumption) | (left; assumption)))
  have hx2 : (decide ((↑(List.length l) : Int) < (2 : Int))) = false := by (first | assumption | (((try simp only [SA] at *); (try simp (disch := omega) only [SB, reduceCtorEq] at *)) <;> first | omega | assumption | (refine ⟨?_, ?_⟩ <;> assumption) | (refine ⟨?_, ?_, ?_⟩ <;> assumption) | (intros; assumption) | (right; right; assumption) | (right; left; assumption) | (left; assumption)))
  have hx3 : (decide ((↑(List.length v) : Int) < (1 : Int))) = false := by (first | assumption | (((try simp only [SA] at *); (try simp (disch := omega) only [SB, reduceCtorEq] at *)) <;> first | omega | assumption | (refine ⟨?_, ?_⟩ <;> assumption) | (refine ⟨?_, ?_, ?_⟩ <;> assumption) | (intros; assumption) | (right; right; assumption) | (right; left; assumption) | (left; assumption)))
  exact pC 12 [(2, bt), (3, bt), (4, .v (V.d (D.ref (List.map D.str l) ((Int.toNat (0 : Int)) * (1 : Nat))))), (5, bt), (6, .v (V.d (D.str (strAt l (nat_lit 0))))), (7, bt), (8, .v (V.d (D.bool ((strAt l (nat_lit 0)) == [(45 : UInt8)])))), (9, bt), (10, bt), (13, bf), (14, .v (V.d (strsD m))), (15, .v (V.d (Ty.slD i64 v))), (18, bf), (20, .v (V.d (D.ref (List.flatMap (Ty.enc i64) v) ((Int.toNat (0 : Int)) * (1 : Nat))))), (21, .v (V.d (D.int IntKind.i64 (intAt v (nat_lit 0))))), (22, .v (Ty.tailV i64 (3 : TypeId) (rs ++ [(intAt v (nat_lit 0))]))), (23, .v (V.d (strsD r)))] (cP (@sliceFr2 (l) (r) h2 er) (cP (@appendInt (rs) (intAt v (nat_lit 0)) hr) (cP (@loadIntK (v) ([(Ob.cells [(V.d (D.int IntKind.i64 (0 : Int))), (V.d (D.int IntKind.i64 (0 : Int))), (V.d (D.int IntKind.i64 (0 : Int))), (V.tail (nat_lit 48) [] (nat_lit 0)), (V.tail (nat_lit 3) [] (nat_lit 0)), (V.tail (nat_lit 60) [] (nat_lit 0))]), (Ob.cells [(V.d (D.int IntKind.i64 (4 : Int))), (V.d (D.int IntKind.i64 (0 : Int))), (V.d (D.int IntKind.i64 (0 : Int))), (V.tail (nat_lit 48) [] (nat_lit 0)), (V.tail (nat_lit 3) (List.flatMap (Ty.enc i64) rs) (List.length rs)), (V.tail (nat_lit 60) (List.flatMap (Ty.enc inlT) ns) (List.length ns))])]) (nat_lit 0) (by (first | assumption | (((try simp only [SA] at *); (try simp (disch := omega) only [SB, reduceCtorEq] at *)) <;> first | omega | assumption | (refine ⟨?_, ?_⟩ <;> assumption) | (refine ⟨?_, ?_, ?_⟩ <;> assumption) | (intros; assumption) | (right; right; assumption) | (right; left; assumption) | (left; assumption))))) (cP (@iaddrInt (v) ((0 : Int)) (by (first | assumption | (((try simp only [SA] at *); (try simp (disch := omega) only [SB, reduceCtorEq] at *)) <;> first | omega | assumption | (refine ⟨?_, ?_⟩ <;> assumption) | (refine ⟨?_, ?_, ?_⟩ <;> assumption) | (intros; assumption) | (right; right; assumption) | (right; left; assumption) | (left; assumption)))) (by (first | assumption | (((try simp only [SA] at *); (try simp (disch := omega) only [SB, reduceCtorEq] at *)) <;> first | omega | assumption | (refine ⟨?_, ?_⟩ <;> assumption) | (refine ⟨?_, ?_, ?_⟩ <;> assumption) | (intros; assumption) | (right; right; assumption) | (right; left; assumption) | (left; assumption))))) (cP hx3 (cC (@nmY (m) (v) (by (first | assumption | (((try simp only [SA] at *); (try simp (disch := omega) only [SB, reduceCtorEq] at *)) <;> first | omega | assumption | (refine ⟨?_, ?_⟩ <;> assumption) | (refine ⟨?_, ?_, ?_⟩ <;> assumption) | (intros; assumption) | (right; right; assumption) | (right; left; assumption) | (left; assumption)))) hs (by (first | assumption | (((try simp only [SA] at *); (try simp (disch := omega) only [SB, reduceCtorEq] at *)) <;> first | omega | assumption | (refine ⟨?_, ?_⟩ <;> assumption) | (refine ⟨?_, ?_, ?_⟩ <;> assumption) | (intros; assumption) | (right; right; assumption) | (right; left; assumption) | (left; assumption)))) ho en) (cP (@sliceMid12 (l) (m) h2 em) (cP hx2 (cP hx1 (cP hx0 (cP (@strEq (strAt l (nat_lit 0)) ([(45 : UInt8)])) (cP hx0 (cP (@loadStrK (l) ([(Ob.cells [(V.d (D.int IntKind.i64 (0 : Int))), (V.d (D.int IntKind.i64 (0 : Int))), (V.d (D.int IntKind.i64 (0 : Int))), (V.tail (nat_lit 48) [] (nat_lit 0)), (V.tail (nat_lit 3) [] (nat_lit 0)), (V.tail (nat_lit 60) [] (nat_lit 0))]), (Ob.cells [(V.d (D.int IntKind.i64 (4 : Int))), (V.d (D.int IntKind.i64 (0 : Int))), (V.d (D.int IntKind.i64 (0 : Int))), (V.tail (nat_lit 48) [] (nat_lit 0)), (V.tail (nat_lit 3) (List.flatMap (Ty.enc i64) rs) (List.length rs)), (V.tail (nat_lit 60) (List.flatMap (Ty.enc inlT) ns) (List.length ns))])]) (nat_lit 0) (by (first | assumption | (((try simp only [SA] at *); (try simp (disch := omega) only [SB, reduceCtorEq] at *)) <;> first | omega | assumption | (refine ⟨?_, ?_⟩ <;> assumption) | (refine ⟨?_, ?_, ?_⟩ <;> assumption) | (intros; assumption) | (right; right; assumption) | (right; left; assumption) | (left; assumption))))) (cP hx0 (cP (@iaddrStr (l) ((0 : Int)) (by (first | assumption | (((try simp only [SA] at *); (try simp (disch := omega) only [SB, reduceCtorEq] at *)) <;> first | omega | assumption | (refine ⟨?_, ?_⟩ <;> assumption) | (refine ⟨?_, ?_, ?_⟩ <;> assumption) | (intros; assumption) | (right; right; assumption) | (right; left; assumption) | (left; assumption)))) (by (first | assumption | (((try simp only [SA] at *); (try simp (disch := omega) only [SB, reduceCtorEq] at *)) <;> first | omega | assumption | (refine ⟨?_, ?_⟩ <;> assumption) | (refine ⟨?_, ?_, ?_⟩ <;> assumption) | (intros; assumption) | (right; right; assumption) | (right; left; assumption) | (left; assumption))))) (cP hx0 (cP hx0 nilE))))))))))))))))) (by kernel_rfl)
set_option maxHeartbeats 4000000 in
theorem ri2 : ri2_T := by
  intro l rs ns h2 hd
  have hx0 : (decide ((↑(List.length l) : Int) > (0 : Int))) = true := by (first | assumption | (((try simp only [SA] at *); (try simp (disch := omega) only [SB, reduceCtorEq] at *)) <;> first | omega | assumption | (refine ⟨?_, ?_⟩ <;> assumption) | (refine ⟨?_, ?_, ?_⟩ <;> assumption) | (intros; assumption) | (right; right; assumption) | (right; left; assumption) | (left; assumption)))
  have hx1 : ((strAt l (nat_lit 0)) == [(45 : UInt8)]) = true := by (first | assumption | (((try simp only [SA] at *); (try simp (disch := omega) only [SB, reduceCtorEq] at *)) <;> first | omega | assumption | (refine ⟨?_, ?_⟩ <;> assumption) | (refine ⟨?_, ?_, ?_⟩ <;> assumption) | (intros; assumption) | (right; right; assumption) | (right; left; assumption) | (left; assumption)))
  have hx2 : (decide ((↑(List.length l) : Int) < (2 : Int))) = true := by (first | assumption | (((try simp only [SA] at *); (try simp (disch := omega) only [SB, reduceCtorEq] at *)) <;> first | omega | assumption | (refine ⟨?_, ?_⟩ <;> assumption) | (refine ⟨?_, ?_, ?_⟩ <;> assumption) | (intros; assumption) | (right; right; assumption) | (right; left; assumption) | (left; assumption)))
  exact pR 12 [(2, bt), (3, bt), (4, .v (V.d (D.ref (List.map D.str l) ((Int.toNat (0 : Int)) * (1 : Nat))))), (5, bt), (6, .v (V.d (D.str (strAt l (nat_lit 0))))), (7, bt), (8, .v (V.d (D.bool ((strAt l (nat_lit 0)) == [(45 : UInt8)])))), (9, bt), (10, bt), (13, bt)] (cP hx2 (cP hx1 (cP hx0 (cP (@strEq (strAt l (nat_lit 0)) ([(45 : UInt8)])) (cP hx0 (cP (@loadStrK (l) ([(Ob.cells [(V.d (D.int IntKind.i64 (0 : Int))), (V.d (D.int IntKind.i64 (0 : Int))), (V.d (D.int IntKind.i64 (0 : Int))), (V.tail (nat_lit 48) [] (nat_lit 0)), (V.tail (nat_lit 3) [] (nat_lit 0)), (V.tail (nat_lit 60) [] (nat_lit 0))]), (Ob.cells [(V.d (D.int IntKind.i64 (4 : Int))), (V.d (D.int IntKind.i64 (0 : Int))), (V.d (D.int IntKind.i64 (0 : Int))), (V.tail (nat_lit 48) [] (nat_lit 0)), (V.tail (nat_lit 3) (List.flatMap (Ty.enc i64) rs) (List.length rs)), (V.tail (nat_lit 60) (List.flatMap (Ty.enc inlT) ns) (List.length ns))])]) (nat_lit 0) (by (first | assumption | (((try simp only [SA] at *); (try simp (disch := omega) only [SB, reduceCtorEq] at *)) <;> first | omega | assumption | (refine ⟨?_, ?_⟩ <;> assumption) | (refine ⟨?_, ?_, ?_⟩ <;> assumption) | (intros; assumption) | (right; right; assumption) | (right; left; assumption) | (left; assumption))))) (cP hx0 (cP (@iaddrStr (l) ((0 : Int)) (by (first | assumption | (((try simp only [SA] at *); (try simp (disch := omega) only [SB, reduceCtorEq] at *)) <;> first | omega | assumption | (refine ⟨?_, ?_⟩ <;> assumption) | (refine ⟨?_, ?_, ?_⟩ <;> assumption) | (intros; assumption) | (right; right; assumption) | (right; left; assumption) | (left; assumption)))) (by (first | assumption | (((try simp only [SA] at *); (try simp (disch := omega) only [SB, reduceCtorEq] at *)) <;> first | omega | assumption | (refine ⟨?_, ?_⟩ <;> assumption) | (refine ⟨?_, ?_, ?_⟩ <;> assumption) | (intros; assumption) | (right; right; assumption) | (right; left; assumption) | (left; assumption))))) (cP hx0 (cP hx0 nilE)))))))))) (by kernel_rfl)
set_option maxHeartbeats 4000000 in
theorem ri3 : ri3_T := by
  intro l m rs ns hl hs h2 hd em hm ho
  have hx0 : (decide ((↑(List.length l) : Int) > (0 : Int))) = true := by (first | assumption | (((try simp only [SA] at *); (try simp (disch := omega) only [SB, reduceCtorEq] at *)) <;> first | omega | assumption | (refine ⟨?_, ?_⟩ <;> assumption) | (refine ⟨?_, ?_, ?_⟩ <;> assumption) | (intros; assumption) | (right; right; assumption) | (right; left; assumption) | (left; assumption)))
  have hx1 : ((strAt l (nat_lit 0)) == [(45 : UInt8)]) = true := by (first | assumption | (((try simp only [SA] at *); (try simp (disch := omega) only [SB, reduceCtorEq] at *)) <;> first | omega | assumption | (refine ⟨?_, ?_⟩ <;> assumption) | (refine ⟨?_, ?_, ?_⟩ <;> assumption) | (intros; assumption) | (right; right; assumption) | (right; left; assumption) | (left; assumption)))
  have hx2 : (decide ((↑(List.length l) : Int) < (2 : Int))) = false := by (first | assumption | (((try simp only [SA] at *); (try simp (disch := omega) only [SB, reduceCtorEq] at *)) <;> first | omega | assumption | (refine ⟨?_, ?_⟩ <;> assumption) | (refine ⟨?_, ?_, ?_⟩ <;> assumption) | (intros; assumption) | (right; right; assumption) | (right; left; assumption) | (left; assumption)))
  exact pR 12 [(2, bt), (3, bt), (4, .v (V.d (D.ref (List.map D.str l) ((Int.toNat (0 : Int)) * (1 : Nat))))), (5, bt), (6, .v (V.d (D.str (strAt l (nat_lit 0))))), (7, bt), (8, .v (V.d (D.bool ((strAt l (nat_lit 0)) == [(45 : UInt8)])))), (9, bt), (10, bt), (13, bf), (14, .v (V.d (strsD m))), (15, .v (Ty.tailV i64 (3 : TypeId) []))] (cC (@nmN (m) (by (first | assumption | (((try simp only [SA] at *); (try simp (disch := omega) only [SB, reduceCtorEq] at *)) <;> first | omega | assumption | (refine ⟨?_, ?_⟩ <;> assumption) | (refine ⟨?_, ?_, ?_⟩ <;> assumption) | (intros; assumption) | (right; right; assumption) | (right; left; assumption) | (left; assumption)))) hs ho) (cP (@sliceMid12 (l) (m) h2 em) (cP hx2 (cP hx1 (cP hx0 (cP (@strEq (strAt l (nat_lit 0)) ([(45 : UInt8)])) (cP hx0 (cP (@loadStrK (l) ([(Ob.cells [(V.d (D.int IntKind.i64 (0 : Int))), (V.d (D.int IntKind.i64 (0 : Int))), (V.d (D.int IntKind.i64 (0 : Int))), (V.tail (nat_lit 48) [] (nat_lit 0)), (V.tail (nat_lit 3) [] (nat_lit 0)), (V.tail (nat_lit 60) [] (nat_lit 0))]), (Ob.cells [(V.d (D.int IntKind.i64 (4 : Int))), (V.d (D.int IntKind.i64 (0 : Int))), (V.d (D.int IntKind.i64 (0 : Int))), (V.tail (nat_lit 48) [] (nat_lit 0)), (V.tail (nat_lit 3) (List.flatMap (Ty.enc i64) rs) (List.length rs)), (V.tail (nat_lit 60) (List.flatMap (Ty.enc inlT) ns) (List.length ns))])]) (nat_lit 0) (by (first | assumption | (((try simp only [SA] at *); (try simp (disch := omega) only [SB, reduceCtorEq] at *)) <;> first | omega | assumption | (refine ⟨?_, ?_⟩ <;> assumption) | (refine ⟨?_, ?_, ?_⟩ <;> assumption) | (intros; assumption) | (right; right; assumption) | (right; left; assumption) | (left; assumption))))) (cP hx0 (cP (@iaddrStr (l) ((0 : Int)) (by (first | assumption | (((try simp only [SA] at *); (try simp (disch := omega) only [SB, reduceCtorEq] at *)) <;> first | omega | assumption | (refine ⟨?_, ?_⟩ <;> assumption) | (refine ⟨?_, ?_, ?_⟩ <;> assumption) | (intros; assumption) | (right; right; assumption) | (right; left; assumption) | (left; assumption)))) (by (first | assumption | (((try simp only [SA] at *); (try simp (disch := omega) only [SB, reduceCtorEq] at *)) <;> first | omega | assumption | (refine ⟨?_, ?_⟩ <;> assumption) | (refine ⟨?_, ?_, ?_⟩ <;> assumption) | (intros; assumption) | (right; right; assumption) | (right; left; assumption) | (left; assumption))))) (cP hx0 (cP hx0 nilE)))))))))))) (by kernel_rfl)
set_option maxHeartbeats 4000000 in
theorem ri4 : ri4_T := by
  intro l rs ns h2 hd
  have hx0 : (decide ((↑(List.length l) : Int) > (0 : Int))) = true := by (first | assumption | (((try simp only [SA] at *); (try simp (disch := omega) only [SB, reduceCtorEq] at *)) <;> first | omega | assumption | (refine ⟨?_, ?_⟩ <;> assumption) | (refine ⟨?_, ?_, ?_⟩ <;> assumption) | (intros; assumption) | (right; right; assumption) | (right; left; assumption) | (left; assumption)))
  have hx1 : ((strAt l (nat_lit 0)) == [(45 : UInt8)]) = false := by (first | assumption | (((try simp only [SA] at *); (try simp (disch := omega) only [SB, reduceCtorEq] at *)) <;> first | omega | assumption | (refine ⟨?_, ?_⟩ <;> assumption) | (refine ⟨?_, ?_, ?_⟩ <;> assumption) | (intros; assumption) | (right; right; assumption) | (right; left; assumption) | (left; assumption)))
  exact (pR (r := ((Ex.exit (nat_lit 0)), { s := [((nat_lit 0), (V.d (D.sl (List.map D.str l) (List.length l)))), ((nat_lit 2), (V.obj (nat_lit 0) (nat_lit 0))), ((nat_lit 4), (V.obj (nat_lit 1) (nat_lit 0))), ((nat_lit 17), (V.d (D.bool ((strAt l (nat_lit 0)) == [(45 : UInt8)]))))], h := [(Ob.cells [(V.d (D.int IntKind.i64 (0 : Int))), (V.d (D.int IntKind.i64 (0 : Int))), (V.d (D.int IntKind.i64 (0 : Int))), (V.tail (nat_lit 48) [] (nat_lit 0)), (V.tail (nat_lit 3) [] (nat_lit 0)), (V.tail (nat_lit 60) [] (nat_lit 0))]), (Ob.cells [(V.d (D.int IntKind.i64 (4 : Int))), (V.d (D.int IntKind.i64 (0 : Int))), (V.d (D.int IntKind.i64 (0 : Int))), (V.tail (nat_lit 48) [] (nat_lit 0)), (V.tail (nat_lit 3) (List.flatMap (Ty.enc i64) rs) (List.length rs)), (V.tail (nat_lit 60) (List.flatMap (Ty.enc inlT) ns) (List.length ns))])], og := [] })) 12 [(2, bt), (3, bt), (4, .v (V.d (D.ref (List.map D.str l) ((Int.toNat (0 : Int)) * (1 : Nat))))), (5, bt), (6, .v (V.d (D.str (strAt l (nat_lit 0))))), (7, bt), (8, .v (V.d (D.bool ((strAt l (nat_lit 0)) == [(45 : UInt8)])))), (9, bt), (10, bf)] (cP hx1 (cP hx0 (cP (@strEq (strAt l (nat_lit 0)) ([(45 : UInt8)])) (cP hx0 (cP (@loadStrK (l) ([(Ob.cells [(V.d (D.int IntKind.i64 (0 : Int))), (V.d (D.int IntKind.i64 (0 : Int))), (V.d (D.int IntKind.i64 (0 : Int))), (V.tail (nat_lit 48) [] (nat_lit 0)), (V.tail (nat_lit 3) [] (nat_lit 0)), (V.tail (nat_lit 60) [] (nat_lit 0))]), (Ob.cells [(V.d (D.int IntKind.i64 (4 : Int))), (V.d (D.int IntKind.i64 (0 : Int))), (V.d (D.int IntKind.i64 (0 : Int))), (V.tail (nat_lit 48) [] (nat_lit 0)), (V.tail (nat_lit 3) (List.flatMap (Ty.enc i64) rs) (List.length rs)), (V.tail (nat_lit 60) (List.flatMap (Ty.enc inlT) ns) (List.length ns))])]) (nat_lit 0) h2) (cP hx0 (cP (@iaddrStr (l) ((0 : Int)) (by (first | assumption | (((try simp only [SA] at *); (try simp (disch := omega) only [SB, reduceCtorEq] at *)) <;> first | omega | assumption | (refine ⟨?_, ?_⟩ <;> assumption) | (refine ⟨?_, ?_, ?_⟩ <;> assumption) | (intros; assumption) | (right; right; assumption) | (right; left; assumption) | (left; assumption)))) (by (first | assumption | (((try simp only [SA] at *); (try simp (disch := omega) only [SB, reduceCtorEq] at *)) <;> first | omega | assumption | (refine ⟨?_, ?_⟩ <;> assumption) | (refine ⟨?_, ?_, ?_⟩ <;> assumption) | (intros; assumption) | (right; right; assumption) | (right; left; assumption) | (left; assumption))))) (cP hx0 (cP hx0 nilE))))))))) (by kernel_rfl)).to (by ((try simp (disch := omega) only [wrapId, sizeOne, sizeStr, List.length_cons, List.length_nil, wrapU8, toNatAdd, toNatSucc] at *) <;> (try simp only [Int.toNat_natCast, beq_iff_eq, beq_eq_false_iff_ne, bne_iff_ne, bne_eq_false_iff_eq, ne_eq, Int.natCast_eq_zero, Int.natCast_inj] at *) <;> first | (simp (disch := omega) [Ty.enc, wrapId, toNatPred, toNatAdd, toNatSucc, sizeOne, sizeStr, List.length_cons, List.length_nil, wrapU8, ltF, ltT, Ty.slD, *]; done) | (subst_vars; simp (disch := omega) [Ty.enc, wrapId, toNatPred, toNatAdd, toNatSucc, sizeOne, sizeStr, List.length_cons, List.length_nil, wrapU8, ltF, ltT, Ty.slD, *]; done)))
set_option maxHeartbeats 4000000 in
theorem ri5 : ri5_T := by
  intro l rs ns h2
  have hx0 : (decide ((↑(List.length l) : Int) > (0 : Int))) = false := by (first | assumption | (((try simp only [SA] at *); (try simp (disch := omega) only [SB, reduceCtorEq] at *)) <;> first | omega | assumption | (refine ⟨?_, ?_⟩ <;> assumption) | (refine ⟨?_, ?_, ?_⟩ <;> assumption) | (intros; assumption) | (right; right; assumption) | (right; left; assumption) | (left; assumption)))
  exact pR 12 [(2, bf), (3, bf), (4, bf), (5, bf), (6, bf)] (cP hx0 (cP hx0 (cP hx0 (cP hx0 (cP hx0 nilE))))) (by kernel_rfl)
set_option maxHeartbeats 4000000 in
theorem ri6 : ri6_T := by
  intro l m r rs ns v t hl hr hs hw h2 hd em er hm ho en hn et eb
  have hx0 : (decide ((↑(List.length l) : Int) > (0 : Int))) = true := by (first | assumption | (((try simp only [SA] at *); (try simp (disch := omega) only [SB, reduceCtorEq] at *)) <;> first | omega | assumption | (refine ⟨?_, ?_⟩ <;> assumption) | (refine ⟨?_, ?_, ?_⟩ <;> assumption) | (intros; assumption) | (right; right; assumption) | (right; left; assumption) | (left; assumption)))
  have hx1 : (decide ((↑(List.length l) : Int) < (6 : Int))) = false := by (first | assumption | (((try simp only [SA] at *); (try simp (disch := omega) only [SB, reduceCtorEq] at *)) <;> first | omega | assumption | (refine ⟨?_, ?_⟩ <;> assumption) | (refine ⟨?_, ?_, ?_⟩ <;> assumption) | (intros; assumption) | (right; right; assumption) | (right; left; assumption) | (left; assumption)))
  have hx2 : (!((strAt l (nat_lit 0)) == [(43 : UInt8)])) = false := by (first | assumption | (((try simp only [SA] at *); (try simp (disch := omega) only [SB, reduceCtorEq] at *)) <;> first | omega | assumption | (refine ⟨?_, ?_⟩ <;> assumption) | (refine ⟨?_, ?_, ?_⟩ <;> assumption) | (intros; assumption) | (right; right; assumption) | (right; left; assumption) | (left; assumption)))
  have hx3 : (decide ((↑(List.length v) : Int) < (4 : Int))) = false := by (first | assumption | (((try simp only [SA] at *); (try simp (disch := omega) only [SB, reduceCtorEq] at *)) <;> first | omega | assumption | (refine ⟨?_, ?_⟩ <;> assumption) | (refine ⟨?_, ?_, ?_⟩ <;> assumption) | (intros; assumption) | (right; right; assumption) | (right; left; assumption) | (left; assumption)))
  exact pC 12 [(2, bt), (5, bf), (6, bf), (7, .v (V.d (D.ref (List.map D.str l) ((Int.toNat (0 : Int)) * (1 : Nat))))), (8, bf), (9, .v (V.d (D.str (strAt l (nat_lit 0))))), (10, bf), (11, .v (V.d (D.bool !((strAt l (nat_lit 0)) == [(43 : UInt8)])))), (12, bf), (13, bf), (14, .v (V.d (strsD m))), (15, .v (V.d (Ty.slD i64 v))), (16, .v (V.d (D.ref (List.map D.str l) ((Int.toNat (5 : Int)) * (1 : Nat))))), (17, .v (V.d (D.str (strAt l (nat_lit 5))))), (18, .v (V.d (valD (0 : Int) t true))), (21, bf), (22, bf), (24, bf), (25, bf), (28, .v (V.d (D.ref (List.flatMap (Ty.enc i64) v) ((Int.toNat (0 : Int)) * (1 : Nat))))), (29, .v (V.d (D.int IntKind.i64 (intAt v (nat_lit 0))))), (30, .v (V.d (D.ref (List.flatMap (Ty.enc i64) v) ((Int.toNat (1 : Int)) * (1 : Nat))))), (31, .v (V.d (D.int IntKind.i64 (intAt v (nat_lit 1))))), (32, .v (V.d (D.ref (List.flatMap (Ty.enc i64) v) ((Int.toNat (2 : Int)) * (1 : Nat))))), (33, .v (V.d (D.int IntKind.i64 (intAt v (nat_lit 2))))), (34, .v (V.d (D.ref (List.flatMap (Ty.enc i64) v) ((Int.toNat (3 : Int)) * (1 : Nat))))), (35, .v (V.d (D.int IntKind.i64 (intAt v (nat_lit 3))))), (37, .v (Ty.tailV inlT (60 : TypeId) (ns ++ [((intAt v (nat_lit 0)), (intAt v (nat_lit 1)), (intAt v (nat_lit 2)), (intAt v (nat_lit 3)), t, ())]))), (38, .v (V.d (strsD r)))] (cP (@sliceFr6 (l) (r) h2 er) (cP (@appendInl (ns) (intAt v (nat_lit 0)) (intAt v (nat_lit 1)) (intAt v (nat_lit 2)) (intAt v (nat_lit 3)) (t) hr) (cP (@loadIntK (v) ([(Ob.cells [(V.d (D.int IntKind.i64 (0 : Int))), (V.d (D.int IntKind.i64 (0 : Int))), (V.d (D.int IntKind.i64 (0 : Int))), (V.tail (nat_lit 48) [] (nat_lit 0)), (V.tail (nat_lit 3) [] (nat_lit 0)), (V.tail (nat_lit 60) [] (nat_lit 0))]), (Ob.cells [(V.d (D.int IntKind.i64 (4 : Int))), (V.d (D.int IntKind.i64 (0 : Int))), (V.d (D.int IntKind.i64 (0 : Int))), (V.tail (nat_lit 48) [] (nat_lit 0)), (V.tail (nat_lit 3) (List.flatMap (Ty.enc i64) rs) (List.length rs)), (V.tail (nat_lit 60) (List.flatMap (Ty.enc inlT) ns) (List.length ns))]), (Ob.cells [(V.d (D.int IntKind.i64 (0 : Int))), (V.d (D.str t)), (V.d (D.bool true))])]) (nat_lit 3) (by (first | assumption | (((try simp only [SA] at *); (try simp (disch := omega) only [SB, reduceCtorEq] at *)) <;> first | omega | assumption | (refine ⟨?_, ?_⟩ <;> assumption) | (refine ⟨?_, ?_, ?_⟩ <;> assumption) | (intros; assumption) | (right; right; assumption) | (right; left; assumption) | (left; assumption))))) (cP (@iaddrInt (v) ((3 : Int)) (by (first | assumption | (((try simp only [SA] at *); (try simp (disch := omega) only [SB, reduceCtorEq] at *)) <;> first | omega | assumption | (refine ⟨?_, ?_⟩ <;> assumption) | (refine ⟨?_, ?_, ?_⟩ <;> assumption) | (intros; assumption) | (right; right; assumption) | (right; left; assumption) | (left; assumption)))) (by (first | assumption | (((try simp only [SA] at *); (try simp (disch := omega) only [SB, reduceCtorEq] at *)) <;> first | omega | assumption | (refine ⟨?_, ?_⟩ <;> assumption) | (refine ⟨?_, ?_, ?_⟩ <;> assumption) | (intros; assumption) | (right; right; assumption) | (right; left; assumption) | (left; assumption))))) (cP (@loadIntK (v) ([(Ob.cells [(V.d (D.int IntKind.i64 (0 : Int))), (V.d (D.int IntKind.i64 (0 : Int))), (V.d (D.int IntKind.i64 (0 : Int))), (V.tail (nat_lit 48) [] (nat_lit 0)), (V.tail (nat_lit 3) [] (nat_lit 0)), (V.tail (nat_lit 60) [] (nat_lit 0))]), (Ob.cells [(V.d (D.int IntKind.i64 (4 : Int))), (V.d (D.int IntKind.i64 (0 : Int))), (V.d (D.int IntKind.i64 (0 : Int))), (V.tail (nat_lit 48) [] (nat_lit 0)), (V.tail (nat_lit 3) (List.flatMap (Ty.enc i64) rs) (List.length rs)), (V.tail (nat_lit 60) (List.flatMap (Ty.enc inlT) ns) (List.length ns))]), (Ob.cells [(V.d (D.int IntKind.i64 (0 : Int))), (V.d (D.str t)), (V.d (D.bool true))])]) (nat_lit 2) (by (first | assumption | (((try simp only [SA] at *); (try simp (disch := omega) only [SB, reduceCtorEq] at *)) <;> first | omega | assumption | (refine ⟨?_, ?_⟩ <;> assumption) | (refine ⟨?_, ?_, ?_⟩ <;> assumption) | (intros; assumption) | (right; right; assumption) | (right; left; assumption) | (left; assumption))))) (cP (@iaddrInt (v) ((2 : Int)) (by (first | assumption | (((try simp only [SA] at *); (try simp (disch := omega) only [SB, reduceCtorEq] at *)) <;> first | omega | assumption | (refine ⟨?_, ?_⟩ <;> assumption) | (refine ⟨?_, ?_, ?_⟩ <;> assumption) | (intros; assumption) | (right; right; assumption) | (right; left; assumption) | (left; assumption)))) (by (first | assumption | (((try simp only [SA] at *); (try simp (disch := omega) only [SB, reduceCtorEq] at *)) <;> first | omega | assumption | (refine ⟨?_, ?_⟩ <;> assumption) | (refine ⟨?_, ?_, ?_⟩ <;> assumption) | (intros; assumption) | (right; right; assumption) | (right; left; assumption) | (left; assumption))))) (cP (@loadIntK (v) ([(Ob.cells [(V.d (D.int IntKind.i64 (0 : Int))), (V.d (D.int IntKind.i64 (0 : Int))), (V.d (D.int IntKind.i64 (0 : Int))), (V.tail (nat_lit 48) [] (nat_lit 0)), (V.tail (nat_lit 3) [] (nat_lit 0)), (V.tail (nat_lit 60) [] (nat_lit 0))]), (Ob.cells [(V.d (D.int IntKind.i64 (4 : Int))), (V.d (D.int IntKind.i64 (0 : Int))), (V.d (D.int IntKind.i64 (0 : Int))), (V.tail (nat_lit 48) [] (nat_lit 0)), (V.tail (nat_lit 3) (List.flatMap (Ty.enc i64) rs) (List.length rs)), (V.tail (nat_lit 60) (List.flatMap (Ty.enc inlT) ns) (List.length ns))]), (Ob.cells [(V.d (D.int IntKind.i64 (0 : Int))), (V.d (D.str t)), (V.d (D.bool true))])]) (nat_lit 1) (by (first | assumption | (((try simp only [SA] at *); (try simp (disch := omega) only [SB, reduceCtorEq] at *)) <;> first | omega | assumption | (refine ⟨?_, ?_⟩ <;> assumption) | (refine ⟨?_, ?_, ?_⟩ <;> assumption) | (intros; assumption) | (right; right; assumption) | (right; left; assumption) | (left; assumption))))) (cP (@iaddrInt (v) ((1 : Int)) (by (first | assumption | (((try simp only [SA] at *); (try simp (disch := omega) only [SB, reduceCtorEq] at *)) <;> first | omega | assumption | (refine ⟨?_, ?_⟩ <;> assumption) | (refine ⟨?_, ?_, ?_⟩ <;> assumption) | (intros; assumption) | (right; right; assumption) | (right; left; assumption) | (left; assumption)))) (by (first | assumption | (((try simp only [SA] at *); (try simp (disch := omega) only [SB, reduceCtorEq] at *)) <;> first | omega | assumption | (refine ⟨?_, ?_⟩ <;> assumption) | (refine ⟨?_, ?_, ?_⟩ <;> assumption) | (intros; assumption) | (right; right; assumption) | (right; left; assumption) | (left; assumption))))) (cP (@loadIntK (v) ([(Ob.cells [(V.d (D.int IntKind.i64 (0 : Int))), (V.d (D.int IntKind.i64 (0 : Int))), (V.d (D.int IntKind.i64 (0 : Int))), (V.tail (nat_lit 48) [] (nat_lit 0)), (V.tail (nat_lit 3) [] (nat_lit 0)), (V.tail (nat_lit 60) [] (nat_lit 0))]), (Ob.cells [(V.d (D.int IntKind.i64 (4 : Int))), (V.d (D.int IntKind.i64 (0 : Int))), (V.d (D.int IntKind.i64 (0 : Int))), (V.tail (nat_lit 48) [] (nat_lit 0)), (V.tail (nat_lit 3) (List.flatMap (Ty.enc i64) rs) (List.length rs)), (V.tail (nat_lit 60) (List.flatMap (Ty.enc inlT) ns) (List.length ns))]), (Ob.cells [(V.d (D.int IntKind.i64 (0 : Int))), (V.d (D.str t)), (V.d (D.bool true))])]) (nat_lit 0) (by (first | assumption | (((try simp only [SA] at *); (try simp (disch := omega) only [SB, reduceCtorEq] at *)) <;> first | omega | assumption | (refine ⟨?_, ?_⟩ <;> assumption) | (refine ⟨?_, ?_, ?_⟩ <;> assumption) | (intros; assumption) | (right; right; assumption) | (right; left; assumption) | (left; assumption))))) (cP (@iaddrInt (v) ((0 : Int)) (by (first | assumption | (((try simp only [SA] at *); (try simp (disch := omega) only [SB, reduceCtorEq] at *)) <;> first | omega | assumption | (refine ⟨?_, ?_⟩ <;> assumption) | (refine ⟨?_, ?_, ?_⟩ <;> assumption) | (intros; assumption) | (right; right; assumption) | (right; left; assumption) | (left; assumption)))) (by (first | assumption | (((try simp only [SA] at *); (try simp (disch := omega) only [SB, reduceCtorEq] at *)) <;> first | omega | assumption | (refine ⟨?_, ?_⟩ <;> assumption) | (refine ⟨?_, ?_, ?_⟩ <;> assumption) | (intros; assumption) | (right; right; assumption) | (right; left; assumption) | (left; assumption))))) (cP hx3 (cP hx3 (cP hx3 (cP hx3 (cC (@toldE (strAt l (nat_lit 5)) (t) (true) hw et eb) (cP (@loadStrK (l) ([(Ob.cells [(V.d (D.int IntKind.i64 (0 : Int))), (V.d (D.int IntKind.i64 (0 : Int))), (V.d (D.int IntKind.i64 (0 : Int))), (V.tail (nat_lit 48) [] (nat_lit 0)), (V.tail (nat_lit 3) [] (nat_lit 0)), (V.tail (nat_lit 60) [] (nat_lit 0))]), (Ob.cells [(V.d (D.int IntKind.i64 (4 : Int))), (V.d (D.int IntKind.i64 (0 : Int))), (V.d (D.int IntKind.i64 (0 : Int))), (V.tail (nat_lit 48) [] (nat_lit 0)), (V.tail (nat_lit 3) (List.flatMap (Ty.enc i64) rs) (List.length rs)), (V.tail (nat_lit 60) (List.flatMap (Ty.enc inlT) ns) (List.length ns))])]) (nat_lit 5) (by (first | assumption | (((try simp only [SA] at *); (try simp (disch := omega) only [SB, reduceCtorEq] at *)) <;> first | omega | assumption | (refine ⟨?_, ?_⟩ <;> assumption) | (refine ⟨?_, ?_, ?_⟩ <;> assumption) | (intros; assumption) | (right; right; assumption) | (right; left; assumption) | (left; assumption))))) (cP (@iaddrStr (l) ((5 : Int)) (by (first | assumption | (((try simp only [SA] at *); (try simp (disch := omega) only [SB, reduceCtorEq] at *)) <;> first | omega | assumption | (refine ⟨?_, ?_⟩ <;> assumption) | (refine ⟨?_, ?_, ?_⟩ <;> assumption) | (intros; assumption) | (right; right; assumption) | (right; left; assumption) | (left; assumption)))) (by (first | assumption | (((try simp only [SA] at *); (try simp (disch := omega) only [SB, reduceCtorEq] at *)) <;> first | omega | assumption | (refine ⟨?_, ?_⟩ <;> assumption) | (refine ⟨?_, ?_, ?_⟩ <;> assumption) | (intros; assumption) | (right; right; assumption) | (right; left; assumption) | (left; assumption))))) (cC (@nmY (m) (v) (by (first | assumption | (((try simp only [SA] at *); (try simp (disch := omega) only [SB, reduceCtorEq] at *)) <;> first | omega | assumption | (refine ⟨?_, ?_⟩ <;> assumption) | (refine ⟨?_, ?_, ?_⟩ <;> assumption) | (intros; assumption) | (right; right; assumption) | (right; left; assumption) | (left; assumption)))) hs (by (first | assumption | (((try simp only [SA] at *); (try simp (disch := omega) only [SB, reduceCtorEq] at *)) <;> first | omega | assumption | (refine ⟨?_, ?_⟩ <;> assumption) | (refine ⟨?_, ?_, ?_⟩ <;> assumption) | (intros; assumption) | (right; right; assumption) | (right; left; assumption) | (left; assumption)))) ho en) (cP (@sliceMid15 (l) (m) (by (first | assumption | (((try simp only [SA] at *); (try simp (disch := omega) only [SB, reduceCtorEq] at *)) <;> first | omega | assumption | (refine ⟨?_, ?_⟩ <;> assumption) | (refine ⟨?_, ?_, ?_⟩ <;> assumption) | (intros; assumption) | (right; right; assumption) | (right; left; assumption) | (left; assumption)))) em) (cP hx2 (cP hx1 (cP (@strNe (strAt l (nat_lit 0)) ([(43 : UInt8)])) (cP hx1 (cP (@loadStrK (l) ([(Ob.cells [(V.d (D.int IntKind.i64 (0 : Int))), (V.d (D.int IntKind.i64 (0 : Int))), (V.d (D.int IntKind.i64 (0 : Int))), (V.tail (nat_lit 48) [] (nat_lit 0)), (V.tail (nat_lit 3) [] (nat_lit 0)), (V.tail (nat_lit 60) [] (nat_lit 0))]), (Ob.cells [(V.d (D.int IntKind.i64 (4 : Int))), (V.d (D.int IntKind.i64 (0 : Int))), (V.d (D.int IntKind.i64 (0 : Int))), (V.tail (nat_lit 48) [] (nat_lit 0)), (V.tail (nat_lit 3) (List.flatMap (Ty.enc i64) rs) (List.length rs)), (V.tail (nat_lit 60) (List.flatMap (Ty.enc inlT) ns) (List.length ns))])]) (nat_lit 0) (by (first | assumption | (((try simp only [SA] at *); (try simp (disch := omega) only [SB, reduceCtorEq] at *)) <;> first | omega | assumption | (refine ⟨?_, ?_⟩ <;> assumption) | (refine ⟨?_, ?_, ?_⟩ <;> assumption) | (intros; assumption) | (right; right; assumption) | (right; left; assumption) | (left; assumption))))) (cP hx1 (cP (@iaddrStr (l) ((0 : Int)) (by (first | assumption | (((try simp only [SA] at *); (try simp (disch := omega) only [SB, reduceCtorEq] at *)) <;> first | omega | assumption | (refine ⟨?_, ?_⟩ <;> assumption) | (refine ⟨?_, ?_, ?_⟩ <;> assumption) | (intros; assumption) | (right; right; assumption) | (right; left; assumption) | (left; assumption)))) (by (first | assumption | (((try simp only [SA] at *); (try simp (disch := omega) only [SB, reduceCtorEq] at *)) <;> first | omega | assumption | (refine ⟨?_, ?_⟩ <;> assumption) | (refine ⟨?_, ?_, ?_⟩ <;> assumption) | (intros; assumption) | (right; right; assumption) | (right; left; assumption) | (left; assumption))))) (cP hx1 (cP hx1 (cP hx0 nilE))))))))))))))))))))))))))))) (by kernel_rfl)
set_option maxHeartbeats 4000000 in
theorem ri7 : ri7_T := by
  intro l rs ns h0 h2
  have hx0 : (decide ((↑(List.length l) : Int) > (0 : Int))) = true := by (first | assumption | (((try simp only [SA] at *); (try simp (disch := omega) only [SB, reduceCtorEq] at *)) <;> first | omega | assumption | (refine ⟨?_, ?_⟩ <;> assumption) | (refine ⟨?_, ?_, ?_⟩ <;> assumption) | (intros; assumption) | (right; right; assumption) | (right; left; assumption) | (left; assumption)))
  have hx1 : (decide ((↑(List.length l) : Int) < (6 : Int))) = true := by (first | assumption | (((try simp only [SA] at *); (try simp (disch := omega) only [SB, reduceCtorEq] at *)) <;> first | omega | assumption | (refine ⟨?_, ?_⟩ <;> assumption) | (refine ⟨?_, ?_, ?_⟩ <;> assumption) | (intros; assumption) | (right; right; assumption) | (right; left; assumption) | (left; assumption)))
  exact pR 12 [(2, bt), (5, bt), (6, bt), (7, bt), (8, bt), (9, bt)] (cP hx1 (cP hx1 (cP hx1 (cP hx1 (cP hx1 (cP hx0 nilE)))))) (by kernel_rfl)
set_option maxHeartbeats 4000000 in
theorem ri8 : ri8_T := by
  intro l rs ns h2 hd
  have hx0 : (decide ((↑(List.length l) : Int) > (0 : Int))) = true := by (first | assumption | (((try simp only [SA] at *); (try simp (disch := omega) only [SB, reduceCtorEq] at *)) <;> first | omega | assumption | (refine ⟨?_, ?_⟩ <;> assumption) | (refine ⟨?_, ?_, ?_⟩ <;> assumption) | (intros; assumption) | (right; right; assumption) | (right; left; assumption) | (left; assumption)))
  have hx1 : (decide ((↑(List.length l) : Int) < (6 : Int))) = false := by (first | assumption | (((try simp only [SA] at *); (try simp (disch := omega) only [SB, reduceCtorEq] at *)) <;> first | omega | assumption | (refine ⟨?_, ?_⟩ <;> assumption) | (refine ⟨?_, ?_, ?_⟩ <;> assumption) | (intros; assumption) | (right; right; assumption) | (right; left; assumption) | (left; assumption)))
  have hx2 : (!((strAt l (nat_lit 0)) == [(43 : UInt8)])) = true := by (first | assumption | (((try simp only [SA] at *); (try simp (disch := omega) only [SB, reduceCtorEq] at *)) <;> first | omega | assumption | (refine ⟨?_, ?_⟩ <;> assumption) | (refine ⟨?_, ?_, ?_⟩ <;> assumption) | (intros; assumption) | (right; right; assumption) | (right; left; assumption) | (left; assumption)))
  exact pR 12 [(2, bt), (5, bf), (6, bf), (7, .v (V.d (D.ref (List.map D.str l) ((Int.toNat (0 : Int)) * (1 : Nat))))), (8, bf), (9, .v (V.d (D.str (strAt l (nat_lit 0))))), (10, bf), (11, .v (V.d (D.bool !((strAt l (nat_lit 0)) == [(43 : UInt8)])))), (12, bf), (13, bt)] (cP hx2 (cP hx1 (cP (@strNe (strAt l (nat_lit 0)) ([(43 : UInt8)])) (cP hx1 (cP (@loadStrK (l) ([(Ob.cells [(V.d (D.int IntKind.i64 (0 : Int))), (V.d (D.int IntKind.i64 (0 : Int))), (V.d (D.int IntKind.i64 (0 : Int))), (V.tail (nat_lit 48) [] (nat_lit 0)), (V.tail (nat_lit 3) [] (nat_lit 0)), (V.tail (nat_lit 60) [] (nat_lit 0))]), (Ob.cells [(V.d (D.int IntKind.i64 (4 : Int))), (V.d (D.int IntKind.i64 (0 : Int))), (V.d (D.int IntKind.i64 (0 : Int))), (V.tail (nat_lit 48) [] (nat_lit 0)), (V.tail (nat_lit 3) (List.flatMap (Ty.enc i64) rs) (List.length rs)), (V.tail (nat_lit 60) (List.flatMap (Ty.enc inlT) ns) (List.length ns))])]) (nat_lit 0) (by (first | assumption | (((try simp only [SA] at *); (try simp (disch := omega) only [SB, reduceCtorEq] at *)) <;> first | omega | assumption | (refine ⟨?_, ?_⟩ <;> assumption) | (refine ⟨?_, ?_, ?_⟩ <;> assumption) | (intros; assumption) | (right; right; assumption) | (right; left; assumption) | (left; assumption))))) (cP hx1 (cP (@iaddrStr (l) ((0 : Int)) (by (first | assumption | (((try simp only [SA] at *); (try simp (disch := omega) only [SB, reduceCtorEq] at *)) <;> first | omega | assumption | (refine ⟨?_, ?_⟩ <;> assumption) | (refine ⟨?_, ?_, ?_⟩ <;> assumption) | (intros; assumption) | (right; right; assumption) | (right; left; assumption) | (left; assumption)))) (by (first | assumption | (((try simp only [SA] at *); (try simp (disch := omega) only [SB, reduceCtorEq] at *)) <;> first | omega | assumption | (refine ⟨?_, ?_⟩ <;> assumption) | (refine ⟨?_, ?_, ?_⟩ <;> assumption) | (intros; assumption) | (right; right; assumption) | (right; left; assumption) | (left; assumption))))) (cP hx1 (cP hx1 (cP hx0 nilE)))))))))) (by kernel_rfl)
set_option maxHeartbeats 4000000 in
theorem ri9 : ri9_T := by
  intro l m rs ns t b hl hs hw h2 hd em hm ho et eb
  have hx0 : (decide ((↑(List.length l) : Int) > (0 : Int))) = true := by (first | assumption | (((try simp only [SA] at *); (try simp (disch := omega) only [SB, reduceCtorEq] at *)) <;> first | omega | assumption | (refine ⟨?_, ?_⟩ <;> assumption) | (refine ⟨?_, ?_, ?_⟩ <;> assumption) | (intros; assumption) | (right; right; assumption) | (right; left; assumption) | (left; assumption)))
  have hx1 : (decide ((↑(List.length l) : Int) < (6 : Int))) = false := by (first | assumption | (((try simp only [SA] at *); (try simp (disch := omega) only [SB, reduceCtorEq] at *)) <;> first | omega | assumption | (refine ⟨?_, ?_⟩ <;> assumption) | (refine ⟨?_, ?_, ?_⟩ <;> assumption) | (intros; assumption) | (right; right; assumption) | (right; left; assumption) | (left; assumption)))
  have hx2 : (!((strAt l (nat_lit 0)) == [(43 : UInt8)])) = false := by (first | assumption | (((try simp only [SA] at *); (try simp (disch := omega) only [SB, reduceCtorEq] at *)) <;> first | omega | assumption | (refine ⟨?_, ?_⟩ <;> assumption) | (refine ⟨?_, ?_, ?_⟩ <;> assumption) | (intros; assumption) | (right; right; assumption) | (right; left; assumption) | (left; assumption)))
  exact pR 12 [(2, bt), (5, bf), (6, bf), (7, .v (V.d (D.ref (List.map D.str l) ((Int.toNat (0 : Int)) * (1 : Nat))))), (8, bf), (9, .v (V.d (D.str (strAt l (nat_lit 0))))), (10, bf), (11, .v (V.d (D.bool !((strAt l (nat_lit 0)) == [(43 : UInt8)])))), (12, bf), (13, bf), (14, .v (V.d (strsD m))), (15, .v (Ty.tailV i64 (3 : TypeId) [])), (16, .v (V.d (D.ref (List.map D.str l) ((Int.toNat (5 : Int)) * (1 : Nat))))), (17, .v (V.d (D.str (strAt l (nat_lit 5))))), (18, .v (V.d (valD (0 : Int) t b)))] (cC (@toldE (strAt l (nat_lit 5)) (t) (b) hw et eb) (cP (@loadStrK (l) ([(Ob.cells [(V.d (D.int IntKind.i64 (0 : Int))), (V.d (D.int IntKind.i64 (0 : Int))), (V.d (D.int IntKind.i64 (0 : Int))), (V.tail (nat_lit 48) [] (nat_lit 0)), (V.tail (nat_lit 3) [] (nat_lit 0)), (V.tail (nat_lit 60) [] (nat_lit 0))]), (Ob.cells [(V.d (D.int IntKind.i64 (4 : Int))), (V.d (D.int IntKind.i64 (0 : Int))), (V.d (D.int IntKind.i64 (0 : Int))), (V.tail (nat_lit 48) [] (nat_lit 0)), (V.tail (nat_lit 3) (List.flatMap (Ty.enc i64) rs) (List.length rs)), (V.tail (nat_lit 60) (List.flatMap (Ty.enc inlT) ns) (List.length ns))])]) (nat_lit 5) (by (first | assumption | (((try simp only [SA] at *); (try simp (disch := omega) only [SB, reduceCtorEq] at *)) <;> first | omega | assumption | (refine ⟨?_, ?_⟩ <;> assumption) | (refine ⟨?_, ?_, ?_⟩ <;> assumption) | (intros; assumption) | (right; right; assumption) | (right; left; assumption) | (left; assumption))))) (cP (@iaddrStr (l) ((5 : Int)) (by (first | assumption | (((try simp only [SA] at *); (try simp (disch := omega) only [SB, reduceCtorEq] at *)) <;> first | omega | assumption | (refine ⟨?_, ?_⟩ <;> assumption) | (refine ⟨?_, ?_, ?_⟩ <;> assumption) | (intros; assumption) | (right; right; assumption) | (right; left; assumption) | (left; assumption)))) (by (first | assumption | (((try simp only [SA] at *); (try simp (disch := omega) only [SB, reduceCtorEq] at *)) <;> first | omega | assumption | (refine ⟨?_, ?_⟩ <;> assumption) | (refine ⟨?_, ?_, ?_⟩ <;> assumption) | (intros; assumption) | (right; right; assumption) | (right; left; assumption) | (left; assumption))))) (cC (@nmN (m) (by (first | assumption | (((try simp only [SA] at *); (try simp (disch := omega) only [SB, reduceCtorEq] at *)) <;> first | omega | assumption | (refine ⟨?_, ?_⟩ <;> assumption) | (refine ⟨?_, ?_, ?_⟩ <;> assumption) | (intros; assumption) | (right; right; assumption) | (right; left; assumption) | (left; assumption)))) hs ho) (cP (@sliceMid15 (l) (m) (by (first | assumption | (((try simp only [SA] at *); (try simp (disch := omega) only [SB, reduceCtorEq] at *)) <;> first | omega | assumption | (refine ⟨?_, ?_⟩ <;> assumption) | (refine ⟨?_, ?_, ?_⟩ <;> assumption) | (intros; assumption) | (right; right; assumption) | (right; left; assumption) | (left; assumption)))) em) (cP hx2 (cP hx1 (cP (@strNe (strAt l (nat_lit 0)) ([(43 : UInt8)])) (cP hx1 (cP (@loadStrK (l) ([(Ob.cells [(V.d (D.int IntKind.i64 (0 : Int))), (V.d (D.int IntKind.i64 (0 : Int))), (V.d (D.int IntKind.i64 (0 : Int))), (V.tail (nat_lit 48) [] (nat_lit 0)), (V.tail (nat_lit 3) [] (nat_lit 0)), (V.tail (nat_lit 60) [] (nat_lit 0))]), (Ob.cells [(V.d (D.int IntKind.i64 (4 : Int))), (V.d (D.int IntKind.i64 (0 : Int))), (V.d (D.int IntKind.i64 (0 : Int))), (V.tail (nat_lit 48) [] (nat_lit 0)), (V.tail (nat_lit 3) (List.flatMap (Ty.enc i64) rs) (List.length rs)), (V.tail (nat_lit 60) (List.flatMap (Ty.enc inlT) ns) (List.length ns))])]) (nat_lit 0) (by (first | assumption | (((try simp only [SA] at *); (try simp (disch := omega) only [SB, reduceCtorEq] at *)) <;> first | omega | assumption | (refine ⟨?_, ?_⟩ <;> assumption) | (refine ⟨?_, ?_, ?_⟩ <;> assumption) | (intros; assumption) | (right; right; assumption) | (right; left; assumption) | (left; assumption))))) (cP hx1 (cP (@iaddrStr (l) ((0 : Int)) (by (first | assumption | (((try simp only [SA] at *); (try simp (disch := omega) only [SB, reduceCtorEq] at *)) <;> first | omega | assumption | (refine ⟨?_, ?_⟩ <;> assumption) | (refine ⟨?_, ?_, ?_⟩ <;> assumption) | (intros; assumption) | (right; right; assumption) | (right; left; assumption) | (left; assumption)))) (by (first | assumption | (((try simp only [SA] at *); (try simp (disch := omega) only [SB, reduceCtorEq] at *)) <;> first | omega | assumption | (refine ⟨?_, ?_⟩ <;> assumption) | (refine ⟨?_, ?_, ?_⟩ <;> assumption) | (intros; assumption) | (right; right; assumption) | (right; left; assumption) | (left; assumption))))) (cP hx1 (cP hx1 (cP hx0 nilE))))))))))))))) (by kernel_rfl)
set_option maxHeartbeats 4000000 in
theorem ri10 : ri10_T := by
  intro l m rs ns v t hl hs hw h2 hd em hm ho en hn et eb
  have hx0 : (decide ((↑(List.length l) : Int) > (0 : Int))) = true := by (first | assumption | (((try simp only [SA] at *); (try simp (disch := omega) only [SB, reduceCtorEq] at *)) <;> first | omega | assumption | (refine ⟨?_, ?_⟩ <;> assumption) | (refine ⟨?_, ?_, ?_⟩ <;> assumption) | (intros; assumption) | (right; right; assumption) | (right; left; assumption) | (left; assumption)))
  have hx1 : (decide ((↑(List.length l) : Int) < (6 : Int))) = false := by (first | assumption | (((try simp only [SA] at *); (try simp (disch := omega) only [SB, reduceCtorEq] at *)) <;> first | omega | assumption | (refine ⟨?_, ?_⟩ <;> assumption) | (refine ⟨?_, ?_, ?_⟩ <;> assumption) | (intros; assumption) | (right; right; assumption) | (right; left; assumption) | (left; assumption)))
  have hx2 : (!((strAt l (nat_lit 0)) == [(43 : UInt8)])) = false := by (first | assumption | (((try simp only [SA] at *); (try simp (disch := omega) only [SB, reduceCtorEq] at *)) <;> first | omega | assumption | (refine ⟨?_, ?_⟩ <;> assumption) | (refine ⟨?_, ?_, ?_⟩ <;> assumption) | (intros; assumption) | (right; right; assumption) | (right; left; assumption) | (left; assumption)))
  have hx3 : (decide ((↑(List.length v) : Int) < (4 : Int))) = false := by (first | assumption | (((try simp only [SA] at *); (try simp (disch := omega) only [SB, reduceCtorEq] at *)) <;> first | omega | assumption | (refine ⟨?_, ?_⟩ <;> assumption) | (refine ⟨?_, ?_, ?_⟩ <;> assumption) | (intros; assumption) | (right; right; assumption) | (right; left; assumption) | (left; assumption)))
  exact pR 12 [(2, bt), (5, bf), (6, bf), (7, .v (V.d (D.ref (List.map D.str l) ((Int.toNat (0 : Int)) * (1 : Nat))))), (8, bf), (9, .v (V.d (D.str (strAt l (nat_lit 0))))), (10, bf), (11, .v (V.d (D.bool !((strAt l (nat_lit 0)) == [(43 : UInt8)])))), (12, bf), (13, bf), (14, .v (V.d (strsD m))), (15, .v (V.d (Ty.slD i64 v))), (16, .v (V.d (D.ref (List.map D.str l) ((Int.toNat (5 : Int)) * (1 : Nat))))), (17, .v (V.d (D.str (strAt l (nat_lit 5))))), (18, .v (V.d (valD (0 : Int) t false))), (21, bf), (22, bf), (24, bf), (25, bf)] (cP hx3 (cP hx3 (cP hx3 (cP hx3 (cC (@toldE (strAt l (nat_lit 5)) (t) (false) hw et eb) (cP (@loadStrK (l) ([(Ob.cells [(V.d (D.int IntKind.i64 (0 : Int))), (V.d (D.int IntKind.i64 (0 : Int))), (V.d (D.int IntKind.i64 (0 : Int))), (V.tail (nat_lit 48) [] (nat_lit 0)), (V.tail (nat_lit 3) [] (nat_lit 0)), (V.tail (nat_lit 60) [] (nat_lit 0))]), (Ob.cells [(V.d (D.int IntKind.i64 (4 : Int))), (V.d (D.int IntKind.i64 (0 : Int))), (V.d (D.int IntKind.i64 (0 : Int))), (V.tail (nat_lit 48) [] (nat_lit 0)), (V.tail (nat_lit 3) (List.flatMap (Ty.enc i64) rs) (List.length rs)), (V.tail (nat_lit 60) (List.flatMap (Ty.enc inlT) ns) (List.length ns))])]) (nat_lit 5) (by (first | assumption | (((try simp only [SA] at *); (try simp (disch := omega) only [SB, reduceCtorEq] at *)) <;> first | omega | assumption | (refine ⟨?_, ?_⟩ <;> assumption) | (refine ⟨?_, ?_, ?_⟩ <;> assumption) | (intros; assumption) | (right; right; assumption) | (right; left; assumption) | (left; assumption))))) (cP (@iaddrStr (l) ((5 : Int)) (by (first | assumption | (((try simp only [SA] at *); (try simp (disch := omega) only [SB, reduceCtorEq] at *)) <;> first | omega | assumption | (refine ⟨?_, ?_⟩ <;> assumption) | (refine ⟨?_, ?_, ?_⟩ <;> assumption) | (intros; assumption) | (right; right; assumption) | (right; left; assumption) | (left; assumption)))) (by (first | assumption | (((try simp only [SA] at *); (try simp (disch := omega) only [SB, reduceCtorEq] at *)) <;> first | omega | assumption | (refine ⟨?_, ?_⟩ <;> assumption) | (refine ⟨?_, ?_, ?_⟩ <;> assumption) | (intros; assumption) | (right; right; assumption) | (right; left; assumption) | (left; assumption))))) (cC (@nmY (m) (v) (by (first | assumption | (((try simp only [SA] at *); (try simp (disch := omega) only [SB, reduceCtorEq] at *)) <;> first | omega | assumption | (refine ⟨?_, ?_⟩ <;> assumption) | (refine ⟨?_, ?_, ?_⟩ <;> assumption) | (intros; assumption) | (right; right; assumption) | (right; left; assumption) | (left; assumption)))) hs (by (first | assumption | (((try simp only [SA] at *); (try simp (disch := omega) only [SB, reduceCtorEq] at *)) <;> first | omega | assumption | (refine ⟨?_, ?_⟩ <;> assumption) | (refine ⟨?_, ?_, ?_⟩ <;> assumption) | (intros; assumption) | (right; right; assumption) | (right; left; assumption) | (left; assumption)))) ho en) (cP (@sliceMid15 (l) (m) (by (first | assumption | (((try simp only [SA] at *); (try simp (disch := omega) only [SB, reduceCtorEq] at *)) <;> first | omega | assumption | (refine ⟨?_, ?_⟩ <;> assumption) | (refine ⟨?_, ?_, ?_⟩ <;> assumption) | (intros; assumption) | (right; right; assumption) | (right; left; assumption) | (left; assumption)))) em) (cP hx2 (cP hx1 (cP (@strNe (strAt l (nat_lit 0)) ([(43 : UInt8)])) (cP hx1 (cP (@loadStrK (l) ([(Ob.cells [(V.d (D.int IntKind.i64 (0 : Int))), (V.d (D.int IntKind.i64 (0 : Int))), (V.d (D.int IntKind.i64 (0 : Int))), (V.tail (nat_lit 48) [] (nat_lit 0)), (V.tail (nat_lit 3) [] (nat_lit 0)), (V.tail (nat_lit 60) [] (nat_lit 0))]), (Ob.cells [(V.d (D.int IntKind.i64 (4 : Int))), (V.d (D.int IntKind.i64 (0 : Int))), (V.d (D.int IntKind.i64 (0 : Int))), (V.tail (nat_lit 48) [] (nat_lit 0)), (V.tail (nat_lit 3) (List.flatMap (Ty.enc i64) rs) (List.length rs)), (V.tail (nat_lit 60) (List.flatMap (Ty.enc inlT) ns) (List.length ns))])]) (nat_lit 0) (by (first | assumption | (((try simp only [SA] at *); (try simp (disch := omega) only [SB, reduceCtorEq] at *)) <;> first | omega | assumption | (refine ⟨?_, ?_⟩ <;> assumption) | (refine ⟨?_, ?_, ?_⟩ <;> assumption) | (intros; assumption) | (right; right; assumption) | (right; left; assumption) | (left; assumption))))) (cP hx1 (cP (@iaddrStr (l) ((0 : Int)) (by (first | assumption | (((try simp only [SA] at *); (try simp (disch := omega) only [SB, reduceCtorEq] at *)) <;> first | omega | assumption | (refine ⟨?_, ?_⟩ <;> assumption) | (refine ⟨?_, ?_, ?_⟩ <;> assumption) | (intros; assumption) | (right; right; assumption) | (right; left; assumption) | (left; assumption)))) (by (first | assumption | (((try simp only [SA] at *); (try simp (disch := omega) only [SB, reduceCtorEq] at *)) <;> first | omega | assumption | (refine ⟨?_, ?_⟩ <;> assumption) | (refine ⟨?_, ?_, ?_⟩ <;> assumption) | (intros; assumption) | (right; right; assumption) | (right; left; assumption) | (left; assumption))))) (cP hx1 (cP hx1 (cP hx0 nilE))))))))))))))))))) (by kernel_rfl)
set_option maxHeartbeats 4000000 in
theorem ri11 : ri11_T := by
  intro l rs ns h2
  have hx0 : (decide ((↑(List.length l) : Int) > (0 : Int))) = false := by (first | assumption | (((try simp only [SA] at *); (try simp (disch := omega) only [SB, reduceCtorEq] at *)) <;> first | omega | assumption | (refine ⟨?_, ?_⟩ <;> assumption) | (refine ⟨?_, ?_, ?_⟩ <;> assumption) | (intros; assumption) | (right; right; assumption) | (right; left; assumption) | (left; assumption)))
  exact (pR (r := ((Ex.exit (nat_lit 2)), { s := [((nat_lit 0), (V.d (D.sl (List.map D.str l) (List.length l)))), ((nat_lit 2), (V.obj (nat_lit 0) (nat_lit 0))), ((nat_lit 4), (V.obj (nat_lit 1) (nat_lit 0))), ((nat_lit 41), (V.d (D.bool (decide ((↑(List.length l) : Int) > (0 : Int))))))], h := [(Ob.cells [(V.d (D.int IntKind.i64 (0 : Int))), (V.d (D.int IntKind.i64 (0 : Int))), (V.d (D.int IntKind.i64 (0 : Int))), (V.tail (nat_lit 48) [] (nat_lit 0)), (V.tail (nat_lit 3) [] (nat_lit 0)), (V.tail (nat_lit 60) [] (nat_lit 0))]), (Ob.cells [(V.d (D.int IntKind.i64 (4 : Int))), (V.d (D.int IntKind.i64 (0 : Int))), (V.d (D.int IntKind.i64 (0 : Int))), (V.tail (nat_lit 48) [] (nat_lit 0)), (V.tail (nat_lit 3) (List.flatMap (Ty.enc i64) rs) (List.length rs)), (V.tail (nat_lit 60) (List.flatMap (Ty.enc inlT) ns) (List.length ns))])], og := [] })) 12 [(2, bf)] (cP hx0 nilE) (by kernel_rfl)).to (by ((try simp (disch := omega) only [wrapId, sizeOne, sizeStr, List.length_cons, List.length_nil, wrapU8, toNatAdd, toNatSucc] at *) <;> (try simp only [Int.toNat_natCast, beq_iff_eq, beq_eq_false_iff_ne, bne_iff_ne, bne_eq_false_iff_eq, ne_eq, Int.natCast_eq_zero, Int.natCast_inj] at *) <;> first | (simp (disch := omega) [Ty.enc, wrapId, toNatPred, toNatAdd, toNatSucc, sizeOne, sizeStr, List.length_cons, List.length_nil, wrapU8, ltF, ltT, Ty.slD, *]; done) | (subst_vars; simp (disch := omega) [Ty.enc, wrapId, toNatPred, toNatAdd, toNatSucc, sizeOne, sizeStr, List.length_cons, List.length_nil, wrapU8, ltF, ltT, Ty.slD, *]; done)))
end Go.Proofs.YtgiahagbmgnmkaaDoor.Script
/- Script: loops of the reference's edits and inlays; statements of edits, inlays, sized, Parse. -/
set_option linter.unusedVariables false
set_option linter.unusedSimpArgs false
namespace Go.Proofs.YtgiahagbmgnmkaaDoor.Script
open Go Pv G
theorem numsL_okAll {l : List Str} (h : okAll l = true) : numsL l = l.map numVW := numsL_ok ((okAll_iff l).1 h)
theorem numsL_noAll {l : List Str} (h : okAll l = false) : numsL l = [] := numsL_no (okAll_no h)
theorem numsLt {l : List Str} {n : Nat} (hl : l.length = n) (h0 : 0 < n) : (numsL l).length < n ↔ okAll l = false := by
  cases h : okAll l with
  | true => rw [numsL_okAll h, List.length_map]; simp; omega
  | false => rw [numsL_noAll h]; simp; omega
theorem tdS_yes {w : Str} (h : tdB w = true) : tdS w = tdV w := by unfold tdS; rw [if_pos h]
theorem bF {b : Bool} (h : ¬ b = true) : b = false := by cases b <;> simp_all
theorem smMid {l : List Str} (a b : Nat) (h : Sm l) : Sm (mid l a b) := smDrop a (smTake b h)
def reZ : Nat → List Str → List Ob
  | 0, _ => []
  | f + 1, l =>
    if 0 < l.length then
      if l.length < 3 then []
      else if (numsL (l.take 2)).length < 2 ∨ tdB (strAt l 2) = false then [valO 0 (tdS (strAt l 2)) (tdB (strAt l 2))]
      else reZ f (l.drop 3)
    else []
theorem reC : ∀ f l es m, l.length < f → f ≤ m → es.length + l.length ≤ 1000000 → Sm l →
    ((rfEd f l es).2 = true → LpC X0 0 (ntOf X0 FRe) (lpKeep X0 FRe 0) (lpBody X0 FRe 0) 2 m (stRE l es) (.exit 0, stREx [] (rfEd f l es).1)) ∧
    ((rfEd f l es).2 = false → LpC X0 0 (ntOf X0 FRe) (lpKeep X0 FRe 0) (lpBody X0 FRe 0) 2 m (stRE l es) (.ret, stREr (rfEd f l es).1 (reZ f l))) := by
  intro f
  induction f with
  | zero => intro l es m h; omega
  | succ f ih =>
    intro l es m h hm hr hs
    obtain ⟨m, rfl⟩ : ∃ x, m = x + 1 := ⟨m - 1, by omega⟩
    rw [rfEd, reZ]
    by_cases h0 : 0 < l.length
    · simp only [if_pos h0]
      by_cases h3 : l.length < 3
      · simp only [if_pos h3]
        exact ⟨fun h => (by cases h), fun _ => LpC.last (re2 l es h0 h3) (by simp)⟩
      · simp only [if_neg h3]
        have hm2 : (l.take 2).length = 2 := by simp; omega
        have hw := strAt_sm hs 2
        have s2 := smTake 2 hs
        by_cases hc : (numsL (l.take 2)).length < 2 ∨ tdB (strAt l 2) = false
        · simp only [if_pos hc]
          refine ⟨fun h => (by cases h), fun _ => ?_⟩
          cases ho : okAll (l.take 2) with
          | false => exact LpC.last (re3 l _ es _ _ (by omega) s2 hw (by omega) rfl hm2 ho rfl rfl) (by simp)
          | true =>
            rcases hc with hc | hc
            · have := (numsLt hm2 (by omega)).1 hc; rw [ho] at this; cases this
            · rw [hc]
              exact LpC.last (re4 l _ es _ _ (by omega) s2 hw (by omega) rfl hm2 ho rfl (by rw [List.length_map]; exact hm2) rfl hc) (by simp)
        · simp only [if_neg hc]
          have ho : okAll (l.take 2) = true := by
            cases ho : okAll (l.take 2) with
            | true => rfl
            | false => exact absurd (Or.inl ((numsLt hm2 (by omega)).2 ho)) hc
          have ht : tdB (strAt l 2) = true := by
            cases ht : tdB (strAt l 2) with
            | true => rfl
            | false => exact absurd (Or.inr ht) hc
          have step := re1 l _ _ es _ _ (by omega) (by omega) s2 hw (by omega) rfl rfl hm2 ho (numsL_okAll ho).symm (by rw [numsL_okAll ho, List.length_map]; exact hm2) (tdS_yes ht) ht
          have nxt := ih (l.drop 3) (es ++ [(intAt (numsL (l.take 2)) 0, intAt (numsL (l.take 2)) 1, tdV (strAt l 2), ())]) m (by simp; omega) (by omega) (by simp; omega) (smDrop 3 hs)
          exact ⟨fun h => LpC.next step (nxt.1 h), fun h => LpC.next step (nxt.2 h)⟩
    · simp only [if_neg h0]
      have : l = [] := List.eq_nil_of_length_eq_zero (by omega)
      subst this
      exact ⟨fun _ => LpC.last (re5 [] es rfl) (by simp), fun h => by cases h⟩
def reYesL_T : Prop := ∀ (l : List Str) (es : List Edit) (hl : l.length ≤ 1000000) (hs : Sm l) (e : rfEd (l.length + 1) l [] = (es, true)), Lp X0 0 (ntOf X0 FRe) (lpKeep X0 FRe 0) (lpBody X0 FRe 0) 2 FUEL (stRE l []) (.exit 0, stREx [] es)
theorem reYesL : reYesL_T := fun l es hl hs e => by
  have := (reC (l.length + 1) l [] 1152921504606846975 (by omega) (by omega) (by simp; omega) hs).1 (by rw [e])
  rw [e] at this
  exact LpC.start (m := 1152921504606846975) this (by kernel_rfl)
def reNoL_T : Prop := ∀ (l : List Str) (es : List Edit) (z : List Ob) (hl : l.length ≤ 1000000) (hs : Sm l) (e : rfEd (l.length + 1) l [] = (es, false)) (ez : reZ (l.length + 1) l = z), Lp X0 0 (ntOf X0 FRe) (lpKeep X0 FRe 0) (lpBody X0 FRe 0) 2 FUEL (stRE l []) (.ret, stREr es z)
theorem reNoL : reNoL_T := fun l es z hl hs e ez => by
  have := (reC (l.length + 1) l [] 1152921504606846975 (by omega) (by omega) (by simp; omega) hs).2 (by rw [e])
  rw [e, ez] at this
  exact LpC.start (m := 1152921504606846975) this (by kernel_rfl)
def reY_T : Prop := ∀ (l : List Str) (es : List Edit) (hl : l.length ≤ 1000000) (hs : Sm l) (e : rfEd (l.length + 1) l [] = (es, true)), Ans X0 FRe [.d (strsD l)] (.d (.tup [opR 1 0 0 es [] [], .bool true]))
def reN_T : Prop := ∀ (l : List Str) (es : List Edit) (z : List Ob) (hl : l.length ≤ 1000000) (hs : Sm l) (e : rfEd (l.length + 1) l [] = (es, false)) (ez : reZ (l.length + 1) l = z), Ans X0 FRe [.d (strsD l)] (.d (.tup [opR 1 0 0 es [] [], .bool false]))
/- inlays -/
theorem raC (ns : List Inl) : ∀ f l rs m, l.length < f → f ≤ m → rs.length + l.length ≤ 1000000 → Sm l →
    ((rfRm f l rs).2.2 = true → LpC X0 0 (ntOf X0 FRi) (lpKeep X0 FRi 0) (lpBody X0 FRi 0) 2 m (stRI l rs ns) (.exit 0, stRIx (rfRm f l rs).1 (rfRm f l rs).2.1 ns)) ∧
    ((rfRm f l rs).2.2 = false → LpC X0 0 (ntOf X0 FRi) (lpKeep X0 FRi 0) (lpBody X0 FRi 0) 2 m (stRI l rs ns) (.ret, stRIr (rfRm f l rs).2.1 ns [])) := by
  intro f
  induction f with
  | zero => intro l es m h; omega
  | succ f ih =>
    intro l rs m h hm hr hs
    obtain ⟨m, rfl⟩ : ∃ x, m = x + 1 := ⟨m - 1, by omega⟩
    rw [rfRm]
    by_cases h0 : 0 < l.length
    · simp only [if_pos h0]
      by_cases hd : strAt l 0 = [45]
      · have hd' : (strAt l 0 == [45]) = true := by simpa using hd
        simp only [if_pos hd]
        by_cases h2 : l.length < 2
        · simp only [if_pos h2]
          exact ⟨fun h => (by cases h), fun _ => LpC.last (ri2 l rs ns (by omega) hd') (by simp)⟩
        · simp only [if_neg h2]
          have hm1 : (mid l 1 2).length = 1 := by unfold mid; simp; omega
          by_cases hc : (numsL (mid l 1 2)).length < 1
          · simp only [if_pos hc]
            have ho := (numsLt hm1 (by omega)).1 hc
            exact ⟨fun h => (by cases h), fun _ => LpC.last (ri3 l _ rs ns (by omega) (smMid 1 2 hs) (by omega) hd' rfl hm1 ho) (by simp)⟩
          · simp only [if_neg hc]
            have ho : okAll (mid l 1 2) = true := by
              cases ho : okAll (mid l 1 2) with
              | true => rfl
              | false => exact absurd ((numsLt hm1 (by omega)).2 ho) hc
            have step := ri1 l _ _ rs ns _ (by omega) (by omega) (smMid 1 2 hs) (by omega) hd' rfl rfl hm1 ho (numsL_okAll ho).symm (by rw [numsL_okAll ho, List.length_map]; exact hm1)
            have nxt := ih (l.drop 2) (rs ++ [intAt (numsL (mid l 1 2)) 0]) m (by simp; omega) (by omega) (by simp; omega) (smDrop 2 hs)
            exact ⟨fun h => LpC.next step (nxt.1 h), fun h => LpC.next step (nxt.2 h)⟩
      · have hd' : (strAt l 0 == [45]) = false := by simpa using hd
        simp only [if_neg hd]
        exact ⟨fun _ => LpC.last (ri4 l rs ns h0 hd') (by simp), fun h => by cases h⟩
    · simp only [if_neg h0]
      exact ⟨fun _ => LpC.last (ri5 l rs ns (by omega)) (by simp), fun h => by cases h⟩
theorem rfRm_sm : ∀ f l rs, Sm l → Sm (rfRm f l rs).1 ∧ (rfRm f l rs).1.length ≤ l.length := by
  intro f
  induction f with
  | zero => intro l rs h; exact ⟨h, Nat.le_refl _⟩
  | succ f ih =>
    intro l rs h
    rw [rfRm]
    split
    · split
      · split
        · exact ⟨h, Nat.le_refl _⟩
        · split
          · exact ⟨h, Nat.le_refl _⟩
          · have := ih (l.drop 2) (rs ++ [intAt (numsL (mid l 1 2)) 0]) (smDrop 2 h)
            have hl : (l.drop 2).length ≤ l.length := by simp
            exact ⟨this.1, Nat.le_trans this.2 hl⟩
      · exact ⟨h, Nat.le_refl _⟩
    · exact ⟨h, Nat.le_refl _⟩
def riZ : Nat → List Str → List Ob
  | 0, _ => []
  | f + 1, l =>
    if 0 < l.length then
      if l.length < 6 then []
      else if strAt l 0 = [43] then
        if (numsL (mid l 1 5)).length < 4 ∨ tdB (strAt l 5) = false then [valO 0 (tdS (strAt l 5)) (tdB (strAt l 5))]
        else riZ f (l.drop 6)
      else []
    else []
theorem raC2 (rs : List Int) : ∀ f l ns m, l.length < f → f ≤ m → ns.length + l.length ≤ 1000000 → Sm l →
    ((rfAd f l ns).2 = true → LpC X0 0 (ntOf X0 FRi) (lpKeep X0 FRi 1) (lpBody X0 FRi 1) 2 m (stRI l rs ns) (.exit 2, stRIy [] rs (rfAd f l ns).1)) ∧
    ((rfAd f l ns).2 = false → LpC X0 0 (ntOf X0 FRi) (lpKeep X0 FRi 1) (lpBody X0 FRi 1) 2 m (stRI l rs ns) (.ret, stRIr rs (rfAd f l ns).1 (riZ f l))) := by
  intro f
  induction f with
  | zero => intro l es m h; omega
  | succ f ih =>
    intro l ns m h hm hr hs
    obtain ⟨m, rfl⟩ : ∃ x, m = x + 1 := ⟨m - 1, by omega⟩
    rw [rfAd, riZ]
    by_cases h0 : 0 < l.length
    · simp only [if_pos h0]
      by_cases h6 : l.length < 6
      · simp only [if_pos h6]
        exact ⟨fun h => (by cases h), fun _ => LpC.last (ri7 l rs ns h0 h6) (by simp)⟩
      · simp only [if_neg h6]
        by_cases hd : strAt l 0 = [43]
        · have hd' : (strAt l 0 == [43]) = true := by simpa using hd
          simp only [if_pos hd]
          have hm4 : (mid l 1 5).length = 4 := by unfold mid; simp; omega
          have hw := strAt_sm hs 5
          have s5 := smMid 1 5 hs
          by_cases hc : (numsL (mid l 1 5)).length < 4 ∨ tdB (strAt l 5) = false
          · simp only [if_pos hc]
            refine ⟨fun h => (by cases h), fun _ => ?_⟩
            cases ho : okAll (mid l 1 5) with
            | false => exact LpC.last (ri9 l _ rs ns _ _ (by omega) s5 hw (by omega) hd' rfl hm4 ho rfl rfl) (by simp)
            | true =>
              rcases hc with hc | hc
              · have := (numsLt hm4 (by omega)).1 hc; rw [ho] at this; cases this
              · rw [hc]
                exact LpC.last (ri10 l _ rs ns _ _ (by omega) s5 hw (by omega) hd' rfl hm4 ho rfl (by rw [List.length_map]; exact hm4) rfl hc) (by simp)
          · simp only [if_neg hc]
            have ho : okAll (mid l 1 5) = true := by
              cases ho : okAll (mid l 1 5) with
              | true => rfl
              | false => exact absurd (Or.inl ((numsLt hm4 (by omega)).2 ho)) hc
            have ht : tdB (strAt l 5) = true := by
              cases ht : tdB (strAt l 5) with
              | true => rfl
              | false => exact absurd (Or.inr ht) hc
            have step := ri6 l _ _ rs ns _ _ (by omega) (by omega) s5 hw (by omega) hd' rfl rfl hm4 ho (numsL_okAll ho).symm (by rw [numsL_okAll ho, List.length_map]; exact hm4) (tdS_yes ht) ht
            have nxt := ih (l.drop 6) (ns ++ [(intAt (numsL (mid l 1 5)) 0, intAt (numsL (mid l 1 5)) 1, intAt (numsL (mid l 1 5)) 2, intAt (numsL (mid l 1 5)) 3, tdV (strAt l 5), ())]) m (by simp; omega) (by omega) (by simp; omega) (smDrop 6 hs)
            exact ⟨fun h => LpC.next step (nxt.1 h), fun h => LpC.next step (nxt.2 h)⟩
        · have hd' : (strAt l 0 == [43]) = false := by simpa using hd
          simp only [if_neg hd]
          exact ⟨fun h => (by cases h), fun _ => LpC.last (ri8 l rs ns (by omega) hd') (by simp)⟩
    · simp only [if_neg h0]
      have : l = [] := List.eq_nil_of_length_eq_zero (by omega)
      subst this
      exact ⟨fun _ => LpC.last (ri11 [] rs ns rfl) (by simp), fun h => by cases h⟩
def raYesL_T : Prop := ∀ (l m : List Str) (rs : List Int) (hl : l.length ≤ 1000000) (hs : Sm l) (e : rfRs l = (m, rs, true)), Lp X0 0 (ntOf X0 FRi) (lpKeep X0 FRi 0) (lpBody X0 FRi 0) 2 FUEL (stRI l [] []) (.exit 0, stRIx m rs [])
theorem raYesL : raYesL_T := fun l m rs hl hs e => by
  unfold rfRs at e
  have := (raC [] (l.length + 1) l [] 1152921504606846975 (by omega) (by omega) (by simp; omega) hs).1 (by rw [e])
  rw [e] at this
  exact LpC.start (m := 1152921504606846975) this (by kernel_rfl)
def raNoL_T : Prop := ∀ (l m : List Str) (rs : List Int) (hl : l.length ≤ 1000000) (hs : Sm l) (e : rfRs l = (m, rs, false)), Lp X0 0 (ntOf X0 FRi) (lpKeep X0 FRi 0) (lpBody X0 FRi 0) 2 FUEL (stRI l [] []) (.ret, stRIr rs [] [])
theorem raNoL : raNoL_T := fun l m rs hl hs e => by
  unfold rfRs at e
  have := (raC [] (l.length + 1) l [] 1152921504606846975 (by omega) (by omega) (by simp; omega) hs).2 (by rw [e])
  rw [e] at this
  exact LpC.start (m := 1152921504606846975) this (by kernel_rfl)
def rbYesL_T : Prop := ∀ (l : List Str) (rs : List Int) (ns : List Inl) (hl : l.length ≤ 1000000) (hs : Sm l) (e : rfAs l = (ns, true)), Lp X0 0 (ntOf X0 FRi) (lpKeep X0 FRi 1) (lpBody X0 FRi 1) 2 FUEL (stRIx l rs []) (.exit 2, stRIy [] rs ns)
theorem rbYesL : rbYesL_T := fun l rs ns hl hs e => by
  unfold rfAs at e
  have := (raC2 rs (l.length + 1) l [] 1152921504606846975 (by omega) (by omega) (by simp; omega) hs).1 (by rw [e])
  rw [e] at this
  exact LpC.start (m := 1152921504606846975) this (by kernel_rfl)
def rbNoL_T : Prop := ∀ (l : List Str) (rs : List Int) (ns : List Inl) (z : List Ob) (hl : l.length ≤ 1000000) (hs : Sm l) (e : rfAs l = (ns, false)) (ez : riZ (l.length + 1) l = z), Lp X0 0 (ntOf X0 FRi) (lpKeep X0 FRi 1) (lpBody X0 FRi 1) 2 FUEL (stRIx l rs []) (.ret, stRIr rs ns z)
theorem rbNoL : rbNoL_T := fun l rs ns z hl hs e ez => by
  unfold rfAs at e
  have := (raC2 rs (l.length + 1) l [] 1152921504606846975 (by omega) (by omega) (by simp; omega) hs).2 (by rw [e])
  rw [e, ez] at this
  exact LpC.start (m := 1152921504606846975) this (by kernel_rfl)
def riY_T : Prop := ∀ (l m : List Str) (rs : List Int) (ns : List Inl) (hl : l.length ≤ 1000000) (hs : Sm l) (e : rfRs l = (m, rs, true)) (hl2 : m.length ≤ 1000000) (hs2 : Sm m) (e2 : rfAs m = (ns, true)), Ans X0 FRi [.d (strsD l)] (.d (.tup [opR 4 0 0 [] rs ns, .bool true]))
def riN1_T : Prop := ∀ (l m : List Str) (rs : List Int) (hl : l.length ≤ 1000000) (hs : Sm l) (e : rfRs l = (m, rs, false)), Ans X0 FRi [.d (strsD l)] (.d (.tup [opR 4 0 0 [] rs [], .bool false]))
def riN2_T : Prop := ∀ (l m : List Str) (rs : List Int) (ns : List Inl) (z : List Ob) (hl : l.length ≤ 1000000) (hs : Sm l) (e : rfRs l = (m, rs, true)) (hl2 : m.length ≤ 1000000) (hs2 : Sm m) (e2 : rfAs m = (ns, false)) (ez : riZ (m.length + 1) m = z), Ans X0 FRi [.d (strsD l)] (.d (.tup [opR 4 0 0 [] rs ns, .bool false]))
/- sized -/
abbrev zR : D := .tup [opR 0 0 0 [] [] [], .bool false]
def rz2Y_T : Prop := ∀ (k : Int) (l : List Str) (ns : List Int) (hs : Sm l) (hl : l.length = 2) (ho : okAll l = true) (en : l.map numVW = ns) (hn : ns.length = 2), Ans X0 FSz [.d (.int .i64 k), .d (.int .i64 2), .d (strsD l)] (.d (.tup [opR k (intAt ns 0) (intAt ns 1) [] [] [], .bool true]))
def rz2A_T : Prop := ∀ (k : Int) (l : List Str) (ns : List Int) (hl2 : l.length ≤ 1000000) (hs : Sm l) (hp : 0 < l.length) (hl : l.length ≠ 2) (ho : okAll l = true) (en : l.map numVW = ns), Ans X0 FSz [.d (.int .i64 k), .d (.int .i64 2), .d (strsD l)] (.d zR)
def rz2B_T : Prop := ∀ (k : Int) (l : List Str) (hl2 : l.length ≤ 1000000) (hs : Sm l) (ho : okAll l = false), Ans X0 FSz [.d (.int .i64 k), .d (.int .i64 2), .d (strsD l)] (.d zR)
def rz2C_T : Prop := ∀ (k : Int) (l : List Str) (hl : l.length = 0), Ans X0 FSz [.d (.int .i64 k), .d (.int .i64 2), .d (strsD l)] (.d zR)
def rz1Y_T : Prop := ∀ (k : Int) (l : List Str) (ns : List Int) (hs : Sm l) (hl : l.length = 1) (ho : okAll l = true) (en : l.map numVW = ns) (hn : ns.length = 1), Ans X0 FSz [.d (.int .i64 k), .d (.int .i64 1), .d (strsD l)] (.d (.tup [opR k (intAt ns 0) 0 [] [] [], .bool true]))
def rz1A_T : Prop := ∀ (k : Int) (l : List Str) (ns : List Int) (hl2 : l.length ≤ 1000000) (hs : Sm l) (hp : 0 < l.length) (hl : l.length ≠ 1) (ho : okAll l = true) (en : l.map numVW = ns), Ans X0 FSz [.d (.int .i64 k), .d (.int .i64 1), .d (strsD l)] (.d zR)
def rz1B_T : Prop := ∀ (k : Int) (l : List Str) (hl2 : l.length ≤ 1000000) (hs : Sm l) (ho : okAll l = false), Ans X0 FSz [.d (.int .i64 k), .d (.int .i64 1), .d (strsD l)] (.d zR)
def rz1C_T : Prop := ∀ (k : Int) (l : List Str) (hl : l.length = 0), Ans X0 FSz [.d (.int .i64 k), .d (.int .i64 1), .d (strsD l)] (.d zR)
def rz0Y_T : Prop := ∀ (k : Int) (l : List Str) (hl : l.length = 0), Ans X0 FSz [.d (.int .i64 k), .d (.int .i64 0), .d (strsD l)] (.d (.tup [opR k 0 0 [] [] [], .bool true]))
def rz0A_T : Prop := ∀ (k : Int) (l : List Str) (ns : List Int) (hl2 : l.length ≤ 1000000) (hs : Sm l) (hp : 0 < l.length) (ho : okAll l = true) (en : l.map numVW = ns), Ans X0 FSz [.d (.int .i64 k), .d (.int .i64 0), .d (strsD l)] (.d zR)
def rz0B_T : Prop := ∀ (k : Int) (l : List Str) (hl2 : l.length ≤ 1000000) (hs : Sm l) (hp : 0 < l.length) (ho : okAll l = false), Ans X0 FSz [.d (.int .i64 k), .d (.int .i64 0), .d (strsD l)] (.d zR)
end Go.Proofs.YtgiahagbmgnmkaaDoor.Script
/- Script: paths, printed by a program of mine. -/
set_option maxRecDepth 100000
set_option linter.unusedSimpArgs false
set_option linter.unusedVariables false
namespace Go.Proofs.YtgiahagbmgnmkaaDoor.Script
open Go Pv G
set_option maxHeartbeats 4000000 in
theorem reY : reY_T := by
  intro l es hl hs e
  exact pV 12 [(0, .l (Ex.exit (0 : Nat)) (stREx [] es))] (cE (@reYesL (l) (es) hl hs e) nilE) (by kernel_rfl) rfl rfl
set_option maxHeartbeats 4000000 in
theorem reN : reN_T := by
  intro l es z hl hs e ez
  exact pV 12 [(0, .l (Ex.ret) (stREr es z))] (cE (@reNoL (l) (es) (z) hl hs e ez) nilE) (by kernel_rfl) rfl rfl
set_option maxHeartbeats 4000000 in
theorem riY : riY_T := by
  intro l m rs ns hl hs e hl2 hs2 e2
  exact pV 12 [(0, .l (Ex.exit (0 : Nat)) (stRIx m rs [])), (1, .l (Ex.exit (2 : Nat)) (stRIy [] rs ns))] (cE (@rbYesL (m) (rs) (ns) hl2 hs2 e2) (cE (@raYesL (l) (m) (rs) hl hs e) nilE)) (by kernel_rfl) rfl rfl
set_option maxHeartbeats 4000000 in
theorem riN1 : riN1_T := by
  intro l m rs hl hs e
  exact pV 12 [(0, .l (Ex.ret) (stRIr rs [] []))] (cE (@raNoL (l) (m) (rs) hl hs e) nilE) (by kernel_rfl) rfl rfl
set_option maxHeartbeats 4000000 in
theorem riN2 : riN2_T := by
  intro l m rs ns z hl hs e hl2 hs2 e2 ez
  exact pV 12 [(0, .l (Ex.exit (0 : Nat)) (stRIx m rs [])), (1, .l (Ex.ret) (stRIr rs ns z))] (cE (@rbNoL (m) (rs) (ns) (z) hl2 hs2 e2 ez) (cE (@raYesL (l) (m) (rs) hl hs e) nilE)) (by kernel_rfl) rfl rfl
set_option maxHeartbeats 4000000 in
theorem rz2Y : rz2Y_T := by
  intro k l ns hs hl ho en hn
  have hx0 : ((↑(List.length l) : Int) != (2 : Int)) = false := by (first | assumption | (((try simp only [SA] at *); (try simp (disch := omega) only [SB, reduceCtorEq] at *)) <;> first | omega | assumption | (refine ⟨?_, ?_⟩ <;> assumption) | (refine ⟨?_, ?_, ?_⟩ <;> assumption) | (intros; assumption) | (right; right; assumption) | (right; left; assumption) | (left; assumption)))
  have hx1 : ((↑(List.length ns) : Int) != (2 : Int)) = false := by (first | assumption | (((try simp only [SA] at *); (try simp (disch := omega) only [SB, reduceCtorEq] at *)) <;> first | omega | assumption | (refine ⟨?_, ?_⟩ <;> assumption) | (refine ⟨?_, ?_, ?_⟩ <;> assumption) | (intros; assumption) | (right; right; assumption) | (right; left; assumption) | (left; assumption)))
  exact pV 12 [(0, .v (V.d (Ty.slD i64 ns))), (3, bf), (4, bf), (6, bf), (7, bf), (9, bf), (10, bf), (13, .v (V.d (D.ref (List.flatMap (Ty.enc i64) ns) ((Int.toNat (0 : Int)) * (1 : Nat))))), (14, .v (V.d (D.int IntKind.i64 (intAt ns (nat_lit 0))))), (17, .v (V.d (D.ref (List.flatMap (Ty.enc i64) ns) ((Int.toNat (1 : Int)) * (1 : Nat))))), (18, .v (V.d (D.int IntKind.i64 (intAt ns (nat_lit 1)))))] (cP (@loadIntK (ns) ([(Ob.cells [(V.d (D.int IntKind.i64 (0 : Int))), (V.d (D.int IntKind.i64 (0 : Int))), (V.d (D.int IntKind.i64 (0 : Int))), (V.tail (nat_lit 48) [] (nat_lit 0)), (V.tail (nat_lit 3) [] (nat_lit 0)), (V.tail (nat_lit 60) [] (nat_lit 0))]), (Ob.cells [(V.d (D.int IntKind.i64 k)), (V.d (D.int IntKind.i64 (intAt ns (nat_lit 0)))), (V.d (D.int IntKind.i64 (0 : Int))), (V.tail (nat_lit 48) [] (nat_lit 0)), (V.tail (nat_lit 3) [] (nat_lit 0)), (V.tail (nat_lit 60) [] (nat_lit 0))])]) (nat_lit 1) (by (first | assumption | (((try simp only [SA] at *); (try simp (disch := omega) only [SB, reduceCtorEq] at *)) <;> first | omega | assumption | (refine ⟨?_, ?_⟩ <;> assumption) | (refine ⟨?_, ?_, ?_⟩ <;> assumption) | (intros; assumption) | (right; right; assumption) | (right; left; assumption) | (left; assumption))))) (cP (@iaddrInt (ns) ((1 : Int)) (by (first | assumption | (((try simp only [SA] at *); (try simp (disch := omega) only [SB, reduceCtorEq] at *)) <;> first | omega | assumption | (refine ⟨?_, ?_⟩ <;> assumption) | (refine ⟨?_, ?_, ?_⟩ <;> assumption) | (intros; assumption) | (right; right; assumption) | (right; left; assumption) | (left; assumption)))) (by (first | assumption | (((try simp only [SA] at *); (try simp (disch := omega) only [SB, reduceCtorEq] at *)) <;> first | omega | assumption | (refine ⟨?_, ?_⟩ <;> assumption) | (refine ⟨?_, ?_, ?_⟩ <;> assumption) | (intros; assumption) | (right; right; assumption) | (right; left; assumption) | (left; assumption))))) (cP (@loadIntK (ns) ([(Ob.cells [(V.d (D.int IntKind.i64 (0 : Int))), (V.d (D.int IntKind.i64 (0 : Int))), (V.d (D.int IntKind.i64 (0 : Int))), (V.tail (nat_lit 48) [] (nat_lit 0)), (V.tail (nat_lit 3) [] (nat_lit 0)), (V.tail (nat_lit 60) [] (nat_lit 0))]), (Ob.cells [(V.d (D.int IntKind.i64 k)), (V.d (D.int IntKind.i64 (0 : Int))), (V.d (D.int IntKind.i64 (0 : Int))), (V.tail (nat_lit 48) [] (nat_lit 0)), (V.tail (nat_lit 3) [] (nat_lit 0)), (V.tail (nat_lit 60) [] (nat_lit 0))])]) (nat_lit 0) (by (first | assumption | (((try simp only [SA] at *); (try simp (disch := omega) only [SB, reduceCtorEq] at *)) <;> first | omega | assumption | (refine ⟨?_, ?_⟩ <;> assumption) | (refine ⟨?_, ?_, ?_⟩ <;> assumption) | (intros; assumption) | (right; right; assumption) | (right; left; assumption) | (left; assumption))))) (cP (@iaddrInt (ns) ((0 : Int)) (by (first | assumption | (((try simp only [SA] at *); (try simp (disch := omega) only [SB, reduceCtorEq] at *)) <;> first | omega | assumption | (refine ⟨?_, ?_⟩ <;> assumption) | (refine ⟨?_, ?_, ?_⟩ <;> assumption) | (intros; assumption) | (right; right; assumption) | (right; left; assumption) | (left; assumption)))) (by (first | assumption | (((try simp only [SA] at *); (try simp (disch := omega) only [SB, reduceCtorEq] at *)) <;> first | omega | assumption | (refine ⟨?_, ?_⟩ <;> assumption) | (refine ⟨?_, ?_, ?_⟩ <;> assumption) | (intros; assumption) | (right; right; assumption) | (right; left; assumption) | (left; assumption))))) (cP hx1 (cP hx0 (cP hx0 (cP hx0 (cP hx0 (cP hx0 (cC (@nmY (l) (ns) (by (first | assumption | (((try simp only [SA] at *); (try simp (disch := omega) only [SB, reduceCtorEq] at *)) <;> first | omega | assumption | (refine ⟨?_, ?_⟩ <;> assumption) | (refine ⟨?_, ?_, ?_⟩ <;> assumption) | (intros; assumption) | (right; right; assumption) | (right; left; assumption) | (left; assumption)))) hs (by (first | assumption | (((try simp only [SA] at *); (try simp (disch := omega) only [SB, reduceCtorEq] at *)) <;> first | omega | assumption | (refine ⟨?_, ?_⟩ <;> assumption) | (refine ⟨?_, ?_, ?_⟩ <;> assumption) | (intros; assumption) | (right; right; assumption) | (right; left; assumption) | (left; assumption)))) ho en) nilE))))))))))) (by kernel_rfl) rfl rfl
set_option maxHeartbeats 4000000 in
theorem rz2A : rz2A_T := by
  intro k l ns hl2 hs hp hl ho en
  have hx0 : ((↑(List.length l) : Int) != (2 : Int)) = true := by (first | assumption | (((try simp only [SA] at *); (try simp (disch := omega) only [SB, reduceCtorEq] at *)) <;> first | omega | assumption | (refine ⟨?_, ?_⟩ <;> assumption) | (refine ⟨?_, ?_, ?_⟩ <;> assumption) | (intros; assumption) | (right; right; assumption) | (right; left; assumption) | (left; assumption)))
  exact pV 12 [(0, .v (V.d (Ty.slD i64 ns))), (3, bt), (4, bt), (5, bt), (6, bt), (7, bt)] (cP hx0 (cP hx0 (cP hx0 (cP hx0 (cP hx0 (cC (@nmY (l) (ns) hl2 hs hp ho en) nilE)))))) (by kernel_rfl) rfl rfl
set_option maxHeartbeats 4000000 in
theorem rz2B : rz2B_T := by
  intro k l hl2 hs ho
  rcases Bool.eq_false_or_eq_true ((↑(List.length l) : Int) != (2 : Int)) with hx0 | hx0
  · exact pV 12 [(0, .v (Ty.tailV i64 (3 : TypeId) [])), (3, bt), (4, bt), (5, bt), (6, bt), (7, bt)] (cP hx0 (cP hx0 (cP hx0 (cP hx0 (cP hx0 (cC (@nmN (l) hl2 hs ho) nilE)))))) (by kernel_rfl) rfl rfl
  · exact pV 12 [(0, .v (Ty.tailV i64 (3 : TypeId) [])), (3, bf), (4, bf), (6, bf), (7, bf), (9, bf)] (cP hx0 (cP hx0 (cP hx0 (cP hx0 (cP hx0 (cC (@nmN (l) hl2 hs ho) nilE)))))) (by kernel_rfl) rfl rfl
set_option maxHeartbeats 4000000 in
theorem rz2C : rz2C_T := by
  intro k l hl
  have hx0 : ((↑(List.length l) : Int) != (2 : Int)) = true := by (first | assumption | (((try simp only [SA] at *); (try simp (disch := omega) only [SB, reduceCtorEq] at *)) <;> first | omega | assumption | (refine ⟨?_, ?_⟩ <;> assumption) | (refine ⟨?_, ?_, ?_⟩ <;> assumption) | (intros; assumption) | (right; right; assumption) | (right; left; assumption) | (left; assumption)))
  exact pV 12 [(0, .v (V.full [] (0 : Nat))), (3, bt), (4, bt), (5, bt), (6, bt), (7, bt)] (cP hx0 (cP hx0 (cP hx0 (cP hx0 (cP hx0 (cC (@nmE (l) hl) nilE)))))) (by kernel_rfl) rfl rfl
set_option maxHeartbeats 4000000 in
theorem rz1Y : rz1Y_T := by
  intro k l ns hs hl ho en hn
  have hx0 : ((↑(List.length l) : Int) != (1 : Int)) = false := by (first | assumption | (((try simp only [SA] at *); (try simp (disch := omega) only [SB, reduceCtorEq] at *)) <;> first | omega | assumption | (refine ⟨?_, ?_⟩ <;> assumption) | (refine ⟨?_, ?_, ?_⟩ <;> assumption) | (intros; assumption) | (right; right; assumption) | (right; left; assumption) | (left; assumption)))
  have hx1 : ((↑(List.length ns) : Int) != (1 : Int)) = false := by (first | assumption | (((try simp only [SA] at *); (try simp (disch := omega) only [SB, reduceCtorEq] at *)) <;> first | omega | assumption | (refine ⟨?_, ?_⟩ <;> assumption) | (refine ⟨?_, ?_, ?_⟩ <;> assumption) | (intros; assumption) | (right; right; assumption) | (right; left; assumption) | (left; assumption)))
  exact pV 12 [(0, .v (V.d (Ty.slD i64 ns))), (3, bf), (4, bf), (6, bf), (7, bf), (9, bf), (10, bf), (13, .v (V.d (D.ref (List.flatMap (Ty.enc i64) ns) ((Int.toNat (0 : Int)) * (1 : Nat))))), (14, .v (V.d (D.int IntKind.i64 (intAt ns (nat_lit 0)))))] (cP (@loadIntK (ns) ([(Ob.cells [(V.d (D.int IntKind.i64 (0 : Int))), (V.d (D.int IntKind.i64 (0 : Int))), (V.d (D.int IntKind.i64 (0 : Int))), (V.tail (nat_lit 48) [] (nat_lit 0)), (V.tail (nat_lit 3) [] (nat_lit 0)), (V.tail (nat_lit 60) [] (nat_lit 0))]), (Ob.cells [(V.d (D.int IntKind.i64 k)), (V.d (D.int IntKind.i64 (0 : Int))), (V.d (D.int IntKind.i64 (0 : Int))), (V.tail (nat_lit 48) [] (nat_lit 0)), (V.tail (nat_lit 3) [] (nat_lit 0)), (V.tail (nat_lit 60) [] (nat_lit 0))])]) (nat_lit 0) (by (first | assumption | (((try simp only [SA] at *); (try simp (disch := omega) only [SB, reduceCtorEq] at *)) <;> first | omega | assumption | (refine ⟨?_, ?_⟩ <;> assumption) | (refine ⟨?_, ?_, ?_⟩ <;> assumption) | (intros; assumption) | (right; right; assumption) | (right; left; assumption) | (left; assumption))))) (cP (@iaddrInt (ns) ((0 : Int)) (by (first | assumption | (((try simp only [SA] at *); (try simp (disch := omega) only [SB, reduceCtorEq] at *)) <;> first | omega | assumption | (refine ⟨?_, ?_⟩ <;> assumption) | (refine ⟨?_, ?_, ?_⟩ <;> assumption) | (intros; assumption) | (right; right; assumption) | (right; left; assumption) | (left; assumption)))) (by (first | assumption | (((try simp only [SA] at *); (try simp (disch := omega) only [SB, reduceCtorEq] at *)) <;> first | omega | assumption | (refine ⟨?_, ?_⟩ <;> assumption) | (refine ⟨?_, ?_, ?_⟩ <;> assumption) | (intros; assumption) | (right; right; assumption) | (right; left; assumption) | (left; assumption))))) (cP hx1 (cP hx0 (cP hx0 (cP hx0 (cP hx0 (cP hx0 (cC (@nmY (l) (ns) (by (first | assumption | (((try simp only [SA] at *); (try simp (disch := omega) only [SB, reduceCtorEq] at *)) <;> first | omega | assumption | (refine ⟨?_, ?_⟩ <;> assumption) | (refine ⟨?_, ?_, ?_⟩ <;> assumption) | (intros; assumption) | (right; right; assumption) | (right; left; assumption) | (left; assumption)))) hs (by (first | assumption | (((try simp only [SA] at *); (try simp (disch := omega) only [SB, reduceCtorEq] at *)) <;> first | omega | assumption | (refine ⟨?_, ?_⟩ <;> assumption) | (refine ⟨?_, ?_, ?_⟩ <;> assumption) | (intros; assumption) | (right; right; assumption) | (right; left; assumption) | (left; assumption)))) ho en) nilE))))))))) (by kernel_rfl) rfl rfl
set_option maxHeartbeats 4000000 in
theorem rz1A : rz1A_T := by
  intro k l ns hl2 hs hp hl ho en
  have hx0 : ((↑(List.length l) : Int) != (1 : Int)) = true := by (first | assumption | (((try simp only [SA] at *); (try simp (disch := omega) only [SB, reduceCtorEq] at *)) <;> first | omega | assumption | (refine ⟨?_, ?_⟩ <;> assumption) | (refine ⟨?_, ?_, ?_⟩ <;> assumption) | (intros; assumption) | (right; right; assumption) | (right; left; assumption) | (left; assumption)))
  exact pV 12 [(0, .v (V.d (Ty.slD i64 ns))), (3, bt), (4, bt), (5, bt), (6, bt), (7, bt)] (cP hx0 (cP hx0 (cP hx0 (cP hx0 (cP hx0 (cC (@nmY (l) (ns) hl2 hs hp ho en) nilE)))))) (by kernel_rfl) rfl rfl
set_option maxHeartbeats 4000000 in
theorem rz1B : rz1B_T := by
  intro k l hl2 hs ho
  rcases Bool.eq_false_or_eq_true ((↑(List.length l) : Int) != (1 : Int)) with hx0 | hx0
  · exact pV 12 [(0, .v (Ty.tailV i64 (3 : TypeId) [])), (3, bt), (4, bt), (5, bt), (6, bt), (7, bt)] (cP hx0 (cP hx0 (cP hx0 (cP hx0 (cP hx0 (cC (@nmN (l) hl2 hs ho) nilE)))))) (by kernel_rfl) rfl rfl
  · exact pV 12 [(0, .v (Ty.tailV i64 (3 : TypeId) [])), (3, bf), (4, bf), (6, bf), (7, bf), (9, bf)] (cP hx0 (cP hx0 (cP hx0 (cP hx0 (cP hx0 (cC (@nmN (l) hl2 hs ho) nilE)))))) (by kernel_rfl) rfl rfl
set_option maxHeartbeats 4000000 in
theorem rz1C : rz1C_T := by
  intro k l hl
  have hx0 : ((↑(List.length l) : Int) != (1 : Int)) = true := by (first | assumption | (((try simp only [SA] at *); (try simp (disch := omega) only [SB, reduceCtorEq] at *)) <;> first | omega | assumption | (refine ⟨?_, ?_⟩ <;> assumption) | (refine ⟨?_, ?_, ?_⟩ <;> assumption) | (intros; assumption) | (right; right; assumption) | (right; left; assumption) | (left; assumption)))
  exact pV 12 [(0, .v (V.full [] (0 : Nat))), (3, bt), (4, bt), (5, bt), (6, bt), (7, bt)] (cP hx0 (cP hx0 (cP hx0 (cP hx0 (cP hx0 (cC (@nmE (l) hl) nilE)))))) (by kernel_rfl) rfl rfl
set_option maxHeartbeats 4000000 in
theorem rz0Y : rz0Y_T := by
  intro k l hl
  have hx0 : ((↑(List.length l) : Int) != (0 : Int)) = false := by (first | assumption | (((try simp only [SA] at *); (try simp (disch := omega) only [SB, reduceCtorEq] at *)) <;> first | omega | assumption | (refine ⟨?_, ?_⟩ <;> assumption) | (refine ⟨?_, ?_, ?_⟩ <;> assumption) | (intros; assumption) | (right; right; assumption) | (right; left; assumption) | (left; assumption)))
  exact pV 12 [(0, .v (V.full [] (0 : Nat))), (3, bf), (4, bf), (6, bf), (7, bf), (9, bf)] (cP hx0 (cP hx0 (cP hx0 (cP hx0 (cP hx0 (cC (@nmE (l) hl) nilE)))))) (by kernel_rfl) rfl rfl
set_option maxHeartbeats 4000000 in
theorem rz0A : rz0A_T := by
  intro k l ns hl2 hs hp ho en
  have hx0 : ((↑(List.length l) : Int) != (0 : Int)) = true := by (first | assumption | (((try simp only [SA] at *); (try simp (disch := omega) only [SB, reduceCtorEq] at *)) <;> first | omega | assumption | (refine ⟨?_, ?_⟩ <;> assumption) | (refine ⟨?_, ?_, ?_⟩ <;> assumption) | (intros; assumption) | (right; right; assumption) | (right; left; assumption) | (left; assumption)))
  exact pV 12 [(0, .v (V.d (Ty.slD i64 ns))), (3, bt), (4, bt), (5, bt), (6, bt), (7, bt)] (cP hx0 (cP hx0 (cP hx0 (cP hx0 (cP hx0 (cC (@nmY (l) (ns) hl2 hs hp ho en) nilE)))))) (by kernel_rfl) rfl rfl
set_option maxHeartbeats 4000000 in
theorem rz0B : rz0B_T := by
  intro k l hl2 hs hp ho
  have hx0 : ((↑(List.length l) : Int) != (0 : Int)) = true := by (first | assumption | (((try simp only [SA] at *); (try simp (disch := omega) only [SB, reduceCtorEq] at *)) <;> first | omega | assumption | (refine ⟨?_, ?_⟩ <;> assumption) | (refine ⟨?_, ?_, ?_⟩ <;> assumption) | (intros; assumption) | (right; right; assumption) | (right; left; assumption) | (left; assumption)))
  exact pV 12 [(0, .v (Ty.tailV i64 (3 : TypeId) [])), (3, bt), (4, bt), (5, bt), (6, bt), (7, bt)] (cP hx0 (cP hx0 (cP hx0 (cP hx0 (cP hx0 (cC (@nmN (l) hl2 hs ho) nilE)))))) (by kernel_rfl) rfl rfl
end Go.Proofs.YtgiahagbmgnmkaaDoor.Script
/- Script: the reference's edits, inlays, sized as one; statements of the reference's Parse. -/
set_option linter.unusedVariables false
set_option linter.unusedSimpArgs false
namespace Go.Proofs.YtgiahagbmgnmkaaDoor.Script
open Go Pv G
theorem pairE {α β : Type} (p : α × β) (b : β) (h : p.2 = b) : p = (p.1, b) := by rw [← h]
def refEd_T : Prop := ∀ (l : List Str) (k a b : Int) (es : List Edit) (rs : List Int) (ns : List Inl) (ok : Bool) (hl : l.length ≤ 1000000) (hs : Sm l) (e : rfEdits l = ((k, a, b, es, rs, ns), ok)), Ans X0 FRe [.d (strsD l)] (.d (.tup [opR k a b es rs ns, .bool ok]))
theorem refEd : refEd_T := fun l k a b es rs ns ok hl hs e => by
  unfold rfEdits at e
  injection e with e1 e2
  injection e1 with k1 e1
  injection e1 with k2 e1
  injection e1 with k3 e1
  injection e1 with k4 e1
  injection e1 with k5 k6
  subst k1; subst k2; subst k3; subst k5; subst k6
  have e : rfEd (l.length + 1) l [] = (es, ok) := by rw [← k4, ← e2]
  cases ok with
  | true => exact reY l es hl hs e
  | false => exact reN l es _ hl hs e rfl
def refIn_T : Prop := ∀ (l : List Str) (k a b : Int) (es : List Edit) (rs : List Int) (ns : List Inl) (ok : Bool) (hl : l.length ≤ 1000000) (hs : Sm l) (e : rfInlays l = ((k, a, b, es, rs, ns), ok)), Ans X0 FRi [.d (strsD l)] (.d (.tup [opR k a b es rs ns, .bool ok]))
theorem refIn : refIn_T := fun l k a b es rs ns ok hl hs e => by
  unfold rfInlays at e
  have hsm := rfRm_sm (l.length + 1) l [] hs
  by_cases hr : (rfRs l).2.2 = true
  · rw [if_pos hr] at e
    have e0 : rfRs l = ((rfRs l).1, (rfRs l).2.1, true) := by rw [← hr]
    injection e with e1 e2
    injection e1 with k1 e1
    injection e1 with k2 e1
    injection e1 with k3 e1
    injection e1 with k4 e1
    injection e1 with k5 k6
    subst k1; subst k2; subst k3; subst k4; subst k5; subst k6
    have e3 : rfAs (rfRs l).1 = ((rfAs (rfRs l).1).1, ok) := by rw [← e2]
    have hl2 : (rfRs l).1.length ≤ 1000000 := Nat.le_trans hsm.2 hl
    cases ok with
    | true => exact riY l _ _ _ hl hs e0 hl2 hsm.1 e3
    | false => exact riN2 l _ _ _ _ hl hs e0 hl2 hsm.1 e3 rfl
  · have hr' := bF hr
    rw [if_neg hr] at e
    have e0 : rfRs l = ((rfRs l).1, (rfRs l).2.1, false) := by rw [← hr']
    injection e with e1 e2
    injection e1 with k1 e1
    injection e1 with k2 e1
    injection e1 with k3 e1
    injection e1 with k4 e1
    injection e1 with k5 k6
    subst k1; subst k2; subst k3; subst k4; subst k5; subst k6; subst e2
    exact riN1 l _ _ hl hs e0
theorem szNo {k : Int} {c : Nat} {l : List Str} {o : Opn} {ok : Bool} (h : ¬ (l.length = c ∧ (numsL l).length = c)) (e : rfSized k c l = (o, ok)) : o = op0 ∧ ok = false := by
  unfold rfSized at e
  rw [if_neg h] at e
  injection e with e1 e2
  exact ⟨e1.symm, e2.symm⟩
theorem szYes {k : Int} {c : Nat} {l : List Str} {o : Opn} {ok : Bool} (h : l.length = c ∧ (numsL l).length = c) (e : rfSized k c l = (o, ok)) : o = (k, (if 0 < c then intAt (numsL l) 0 else 0), (if 1 < c then intAt (numsL l) 1 else 0), [], [], []) ∧ ok = true := by
  unfold rfSized at e
  rw [if_pos h] at e
  injection e with e1 e2
  exact ⟨e1.symm, e2.symm⟩

def refSz2_T : Prop := ∀ (k0 : Int) (l : List Str) (k a b : Int) (es : List Edit) (rs : List Int) (ns : List Inl) (ok : Bool) (hl : l.length ≤ 1000000) (hs : Sm l) (e : rfSized k0 2 l = ((k, a, b, es, rs, ns), ok)), Ans X0 FSz [.d (.int .i64 k0), .d (.int .i64 2), .d (strsD l)] (.d (.tup [opR k a b es rs ns, .bool ok]))
theorem refSz2 : refSz2_T := fun k0 l k a b es rs ns ok hl hs e => by
  by_cases h0 : 0 < l.length
  · cases ho : okAll l with
    | false =>
      have hn := numsL_noAll ho
      obtain ⟨e1, e2⟩ := szNo (fun hh => by rw [hn] at hh; simp at hh) e
      cases e1; subst e2
      exact rz2B k0 l hl hs ho
    | true =>
      have hn := numsL_okAll ho
      by_cases hc : l.length = 2
      · obtain ⟨e1, e2⟩ := szYes ⟨hc, by rw [hn, List.length_map]; exact hc⟩ e
        rw [hn] at e1
        cases e1; subst e2
        exact rz2Y k0 l _ hs hc ho rfl (by rw [List.length_map]; exact hc)
      · obtain ⟨e1, e2⟩ := szNo (fun hh => hc hh.1) e
        cases e1; subst e2
        exact rz2A k0 l _ hl hs h0 hc ho rfl
  · obtain ⟨e1, e2⟩ := szNo (fun hh => by omega) e
    cases e1; subst e2
    exact rz2C k0 l (by omega)
def refSz1_T : Prop := ∀ (k0 : Int) (l : List Str) (k a b : Int) (es : List Edit) (rs : List Int) (ns : List Inl) (ok : Bool) (hl : l.length ≤ 1000000) (hs : Sm l) (e : rfSized k0 1 l = ((k, a, b, es, rs, ns), ok)), Ans X0 FSz [.d (.int .i64 k0), .d (.int .i64 1), .d (strsD l)] (.d (.tup [opR k a b es rs ns, .bool ok]))
theorem refSz1 : refSz1_T := fun k0 l k a b es rs ns ok hl hs e => by
  by_cases h0 : 0 < l.length
  · cases ho : okAll l with
    | false =>
      have hn := numsL_noAll ho
      obtain ⟨e1, e2⟩ := szNo (fun hh => by rw [hn] at hh; simp at hh) e
      cases e1; subst e2
      exact rz1B k0 l hl hs ho
    | true =>
      have hn := numsL_okAll ho
      by_cases hc : l.length = 1
      · obtain ⟨e1, e2⟩ := szYes ⟨hc, by rw [hn, List.length_map]; exact hc⟩ e
        rw [hn] at e1
        cases e1; subst e2
        exact rz1Y k0 l _ hs hc ho rfl (by rw [List.length_map]; exact hc)
      · obtain ⟨e1, e2⟩ := szNo (fun hh => hc hh.1) e
        cases e1; subst e2
        exact rz1A k0 l _ hl hs h0 hc ho rfl
  · obtain ⟨e1, e2⟩ := szNo (fun hh => by omega) e
    cases e1; subst e2
    exact rz1C k0 l (by omega)
def refSz0_T : Prop := ∀ (k0 : Int) (l : List Str) (k a b : Int) (es : List Edit) (rs : List Int) (ns : List Inl) (ok : Bool) (hl : l.length ≤ 1000000) (hs : Sm l) (e : rfSized k0 0 l = ((k, a, b, es, rs, ns), ok)), Ans X0 FSz [.d (.int .i64 k0), .d (.int .i64 0), .d (strsD l)] (.d (.tup [opR k a b es rs ns, .bool ok]))
theorem refSz0 : refSz0_T := fun k0 l k a b es rs ns ok hl hs e => by
  by_cases h0 : 0 < l.length
  · obtain ⟨e1, e2⟩ := szNo (fun hh => by omega) e
    cases e1; subst e2
    cases ho : okAll l with
    | false => exact rz0B k0 l hl hs h0 ho
    | true => exact rz0A k0 l _ hl hs h0 ho rfl
  · have hl0 : l = [] := List.eq_nil_of_length_eq_zero (by omega)
    subst hl0
    obtain ⟨e1, e2⟩ := szYes ⟨rfl, rfl⟩ e
    cases e1; subst e2
    exact rz0Y k0 [] rfl
def iaddrStr0_T : Prop := ∀ (l : List Str) (h0 : 0 < l.length), iaddrV X0 41 (.d (strsD l)) (.d (.int .i64 0)) = some (.d (.ref (l.map D.str) 0))
theorem iaddrStr0 : iaddrStr0_T := fun l h0 => iaddrStr l 0 (by omega) (by omega)
def loadStr0E_T : Prop := ∀ (l : List Str) (h : List Ob) (v : Str) (hk : 0 < l.length) (e : strAt l 0 = v), loadV X0 h 9 (.d (.ref (l.map D.str) 0)) = some (.d (.str v))
theorem loadStr0E : loadStr0E_T := fun l h v hk e => by subst e; exact loadStrK l h 0 hk
def rpNl_T : Prop := ∀ (s : Str) (hl : s.length ≤ 1000000) (hn : hasC 10 s = true), Ans X0 FPr [.d (.str s)] (.d zR)
def rpEdit_T : Prop := ∀ (s : Str) (l m : List Str) (k a b : Int) (es : List Edit) (rs : List Int) (ns : List Inl) (ok : Bool) (hl : s.length ≤ 1000000) (hn : hasC 10 s = false) (ew : pieces 32 s = l) (hp : 0 < l.length) (hl1 : 1 ≤ l.length) (q : strAt l 0 = [101, 100, 105, 116]) (em : l.drop 1 = m) (hlm : m.length ≤ 1000000) (hs : Sm m) (e : rfEdits m = ((k, a, b, es, rs, ns), ok)), Ans X0 FPr [.d (.str s)] (.d (.tup [opR k a b es rs ns, .bool ok]))
def rpFold_T : Prop := ∀ (s : Str) (l m : List Str) (k a b : Int) (es : List Edit) (rs : List Int) (ns : List Inl) (ok : Bool) (hl : s.length ≤ 1000000) (hn : hasC 10 s = false) (ew : pieces 32 s = l) (hp : 0 < l.length) (hl1 : 1 ≤ l.length) (q : strAt l 0 = [102, 111, 108, 100]) (em : l.drop 1 = m) (hlm : m.length ≤ 1000000) (hs : Sm m) (e : rfSized 2 2 m = ((k, a, b, es, rs, ns), ok)), Ans X0 FPr [.d (.str s)] (.d (.tup [opR k a b es rs ns, .bool ok]))
def rpUnfold_T : Prop := ∀ (s : Str) (l m : List Str) (k a b : Int) (es : List Edit) (rs : List Int) (ns : List Inl) (ok : Bool) (hl : s.length ≤ 1000000) (hn : hasC 10 s = false) (ew : pieces 32 s = l) (hp : 0 < l.length) (hl1 : 1 ≤ l.length) (q : strAt l 0 = [117, 110, 102, 111, 108, 100]) (em : l.drop 1 = m) (hlm : m.length ≤ 1000000) (hs : Sm m) (e : rfSized 3 2 m = ((k, a, b, es, rs, ns), ok)), Ans X0 FPr [.d (.str s)] (.d (.tup [opR k a b es rs ns, .bool ok]))
def rpInlay_T : Prop := ∀ (s : Str) (l m : List Str) (k a b : Int) (es : List Edit) (rs : List Int) (ns : List Inl) (ok : Bool) (hl : s.length ≤ 1000000) (hn : hasC 10 s = false) (ew : pieces 32 s = l) (hp : 0 < l.length) (hl1 : 1 ≤ l.length) (q : strAt l 0 = [105, 110, 108, 97, 121]) (em : l.drop 1 = m) (hlm : m.length ≤ 1000000) (hs : Sm m) (e : rfInlays m = ((k, a, b, es, rs, ns), ok)), Ans X0 FPr [.d (.str s)] (.d (.tup [opR k a b es rs ns, .bool ok]))
def rpWidth_T : Prop := ∀ (s : Str) (l m : List Str) (k a b : Int) (es : List Edit) (rs : List Int) (ns : List Inl) (ok : Bool) (hl : s.length ≤ 1000000) (hn : hasC 10 s = false) (ew : pieces 32 s = l) (hp : 0 < l.length) (hl1 : 1 ≤ l.length) (q : strAt l 0 = [119, 105, 100, 116, 104]) (em : l.drop 1 = m) (hlm : m.length ≤ 1000000) (hs : Sm m) (e : rfSized 5 1 m = ((k, a, b, es, rs, ns), ok)), Ans X0 FPr [.d (.str s)] (.d (.tup [opR k a b es rs ns, .bool ok]))
def rpTab_T : Prop := ∀ (s : Str) (l m : List Str) (k a b : Int) (es : List Edit) (rs : List Int) (ns : List Inl) (ok : Bool) (hl : s.length ≤ 1000000) (hn : hasC 10 s = false) (ew : pieces 32 s = l) (hp : 0 < l.length) (hl1 : 1 ≤ l.length) (q : strAt l 0 = [116, 97, 98]) (em : l.drop 1 = m) (hlm : m.length ≤ 1000000) (hs : Sm m) (e : rfSized 6 1 m = ((k, a, b, es, rs, ns), ok)), Ans X0 FPr [.d (.str s)] (.d (.tup [opR k a b es rs ns, .bool ok]))
def rpUndo_T : Prop := ∀ (s : Str) (l m : List Str) (k a b : Int) (es : List Edit) (rs : List Int) (ns : List Inl) (ok : Bool) (hl : s.length ≤ 1000000) (hn : hasC 10 s = false) (ew : pieces 32 s = l) (hp : 0 < l.length) (hl1 : 1 ≤ l.length) (q : strAt l 0 = [117, 110, 100, 111]) (em : l.drop 1 = m) (hlm : m.length ≤ 1000000) (hs : Sm m) (e : rfSized 7 0 m = ((k, a, b, es, rs, ns), ok)), Ans X0 FPr [.d (.str s)] (.d (.tup [opR k a b es rs ns, .bool ok]))
def rpRedo_T : Prop := ∀ (s : Str) (l m : List Str) (k a b : Int) (es : List Edit) (rs : List Int) (ns : List Inl) (ok : Bool) (hl : s.length ≤ 1000000) (hn : hasC 10 s = false) (ew : pieces 32 s = l) (hp : 0 < l.length) (hl1 : 1 ≤ l.length) (q : strAt l 0 = [114, 101, 100, 111]) (em : l.drop 1 = m) (hlm : m.length ≤ 1000000) (hs : Sm m) (e : rfSized 8 0 m = ((k, a, b, es, rs, ns), ok)), Ans X0 FPr [.d (.str s)] (.d (.tup [opR k a b es rs ns, .bool ok]))
def rpNo_T : Prop := ∀ (s v : Str) (l : List Str) (hl : s.length ≤ 1000000) (hn : hasC 10 s = false) (ew : pieces 32 s = l) (hp : 0 < l.length) (q : strAt l 0 = v) (q0 : (v == [101, 100, 105, 116]) = false) (q1 : (v == [102, 111, 108, 100]) = false) (q2 : (v == [117, 110, 102, 111, 108, 100]) = false) (q3 : (v == [105, 110, 108, 97, 121]) = false) (q4 : (v == [119, 105, 100, 116, 104]) = false) (q5 : (v == [116, 97, 98]) = false) (q6 : (v == [117, 110, 100, 111]) = false) (q7 : (v == [114, 101, 100, 111]) = false), Ans X0 FPr [.d (.str s)] (.d zR)
end Go.Proofs.YtgiahagbmgnmkaaDoor.Script
/- Script: paths, printed by a program of mine. -/
set_option maxRecDepth 100000
set_option linter.unusedSimpArgs false
set_option linter.unusedVariables false
namespace Go.Proofs.YtgiahagbmgnmkaaDoor.Script
open Go Pv G
set_option maxHeartbeats 4000000 in
theorem rpNl : rpNl_T := by
  intro s hl hn
  exact pV 12 [(0, .l (Ex.ret) (stPr))] (cE (@nlYesL (s) hl hn) nilE) (by kernel_rfl) rfl rfl
set_option maxHeartbeats 4000000 in
theorem rpEdit : rpEdit_T := by
  intro s l m k a b es rs ns ok hl hn ew hp hl1 q em hlm hs e
  exact pV 12 [(0, .l (Ex.exit (0 : Nat)) (stPx s (List.length s))), (1, .v (V.d (strsD l))), (2, .v (V.d (D.ref (List.map D.str l) (0 : Nat)))), (3, .v (V.d (D.str [(101 : UInt8), (100 : UInt8), (105 : UInt8), (116 : UInt8)]))), (4, .v (V.d (D.bool ([(101 : UInt8), (100 : UInt8), (105 : UInt8), (116 : UInt8)] == [(101 : UInt8), (100 : UInt8), (105 : UInt8), (116 : UInt8)])))), (6, .v (V.d (strsD m))), (7, .v (V.d (D.tup [(opR k a b es rs ns), (D.bool ok)])))] (cC (@refEd (m) (k) (a) (b) (es) (rs) (ns) (ok) hlm hs e) (cP (@sliceFr1 (l) (m) hl1 em) (cP (@strEq ([(101 : UInt8), (100 : UInt8), (105 : UInt8), (116 : UInt8)]) ([(101 : UInt8), (100 : UInt8), (105 : UInt8), (116 : UInt8)])) (cP (@loadStr0E (l) ([(Ob.cells [(V.d (D.int IntKind.i64 (0 : Int))), (V.d (D.int IntKind.i64 (0 : Int))), (V.d (D.int IntKind.i64 (0 : Int))), (V.tail (nat_lit 48) [] (nat_lit 0)), (V.tail (nat_lit 3) [] (nat_lit 0)), (V.tail (nat_lit 60) [] (nat_lit 0))])]) ([(101 : UInt8), (100 : UInt8), (105 : UInt8), (116 : UInt8)]) hp q) (cP (@iaddrStr0 (l) hp) (cC (@wordsE (s) (l) hl ew) (cE (@nlNoL (s) hl hn) nilE))))))) (by kernel_rfl) rfl rfl
set_option maxHeartbeats 4000000 in
theorem rpFold : rpFold_T := by
  intro s l m k a b es rs ns ok hl hn ew hp hl1 q em hlm hs e
  exact pV 12 [(0, .l (Ex.exit (0 : Nat)) (stPx s (List.length s))), (1, .v (V.d (strsD l))), (2, .v (V.d (D.ref (List.map D.str l) (0 : Nat)))), (3, .v (V.d (D.str [(102 : UInt8), (111 : UInt8), (108 : UInt8), (100 : UInt8)]))), (4, .v (V.d (D.bool ([(102 : UInt8), (111 : UInt8), (108 : UInt8), (100 : UInt8)] == [(101 : UInt8), (100 : UInt8), (105 : UInt8), (116 : UInt8)])))), (6, .v (V.d (D.bool ([(102 : UInt8), (111 : UInt8), (108 : UInt8), (100 : UInt8)] == [(102 : UInt8), (111 : UInt8), (108 : UInt8), (100 : UInt8)])))), (8, .v (V.d (strsD m))), (9, .v (V.d (D.tup [(opR k a b es rs ns), (D.bool ok)])))] (cC (@refSz2 ((2 : Int)) (m) (k) (a) (b) (es) (rs) (ns) (ok) hlm hs e) (cP (@sliceFr1 (l) (m) hl1 em) (cP (@strEq ([(102 : UInt8), (111 : UInt8), (108 : UInt8), (100 : UInt8)]) ([(102 : UInt8), (111 : UInt8), (108 : UInt8), (100 : UInt8)])) (cP (@strEq ([(102 : UInt8), (111 : UInt8), (108 : UInt8), (100 : UInt8)]) ([(101 : UInt8), (100 : UInt8), (105 : UInt8), (116 : UInt8)])) (cP (@loadStr0E (l) ([(Ob.cells [(V.d (D.int IntKind.i64 (0 : Int))), (V.d (D.int IntKind.i64 (0 : Int))), (V.d (D.int IntKind.i64 (0 : Int))), (V.tail (nat_lit 48) [] (nat_lit 0)), (V.tail (nat_lit 3) [] (nat_lit 0)), (V.tail (nat_lit 60) [] (nat_lit 0))])]) ([(102 : UInt8), (111 : UInt8), (108 : UInt8), (100 : UInt8)]) hp q) (cP (@iaddrStr0 (l) hp) (cC (@wordsE (s) (l) hl ew) (cE (@nlNoL (s) hl hn) nilE)))))))) (by kernel_rfl) rfl rfl
set_option maxHeartbeats 4000000 in
theorem rpUnfold : rpUnfold_T := by
  intro s l m k a b es rs ns ok hl hn ew hp hl1 q em hlm hs e
  exact pV 12 [(0, .l (Ex.exit (0 : Nat)) (stPx s (List.length s))), (1, .v (V.d (strsD l))), (2, .v (V.d (D.ref (List.map D.str l) (0 : Nat)))), (3, .v (V.d (D.str [(117 : UInt8), (110 : UInt8), (102 : UInt8), (111 : UInt8), (108 : UInt8), (100 : UInt8)]))), (4, .v (V.d (D.bool ([(117 : UInt8), (110 : UInt8), (102 : UInt8), (111 : UInt8), (108 : UInt8), (100 : UInt8)] == [(101 : UInt8), (100 : UInt8), (105 : UInt8), (116 : UInt8)])))), (6, .v (V.d (D.bool ([(117 : UInt8), (110 : UInt8), (102 : UInt8), (111 : UInt8), (108 : UInt8), (100 : UInt8)] == [(102 : UInt8), (111 : UInt8), (108 : UInt8), (100 : UInt8)])))), (8, .v (V.d (D.bool ([(117 : UInt8), (110 : UInt8), (102 : UInt8), (111 : UInt8), (108 : UInt8), (100 : UInt8)] == [(117 : UInt8), (110 : UInt8), (102 : UInt8), (111 : UInt8), (108 : UInt8), (100 : UInt8)])))), (10, .v (V.d (strsD m))), (11, .v (V.d (D.tup [(opR k a b es rs ns), (D.bool ok)])))] (cC (@refSz2 ((3 : Int)) (m) (k) (a) (b) (es) (rs) (ns) (ok) hlm hs e) (cP (@sliceFr1 (l) (m) hl1 em) (cP (@strEq ([(117 : UInt8), (110 : UInt8), (102 : UInt8), (111 : UInt8), (108 : UInt8), (100 : UInt8)]) ([(117 : UInt8), (110 : UInt8), (102 : UInt8), (111 : UInt8), (108 : UInt8), (100 : UInt8)])) (cP (@strEq ([(117 : UInt8), (110 : UInt8), (102 : UInt8), (111 : UInt8), (108 : UInt8), (100 : UInt8)]) ([(102 : UInt8), (111 : UInt8), (108 : UInt8), (100 : UInt8)])) (cP (@strEq ([(117 : UInt8), (110 : UInt8), (102 : UInt8), (111 : UInt8), (108 : UInt8), (100 : UInt8)]) ([(101 : UInt8), (100 : UInt8), (105 : UInt8), (116 : UInt8)])) (cP (@loadStr0E (l) ([(Ob.cells [(V.d (D.int IntKind.i64 (0 : Int))), (V.d (D.int IntKind.i64 (0 : Int))), (V.d (D.int IntKind.i64 (0 : Int))), (V.tail (nat_lit 48) [] (nat_lit 0)), (V.tail (nat_lit 3) [] (nat_lit 0)), (V.tail (nat_lit 60) [] (nat_lit 0))])]) ([(117 : UInt8), (110 : UInt8), (102 : UInt8), (111 : UInt8), (108 : UInt8), (100 : UInt8)]) hp q) (cP (@iaddrStr0 (l) hp) (cC (@wordsE (s) (l) hl ew) (cE (@nlNoL (s) hl hn) nilE))))))))) (by kernel_rfl) rfl rfl
set_option maxHeartbeats 4000000 in
theorem rpInlay : rpInlay_T := by
  intro s l m k a b es rs ns ok hl hn ew hp hl1 q em hlm hs e
  exact pV 12 [(0, .l (Ex.exit (0 : Nat)) (stPx s (List.length s))), (1, .v (V.d (strsD l))), (2, .v (V.d (D.ref (List.map D.str l) (0 : Nat)))), (3, .v (V.d (D.str [(105 : UInt8), (110 : UInt8), (108 : UInt8), (97 : UInt8), (121 : UInt8)]))), (4, .v (V.d (D.bool ([(105 : UInt8), (110 : UInt8), (108 : UInt8), (97 : UInt8), (121 : UInt8)] == [(101 : UInt8), (100 : UInt8), (105 : UInt8), (116 : UInt8)])))), (6, .v (V.d (D.bool ([(105 : UInt8), (110 : UInt8), (108 : UInt8), (97 : UInt8), (121 : UInt8)] == [(102 : UInt8), (111 : UInt8), (108 : UInt8), (100 : UInt8)])))), (8, .v (V.d (D.bool ([(105 : UInt8), (110 : UInt8), (108 : UInt8), (97 : UInt8), (121 : UInt8)] == [(117 : UInt8), (110 : UInt8), (102 : UInt8), (111 : UInt8), (108 : UInt8), (100 : UInt8)])))), (10, .v (V.d (D.bool ([(105 : UInt8), (110 : UInt8), (108 : UInt8), (97 : UInt8), (121 : UInt8)] == [(105 : UInt8), (110 : UInt8), (108 : UInt8), (97 : UInt8), (121 : UInt8)])))), (12, .v (V.d (strsD m))), (13, .v (V.d (D.tup [(opR k a b es rs ns), (D.bool ok)])))] (cC (@refIn (m) (k) (a) (b) (es) (rs) (ns) (ok) hlm hs e) (cP (@sliceFr1 (l) (m) hl1 em) (cP (@strEq ([(105 : UInt8), (110 : UInt8), (108 : UInt8), (97 : UInt8), (121 : UInt8)]) ([(105 : UInt8), (110 : UInt8), (108 : UInt8), (97 : UInt8), (121 : UInt8)])) (cP (@strEq ([(105 : UInt8), (110 : UInt8), (108 : UInt8), (97 : UInt8), (121 : UInt8)]) ([(117 : UInt8), (110 : UInt8), (102 : UInt8), (111 : UInt8), (108 : UInt8), (100 : UInt8)])) (cP (@strEq ([(105 : UInt8), (110 : UInt8), (108 : UInt8), (97 : UInt8), (121 : UInt8)]) ([(102 : UInt8), (111 : UInt8), (108 : UInt8), (100 : UInt8)])) (cP (@strEq ([(105 : UInt8), (110 : UInt8), (108 : UInt8), (97 : UInt8), (121 : UInt8)]) ([(101 : UInt8), (100 : UInt8), (105 : UInt8), (116 : UInt8)])) (cP (@loadStr0E (l) ([(Ob.cells [(V.d (D.int IntKind.i64 (0 : Int))), (V.d (D.int IntKind.i64 (0 : Int))), (V.d (D.int IntKind.i64 (0 : Int))), (V.tail (nat_lit 48) [] (nat_lit 0)), (V.tail (nat_lit 3) [] (nat_lit 0)), (V.tail (nat_lit 60) [] (nat_lit 0))])]) ([(105 : UInt8), (110 : UInt8), (108 : UInt8), (97 : UInt8), (121 : UInt8)]) hp q) (cP (@iaddrStr0 (l) hp) (cC (@wordsE (s) (l) hl ew) (cE (@nlNoL (s) hl hn) nilE)))))))))) (by kernel_rfl) rfl rfl
set_option maxHeartbeats 4000000 in
theorem rpWidth : rpWidth_T := by
  intro s l m k a b es rs ns ok hl hn ew hp hl1 q em hlm hs e
  exact pV 12 [(0, .l (Ex.exit (0 : Nat)) (stPx s (List.length s))), (1, .v (V.d (strsD l))), (2, .v (V.d (D.ref (List.map D.str l) (0 : Nat)))), (3, .v (V.d (D.str [(119 : UInt8), (105 : UInt8), (100 : UInt8), (116 : UInt8), (104 : UInt8)]))), (4, .v (V.d (D.bool ([(119 : UInt8), (105 : UInt8), (100 : UInt8), (116 : UInt8), (104 : UInt8)] == [(101 : UInt8), (100 : UInt8), (105 : UInt8), (116 : UInt8)])))), (6, .v (V.d (D.bool ([(119 : UInt8), (105 : UInt8), (100 : UInt8), (116 : UInt8), (104 : UInt8)] == [(102 : UInt8), (111 : UInt8), (108 : UInt8), (100 : UInt8)])))), (8, .v (V.d (D.bool ([(119 : UInt8), (105 : UInt8), (100 : UInt8), (116 : UInt8), (104 : UInt8)] == [(117 : UInt8), (110 : UInt8), (102 : UInt8), (111 : UInt8), (108 : UInt8), (100 : UInt8)])))), (10, .v (V.d (D.bool ([(119 : UInt8), (105 : UInt8), (100 : UInt8), (116 : UInt8), (104 : UInt8)] == [(105 : UInt8), (110 : UInt8), (108 : UInt8), (97 : UInt8), (121 : UInt8)])))), (12, .v (V.d (D.bool ([(119 : UInt8), (105 : UInt8), (100 : UInt8), (116 : UInt8), (104 : UInt8)] == [(119 : UInt8), (105 : UInt8), (100 : UInt8), (116 : UInt8), (104 : UInt8)])))), (14, .v (V.d (strsD m))), (15, .v (V.d (D.tup [(opR k a b es rs ns), (D.bool ok)])))] (cC (@refSz1 ((5 : Int)) (m) (k) (a) (b) (es) (rs) (ns) (ok) hlm hs e) (cP (@sliceFr1 (l) (m) hl1 em) (cP (@strEq ([(119 : UInt8), (105 : UInt8), (100 : UInt8), (116 : UInt8), (104 : UInt8)]) ([(119 : UInt8), (105 : UInt8), (100 : UInt8), (116 : UInt8), (104 : UInt8)])) (cP (@strEq ([(119 : UInt8), (105 : UInt8), (100 : UInt8), (116 : UInt8), (104 : UInt8)]) ([(105 : UInt8), (110 : UInt8), (108 : UInt8), (97 : UInt8), (121 : UInt8)])) (cP (@strEq ([(119 : UInt8), (105 : UInt8), (100 : UInt8), (116 : UInt8), (104 : UInt8)]) ([(117 : UInt8), (110 : UInt8), (102 : UInt8), (111 : UInt8), (108 : UInt8), (100 : UInt8)])) (cP (@strEq ([(119 : UInt8), (105 : UInt8), (100 : UInt8), (116 : UInt8), (104 : UInt8)]) ([(102 : UInt8), (111 : UInt8), (108 : UInt8), (100 : UInt8)])) (cP (@strEq ([(119 : UInt8), (105 : UInt8), (100 : UInt8), (116 : UInt8), (104 : UInt8)]) ([(101 : UInt8), (100 : UInt8), (105 : UInt8), (116 : UInt8)])) (cP (@loadStr0E (l) ([(Ob.cells [(V.d (D.int IntKind.i64 (0 : Int))), (V.d (D.int IntKind.i64 (0 : Int))), (V.d (D.int IntKind.i64 (0 : Int))), (V.tail (nat_lit 48) [] (nat_lit 0)), (V.tail (nat_lit 3) [] (nat_lit 0)), (V.tail (nat_lit 60) [] (nat_lit 0))])]) ([(119 : UInt8), (105 : UInt8), (100 : UInt8), (116 : UInt8), (104 : UInt8)]) hp q) (cP (@iaddrStr0 (l) hp) (cC (@wordsE (s) (l) hl ew) (cE (@nlNoL (s) hl hn) nilE))))))))))) (by kernel_rfl) rfl rfl
set_option maxHeartbeats 4000000 in
theorem rpTab : rpTab_T := by
  intro s l m k a b es rs ns ok hl hn ew hp hl1 q em hlm hs e
  exact pV 12 [(0, .l (Ex.exit (0 : Nat)) (stPx s (List.length s))), (1, .v (V.d (strsD l))), (2, .v (V.d (D.ref (List.map D.str l) (0 : Nat)))), (3, .v (V.d (D.str [(116 : UInt8), (97 : UInt8), (98 : UInt8)]))), (4, .v (V.d (D.bool ([(116 : UInt8), (97 : UInt8), (98 : UInt8)] == [(101 : UInt8), (100 : UInt8), (105 : UInt8), (116 : UInt8)])))), (6, .v (V.d (D.bool ([(116 : UInt8), (97 : UInt8), (98 : UInt8)] == [(102 : UInt8), (111 : UInt8), (108 : UInt8), (100 : UInt8)])))), (8, .v (V.d (D.bool ([(116 : UInt8), (97 : UInt8), (98 : UInt8)] == [(117 : UInt8), (110 : UInt8), (102 : UInt8), (111 : UInt8), (108 : UInt8), (100 : UInt8)])))), (10, .v (V.d (D.bool ([(116 : UInt8), (97 : UInt8), (98 : UInt8)] == [(105 : UInt8), (110 : UInt8), (108 : UInt8), (97 : UInt8), (121 : UInt8)])))), (12, .v (V.d (D.bool ([(116 : UInt8), (97 : UInt8), (98 : UInt8)] == [(119 : UInt8), (105 : UInt8), (100 : UInt8), (116 : UInt8), (104 : UInt8)])))), (14, .v (V.d (D.bool ([(116 : UInt8), (97 : UInt8), (98 : UInt8)] == [(116 : UInt8), (97 : UInt8), (98 : UInt8)])))), (16, .v (V.d (strsD m))), (17, .v (V.d (D.tup [(opR k a b es rs ns), (D.bool ok)])))] (cC (@refSz1 ((6 : Int)) (m) (k) (a) (b) (es) (rs) (ns) (ok) hlm hs e) (cP (@sliceFr1 (l) (m) hl1 em) (cP (@strEq ([(116 : UInt8), (97 : UInt8), (98 : UInt8)]) ([(116 : UInt8), (97 : UInt8), (98 : UInt8)])) (cP (@strEq ([(116 : UInt8), (97 : UInt8), (98 : UInt8)]) ([(119 : UInt8), (105 : UInt8), (100 : UInt8), (116 : UInt8), (104 : UInt8)])) (cP (@strEq ([(116 : UInt8), (97 : UInt8), (98 : UInt8)]) ([(105 : UInt8), (110 : UInt8), (108 : UInt8), (97 : UInt8), (121 : UInt8)])) (cP (@strEq ([(116 : UInt8), (97 : UInt8), (98 : UInt8)]) ([(117 : UInt8), (110 : UInt8), (102 : UInt8), (111 : UInt8), (108 : UInt8), (100 : UInt8)])) (cP (@strEq ([(116 : UInt8), (97 : UInt8), (98 : UInt8)]) ([(102 : UInt8), (111 : UInt8), (108 : UInt8), (100 : UInt8)])) (cP (@strEq ([(116 : UInt8), (97 : UInt8), (98 : UInt8)]) ([(101 : UInt8), (100 : UInt8), (105 : UInt8), (116 : UInt8)])) (cP (@loadStr0E (l) ([(Ob.cells [(V.d (D.int IntKind.i64 (0 : Int))), (V.d (D.int IntKind.i64 (0 : Int))), (V.d (D.int IntKind.i64 (0 : Int))), (V.tail (nat_lit 48) [] (nat_lit 0)), (V.tail (nat_lit 3) [] (nat_lit 0)), (V.tail (nat_lit 60) [] (nat_lit 0))])]) ([(116 : UInt8), (97 : UInt8), (98 : UInt8)]) hp q) (cP (@iaddrStr0 (l) hp) (cC (@wordsE (s) (l) hl ew) (cE (@nlNoL (s) hl hn) nilE)))))))))))) (by kernel_rfl) rfl rfl
set_option maxHeartbeats 4000000 in
theorem rpUndo : rpUndo_T := by
  intro s l m k a b es rs ns ok hl hn ew hp hl1 q em hlm hs e
  exact pV 12 [(0, .l (Ex.exit (0 : Nat)) (stPx s (List.length s))), (1, .v (V.d (strsD l))), (2, .v (V.d (D.ref (List.map D.str l) (0 : Nat)))), (3, .v (V.d (D.str [(117 : UInt8), (110 : UInt8), (100 : UInt8), (111 : UInt8)]))), (4, .v (V.d (D.bool ([(117 : UInt8), (110 : UInt8), (100 : UInt8), (111 : UInt8)] == [(101 : UInt8), (100 : UInt8), (105 : UInt8), (116 : UInt8)])))), (6, .v (V.d (D.bool ([(117 : UInt8), (110 : UInt8), (100 : UInt8), (111 : UInt8)] == [(102 : UInt8), (111 : UInt8), (108 : UInt8), (100 : UInt8)])))), (8, .v (V.d (D.bool ([(117 : UInt8), (110 : UInt8), (100 : UInt8), (111 : UInt8)] == [(117 : UInt8), (110 : UInt8), (102 : UInt8), (111 : UInt8), (108 : UInt8), (100 : UInt8)])))), (10, .v (V.d (D.bool ([(117 : UInt8), (110 : UInt8), (100 : UInt8), (111 : UInt8)] == [(105 : UInt8), (110 : UInt8), (108 : UInt8), (97 : UInt8), (121 : UInt8)])))), (12, .v (V.d (D.bool ([(117 : UInt8), (110 : UInt8), (100 : UInt8), (111 : UInt8)] == [(119 : UInt8), (105 : UInt8), (100 : UInt8), (116 : UInt8), (104 : UInt8)])))), (14, .v (V.d (D.bool ([(117 : UInt8), (110 : UInt8), (100 : UInt8), (111 : UInt8)] == [(116 : UInt8), (97 : UInt8), (98 : UInt8)])))), (16, .v (V.d (D.bool ([(117 : UInt8), (110 : UInt8), (100 : UInt8), (111 : UInt8)] == [(117 : UInt8), (110 : UInt8), (100 : UInt8), (111 : UInt8)])))), (18, .v (V.d (strsD m))), (19, .v (V.d (D.tup [(opR k a b es rs ns), (D.bool ok)])))] (cC (@refSz0 ((7 : Int)) (m) (k) (a) (b) (es) (rs) (ns) (ok) hlm hs e) (cP (@sliceFr1 (l) (m) hl1 em) (cP (@strEq ([(117 : UInt8), (110 : UInt8), (100 : UInt8), (111 : UInt8)]) ([(117 : UInt8), (110 : UInt8), (100 : UInt8), (111 : UInt8)])) (cP (@strEq ([(117 : UInt8), (110 : UInt8), (100 : UInt8), (111 : UInt8)]) ([(116 : UInt8), (97 : UInt8), (98 : UInt8)])) (cP (@strEq ([(117 : UInt8), (110 : UInt8), (100 : UInt8), (111 : UInt8)]) ([(119 : UInt8), (105 : UInt8), (100 : UInt8), (116 : UInt8), (104 : UInt8)])) (cP (@strEq ([(117 : UInt8), (110 : UInt8), (100 : UInt8), (111 : UInt8)]) ([(105 : UInt8), (110 : UInt8), (108 : UInt8), (97 : UInt8), (121 : UInt8)])) (cP (@strEq ([(117 : UInt8), (110 : UInt8), (100 : UInt8), (111 : UInt8)]) ([(117 : UInt8), (110 : UInt8), (102 : UInt8), (111 : UInt8), (108 : UInt8), (100 : UInt8)])) (cP (@strEq ([(117 : UInt8), (110 : UInt8), (100 : UInt8), (111 : UInt8)]) ([(102 : UInt8), (111 : UInt8), (108 : UInt8), (100 : UInt8)])) (cP (@strEq ([(117 : UInt8), (110 : UInt8), (100 : UInt8), (111 : UInt8)]) ([(101 : UInt8), (100 : UInt8), (105 : UInt8), (116 : UInt8)])) (cP (@loadStr0E (l) ([(Ob.cells [(V.d (D.int IntKind.i64 (0 : Int))), (V.d (D.int IntKind.i64 (0 : Int))), (V.d (D.int IntKind.i64 (0 : Int))), (V.tail (nat_lit 48) [] (nat_lit 0)), (V.tail (nat_lit 3) [] (nat_lit 0)), (V.tail (nat_lit 60) [] (nat_lit 0))])]) ([(117 : UInt8), (110 : UInt8), (100 : UInt8), (111 : UInt8)]) hp q) (cP (@iaddrStr0 (l) hp) (cC (@wordsE (s) (l) hl ew) (cE (@nlNoL (s) hl hn) nilE))))))))))))) (by kernel_rfl) rfl rfl
set_option maxHeartbeats 4000000 in
theorem rpRedo : rpRedo_T := by
  intro s l m k a b es rs ns ok hl hn ew hp hl1 q em hlm hs e
  exact pV 12 [(0, .l (Ex.exit (0 : Nat)) (stPx s (List.length s))), (1, .v (V.d (strsD l))), (2, .v (V.d (D.ref (List.map D.str l) (0 : Nat)))), (3, .v (V.d (D.str [(114 : UInt8), (101 : UInt8), (100 : UInt8), (111 : UInt8)]))), (4, .v (V.d (D.bool ([(114 : UInt8), (101 : UInt8), (100 : UInt8), (111 : UInt8)] == [(101 : UInt8), (100 : UInt8), (105 : UInt8), (116 : UInt8)])))), (6, .v (V.d (D.bool ([(114 : UInt8), (101 : UInt8), (100 : UInt8), (111 : UInt8)] == [(102 : UInt8), (111 : UInt8), (108 : UInt8), (100 : UInt8)])))), (8, .v (V.d (D.bool ([(114 : UInt8), (101 : UInt8), (100 : UInt8), (111 : UInt8)] == [(117 : UInt8), (110 : UInt8), (102 : UInt8), (111 : UInt8), (108 : UInt8), (100 : UInt8)])))), (10, .v (V.d (D.bool ([(114 : UInt8), (101 : UInt8), (100 : UInt8), (111 : UInt8)] == [(105 : UInt8), (110 : UInt8), (108 : UInt8), (97 : UInt8), (121 : UInt8)])))), (12, .v (V.d (D.bool ([(114 : UInt8), (101 : UInt8), (100 : UInt8), (111 : UInt8)] == [(119 : UInt8), (105 : UInt8), (100 : UInt8), (116 : UInt8), (104 : UInt8)])))), (14, .v (V.d (D.bool ([(114 : UInt8), (101 : UInt8), (100 : UInt8), (111 : UInt8)] == [(116 : UInt8), (97 : UInt8), (98 : UInt8)])))), (16, .v (V.d (D.bool ([(114 : UInt8), (101 : UInt8), (100 : UInt8), (111 : UInt8)] == [(117 : UInt8), (110 : UInt8), (100 : UInt8), (111 : UInt8)])))), (18, .v (V.d (D.bool ([(114 : UInt8), (101 : UInt8), (100 : UInt8), (111 : UInt8)] == [(114 : UInt8), (101 : UInt8), (100 : UInt8), (111 : UInt8)])))), (20, .v (V.d (strsD m))), (21, .v (V.d (D.tup [(opR k a b es rs ns), (D.bool ok)])))] (cC (@refSz0 ((8 : Int)) (m) (k) (a) (b) (es) (rs) (ns) (ok) hlm hs e) (cP (@sliceFr1 (l) (m) hl1 em) (cP (@strEq ([(114 : UInt8), (101 : UInt8), (100 : UInt8), (111 : UInt8)]) ([(114 : UInt8), (101 : UInt8), (100 : UInt8), (111 : UInt8)])) (cP (@strEq ([(114 : UInt8), (101 : UInt8), (100 : UInt8), (111 : UInt8)]) ([(117 : UInt8), (110 : UInt8), (100 : UInt8), (111 : UInt8)])) (cP (@strEq ([(114 : UInt8), (101 : UInt8), (100 : UInt8), (111 : UInt8)]) ([(116 : UInt8), (97 : UInt8), (98 : UInt8)])) (cP (@strEq ([(114 : UInt8), (101 : UInt8), (100 : UInt8), (111 : UInt8)]) ([(119 : UInt8), (105 : UInt8), (100 : UInt8), (116 : UInt8), (104 : UInt8)])) (cP (@strEq ([(114 : UInt8), (101 : UInt8), (100 : UInt8), (111 : UInt8)]) ([(105 : UInt8), (110 : UInt8), (108 : UInt8), (97 : UInt8), (121 : UInt8)])) (cP (@strEq ([(114 : UInt8), (101 : UInt8), (100 : UInt8), (111 : UInt8)]) ([(117 : UInt8), (110 : UInt8), (102 : UInt8), (111 : UInt8), (108 : UInt8), (100 : UInt8)])) (cP (@strEq ([(114 : UInt8), (101 : UInt8), (100 : UInt8), (111 : UInt8)]) ([(102 : UInt8), (111 : UInt8), (108 : UInt8), (100 : UInt8)])) (cP (@strEq ([(114 : UInt8), (101 : UInt8), (100 : UInt8), (111 : UInt8)]) ([(101 : UInt8), (100 : UInt8), (105 : UInt8), (116 : UInt8)])) (cP (@loadStr0E (l) ([(Ob.cells [(V.d (D.int IntKind.i64 (0 : Int))), (V.d (D.int IntKind.i64 (0 : Int))), (V.d (D.int IntKind.i64 (0 : Int))), (V.tail (nat_lit 48) [] (nat_lit 0)), (V.tail (nat_lit 3) [] (nat_lit 0)), (V.tail (nat_lit 60) [] (nat_lit 0))])]) ([(114 : UInt8), (101 : UInt8), (100 : UInt8), (111 : UInt8)]) hp q) (cP (@iaddrStr0 (l) hp) (cC (@wordsE (s) (l) hl ew) (cE (@nlNoL (s) hl hn) nilE)))))))))))))) (by kernel_rfl) rfl rfl
set_option maxHeartbeats 4000000 in
theorem rpNo : rpNo_T := by
  intro s v l hl hn ew hp q q0 q1 q2 q3 q4 q5 q6 q7
  have hx0 : (v == [(101 : UInt8), (100 : UInt8), (105 : UInt8), (116 : UInt8)]) = false := by (first | assumption | (((try simp only [SA] at *); (try simp (disch := omega) only [SB, reduceCtorEq] at *)) <;> first | omega | assumption | (refine ⟨?_, ?_⟩ <;> assumption) | (refine ⟨?_, ?_, ?_⟩ <;> assumption) | (intros; assumption) | (right; right; assumption) | (right; left; assumption) | (left; assumption)))
  have hx1 : (v == [(102 : UInt8), (111 : UInt8), (108 : UInt8), (100 : UInt8)]) = false := by (first | assumption | (((try simp only [SA] at *); (try simp (disch := omega) only [SB, reduceCtorEq] at *)) <;> first | omega | assumption | (refine ⟨?_, ?_⟩ <;> assumption) | (refine ⟨?_, ?_, ?_⟩ <;> assumption) | (intros; assumption) | (right; right; assumption) | (right; left; assumption) | (left; assumption)))
  have hx2 : (v == [(117 : UInt8), (110 : UInt8), (102 : UInt8), (111 : UInt8), (108 : UInt8), (100 : UInt8)]) = false := by (first | assumption | (((try simp only [SA] at *); (try simp (disch := omega) only [SB, reduceCtorEq] at *)) <;> first | omega | assumption | (refine ⟨?_, ?_⟩ <;> assumption) | (refine ⟨?_, ?_, ?_⟩ <;> assumption) | (intros; assumption) | (right; right; assumption) | (right; left; assumption) | (left; assumption)))
  have hx3 : (v == [(105 : UInt8), (110 : UInt8), (108 : UInt8), (97 : UInt8), (121 : UInt8)]) = false := by (first | assumption | (((try simp only [SA] at *); (try simp (disch := omega) only [SB, reduceCtorEq] at *)) <;> first | omega | assumption | (refine ⟨?_, ?_⟩ <;> assumption) | (refine ⟨?_, ?_, ?_⟩ <;> assumption) | (intros; assumption) | (right; right; assumption) | (right; left; assumption) | (left; assumption)))
  have hx4 : (v == [(119 : UInt8), (105 : UInt8), (100 : UInt8), (116 : UInt8), (104 : UInt8)]) = false := by (first | assumption | (((try simp only [SA] at *); (try simp (disch := omega) only [SB, reduceCtorEq] at *)) <;> first | omega | assumption | (refine ⟨?_, ?_⟩ <;> assumption) | (refine ⟨?_, ?_, ?_⟩ <;> assumption) | (intros; assumption) | (right; right; assumption) | (right; left; assumption) | (left; assumption)))
  have hx5 : (v == [(116 : UInt8), (97 : UInt8), (98 : UInt8)]) = false := by (first | assumption | (((try simp only [SA] at *); (try simp (disch := omega) only [SB, reduceCtorEq] at *)) <;> first | omega | assumption | (refine ⟨?_, ?_⟩ <;> assumption) | (refine ⟨?_, ?_, ?_⟩ <;> assumption) | (intros; assumption) | (right; right; assumption) | (right; left; assumption) | (left; assumption)))
  have hx6 : (v == [(117 : UInt8), (110 : UInt8), (100 : UInt8), (111 : UInt8)]) = false := by (first | assumption | (((try simp only [SA] at *); (try simp (disch := omega) only [SB, reduceCtorEq] at *)) <;> first | omega | assumption | (refine ⟨?_, ?_⟩ <;> assumption) | (refine ⟨?_, ?_, ?_⟩ <;> assumption) | (intros; assumption) | (right; right; assumption) | (right; left; assumption) | (left; assumption)))
  have hx7 : (v == [(114 : UInt8), (101 : UInt8), (100 : UInt8), (111 : UInt8)]) = false := by (first | assumption | (((try simp only [SA] at *); (try simp (disch := omega) only [SB, reduceCtorEq] at *)) <;> first | omega | assumption | (refine ⟨?_, ?_⟩ <;> assumption) | (refine ⟨?_, ?_, ?_⟩ <;> assumption) | (intros; assumption) | (right; right; assumption) | (right; left; assumption) | (left; assumption)))
  exact pV 12 [(0, .l (Ex.exit (0 : Nat)) (stPx s (List.length s))), (1, .v (V.d (strsD l))), (2, .v (V.d (D.ref (List.map D.str l) (0 : Nat)))), (3, .v (V.d (D.str v))), (4, .v (V.d (D.bool (v == [(101 : UInt8), (100 : UInt8), (105 : UInt8), (116 : UInt8)])))), (5, bf), (6, .v (V.d (D.bool (v == [(102 : UInt8), (111 : UInt8), (108 : UInt8), (100 : UInt8)])))), (7, bf), (8, .v (V.d (D.bool (v == [(117 : UInt8), (110 : UInt8), (102 : UInt8), (111 : UInt8), (108 : UInt8), (100 : UInt8)])))), (9, bf), (10, .v (V.d (D.bool (v == [(105 : UInt8), (110 : UInt8), (108 : UInt8), (97 : UInt8), (121 : UInt8)])))), (11, bf), (12, .v (V.d (D.bool (v == [(119 : UInt8), (105 : UInt8), (100 : UInt8), (116 : UInt8), (104 : UInt8)])))), (13, bf), (14, .v (V.d (D.bool (v == [(116 : UInt8), (97 : UInt8), (98 : UInt8)])))), (15, bf), (16, .v (V.d (D.bool (v == [(117 : UInt8), (110 : UInt8), (100 : UInt8), (111 : UInt8)])))), (17, bf), (18, .v (V.d (D.bool (v == [(114 : UInt8), (101 : UInt8), (100 : UInt8), (111 : UInt8)])))), (19, bf)] (cP hx7 (cP (@strEq (v) ([(114 : UInt8), (101 : UInt8), (100 : UInt8), (111 : UInt8)])) (cP hx6 (cP (@strEq (v) ([(117 : UInt8), (110 : UInt8), (100 : UInt8), (111 : UInt8)])) (cP hx5 (cP (@strEq (v) ([(116 : UInt8), (97 : UInt8), (98 : UInt8)])) (cP hx4 (cP (@strEq (v) ([(119 : UInt8), (105 : UInt8), (100 : UInt8), (116 : UInt8), (104 : UInt8)])) (cP hx3 (cP (@strEq (v) ([(105 : UInt8), (110 : UInt8), (108 : UInt8), (97 : UInt8), (121 : UInt8)])) (cP hx2 (cP (@strEq (v) ([(117 : UInt8), (110 : UInt8), (102 : UInt8), (111 : UInt8), (108 : UInt8), (100 : UInt8)])) (cP hx1 (cP (@strEq (v) ([(102 : UInt8), (111 : UInt8), (108 : UInt8), (100 : UInt8)])) (cP hx0 (cP (@strEq (v) ([(101 : UInt8), (100 : UInt8), (105 : UInt8), (116 : UInt8)])) (cP (@loadStr0E (l) ([(Ob.cells [(V.d (D.int IntKind.i64 (0 : Int))), (V.d (D.int IntKind.i64 (0 : Int))), (V.d (D.int IntKind.i64 (0 : Int))), (V.tail (nat_lit 48) [] (nat_lit 0)), (V.tail (nat_lit 3) [] (nat_lit 0)), (V.tail (nat_lit 60) [] (nat_lit 0))])]) (v) hp q) (cP (@iaddrStr0 (l) hp) (cC (@wordsE (s) (l) hl ew) (cE (@nlNoL (s) hl hn) nilE)))))))))))))))))))) (by kernel_rfl) rfl rfl
end Go.Proofs.YtgiahagbmgnmkaaDoor.Script
/- Script: closed runs. -/
set_option maxRecDepth 100000
set_option linter.unusedVariables false
namespace Go.Proofs.YtgiahagbmgnmkaaDoor.Script
open Go Pv G
set_option maxHeartbeats 4000000 in
theorem edits : edits_T := by
  exact pV 12 [] nilE (by kernel_rfl) rfl rfl
end Go.Proofs.YtgiahagbmgnmkaaDoor.Script
/- Script: the reference's Parse as one; the law ScriptParses: statements. -/
set_option linter.unusedVariables false
set_option linter.unusedSimpArgs false
namespace Go.Proofs.YtgiahagbmgnmkaaDoor.Script
open Go Pv G
def refP_T : Prop := ∀ (s : Str) (k a b : Int) (es : List Edit) (rs : List Int) (ns : List Inl) (ok : Bool) (hl : s.length ≤ 100000) (e : rfP s = ((k, a, b, es, rs, ns), ok)), Ans X0 FPr [.d (.str s)] (.d (.tup [opR k a b es rs ns, .bool ok]))
theorem refP : refP_T := fun s k a b es rs ns ok hl e => by
  unfold rfP at e
  cases hn : hasC 10 s with
  | true =>
    rw [if_pos hn] at e
    cases e
    exact rpNl s (by omega) hn
  | false =>
    rw [if_neg (by rw [hn]; simp)] at e
    have h0 : 0 < (pieces 32 s).length := by rw [pieces_length]; omega
    have sm0 : Sm (pieces 32 s) := fun p hp => by have := pieces_small 32 s p hp; omega
    have ln0 : (pieces 32 s).length ≤ s.length + 1 := by rw [pieces_length]; have := List.count_le_length (a := (32 : UInt8)) (l := s); omega
    have s1 : Sm ((pieces 32 s).drop 1) := smDrop 1 sm0
    have hl1 : ((pieces 32 s).drop 1).length ≤ 1000000 := by simp; omega
    by_cases q0 : strAt (pieces 32 s) 0 = [101, 100, 105, 116]
    · rw [if_pos q0] at e
      exact rpEdit s _ _ k a b es rs ns ok (by omega) hn rfl h0 h0 q0 rfl hl1 s1 e
    rw [if_neg q0] at e
    by_cases q1 : strAt (pieces 32 s) 0 = [102, 111, 108, 100]
    · rw [if_pos q1] at e
      exact rpFold s _ _ k a b es rs ns ok (by omega) hn rfl h0 h0 q1 rfl hl1 s1 e
    rw [if_neg q1] at e
    by_cases q2 : strAt (pieces 32 s) 0 = [117, 110, 102, 111, 108, 100]
    · rw [if_pos q2] at e
      exact rpUnfold s _ _ k a b es rs ns ok (by omega) hn rfl h0 h0 q2 rfl hl1 s1 e
    rw [if_neg q2] at e
    by_cases q3 : strAt (pieces 32 s) 0 = [105, 110, 108, 97, 121]
    · rw [if_pos q3] at e
      exact rpInlay s _ _ k a b es rs ns ok (by omega) hn rfl h0 h0 q3 rfl hl1 s1 e
    rw [if_neg q3] at e
    by_cases q4 : strAt (pieces 32 s) 0 = [119, 105, 100, 116, 104]
    · rw [if_pos q4] at e
      exact rpWidth s _ _ k a b es rs ns ok (by omega) hn rfl h0 h0 q4 rfl hl1 s1 e
    rw [if_neg q4] at e
    by_cases q5 : strAt (pieces 32 s) 0 = [116, 97, 98]
    · rw [if_pos q5] at e
      exact rpTab s _ _ k a b es rs ns ok (by omega) hn rfl h0 h0 q5 rfl hl1 s1 e
    rw [if_neg q5] at e
    by_cases q6 : strAt (pieces 32 s) 0 = [117, 110, 100, 111]
    · rw [if_pos q6] at e
      exact rpUndo s _ _ k a b es rs ns ok (by omega) hn rfl h0 h0 q6 rfl hl1 s1 e
    rw [if_neg q6] at e
    by_cases q7 : strAt (pieces 32 s) 0 = [114, 101, 100, 111]
    · rw [if_pos q7] at e
      exact rpRedo s _ _ k a b es rs ns ok (by omega) hn rfl h0 h0 q7 rfl hl1 s1 e
    rw [if_neg q7] at e
    cases e
    have bq : ∀ {v : Str}, ¬ strAt (pieces 32 s) 0 = v → (strAt (pieces 32 s) 0 == v) = false := fun h => by simpa using h
    exact rpNo s _ _ (by omega) hn rfl h0 rfl (bq q0) (bq q1) (bq q2) (bq q3) (bq q4) (bq q5) (bq q6) (bq q7)
/- how long -/
theorem rfEd_len : ∀ f l es, (rfEd f l es).1.length ≤ es.length + f := by
  intro f
  induction f with
  | zero => intro l es; exact Nat.le_refl _
  | succ f ih =>
    intro l es
    rw [rfEd]
    split
    · split
      · show es.length ≤ _; omega
      · split
        · show es.length ≤ _; omega
        · have := ih (l.drop 3) (es ++ [(intAt (numsL (l.take 2)) 0, intAt (numsL (l.take 2)) 1, tdV (strAt l 2), ())])
          simp only [List.length_append, List.length_singleton] at this
          omega
    · show es.length ≤ _; omega
theorem rfRm_len : ∀ f l rs, (rfRm f l rs).2.1.length ≤ rs.length + f := by
  intro f
  induction f with
  | zero => intro l es; exact Nat.le_refl _
  | succ f ih =>
    intro l rs
    rw [rfRm]
    split
    · split
      · split
        · show rs.length ≤ _; omega
        · split
          · show rs.length ≤ _; omega
          · have := ih (l.drop 2) (rs ++ [intAt (numsL (mid l 1 2)) 0])
            simp only [List.length_append, List.length_singleton] at this
            omega
      · show rs.length ≤ _; omega
    · show rs.length ≤ _; omega
theorem rfAd_len : ∀ f l ns, (rfAd f l ns).1.length ≤ ns.length + f := by
  intro f
  induction f with
  | zero => intro l es; exact Nat.le_refl _
  | succ f ih =>
    intro l ns
    rw [rfAd]
    split
    · split
      · show ns.length ≤ _; omega
      · split
        · split
          · show ns.length ≤ _; omega
          · have := ih (l.drop 6) (ns ++ [(intAt (numsL (mid l 1 5)) 0, intAt (numsL (mid l 1 5)) 1, intAt (numsL (mid l 1 5)) 2, intAt (numsL (mid l 1 5)) 3, tdV (strAt l 5), ())])
            simp only [List.length_append, List.length_singleton] at this
            omega
        · show ns.length ≤ _; omega
    · show ns.length ≤ _; omega
def OpLen (o : Opn) (n : Nat) : Prop := o.2.2.2.1.length ≤ n ∧ o.2.2.2.2.1.length ≤ n ∧ o.2.2.2.2.2.length ≤ n
theorem opLen0 (k a b : Int) (n : Nat) : OpLen (k, a, b, [], [], []) n := ⟨Nat.zero_le _, Nat.zero_le _, Nat.zero_le _⟩
theorem rfEdits_len (l : List Str) : OpLen (rfEdits l).1 (l.length + 1) := by
  have := rfEd_len (l.length + 1) l []
  unfold rfEdits
  exact ⟨by simpa using this, Nat.zero_le _, Nat.zero_le _⟩
theorem rfInlays_len (l : List Str) (hs : Sm l) : OpLen (rfInlays l).1 (l.length + 1) := by
  have h1 : (rfRs l).2.1.length ≤ l.length + 1 := by have := rfRm_len (l.length + 1) l []; unfold rfRs; simpa using this
  have h2 := (rfRm_sm (l.length + 1) l [] hs).2
  have h3 := rfAd_len ((rfRs l).1.length + 1) (rfRs l).1 []
  have h4 : (rfRs l).1.length ≤ l.length := h2
  unfold rfInlays
  split
  · exact ⟨Nat.zero_le _, h1, by
      have : (rfAs (rfRs l).1).1.length ≤ ([] : List Inl).length + ((rfRs l).1.length + 1) := h3
      simp only [List.length_nil] at this
      show (rfAs (rfRs l).1).1.length ≤ _
      omega⟩
  · exact ⟨Nat.zero_le _, h1, Nat.zero_le _⟩
theorem rfSized_len (k : Int) (c : Nat) (l : List Str) (n : Nat) : OpLen (rfSized k c l).1 n := by
  unfold rfSized
  split
  · exact opLen0 _ _ _ _
  · exact opLen0 _ _ _ _
theorem rfP_len (s : Str) (hs : s.length ≤ 1000000) : OpLen (rfP s).1 (s.length + 1) := by
  have ln0 : (pieces 32 s).length ≤ s.length + 1 := by rw [pieces_length]; have := List.count_le_length (a := (32 : UInt8)) (l := s); omega
  have sm0 : Sm (pieces 32 s) := fun p hp => by have := pieces_small 32 s p hp; omega
  have ln1 : ((pieces 32 s).drop 1).length + 1 ≤ s.length + 1 := by
    have : 0 < (pieces 32 s).length := by rw [pieces_length]; omega
    simp; omega
  have up : ∀ {o : Opn} {n m : Nat}, n ≤ m → OpLen o n → OpLen o m := fun h ⟨a, b, c⟩ => ⟨Nat.le_trans a h, Nat.le_trans b h, Nat.le_trans c h⟩
  unfold rfP
  split
  · exact opLen0 _ _ _ _
  split
  · exact up ln1 (rfEdits_len _)
  split
  · exact rfSized_len _ _ _ _
  split
  · exact rfSized_len _ _ _ _
  split
  · exact up ln1 (rfInlays_len _ (smDrop 1 sm0))
  split
  · exact rfSized_len _ _ _ _
  split
  · exact rfSized_len _ _ _ _
  split
  · exact rfSized_len _ _ _ _
  split
  · exact rfSized_len _ _ _ _
  exact opLen0 _ _ _ _
/- ScriptParses -/
abbrev FSP : Nat := 3
def spBig_T : Prop := ∀ (s : Str) (h : 1000 < s.length), Ans X0 FSP [.d (.str s)] (.d (.bool true))
def spNo_T : Prop := ∀ (s : Str) (k a b : Int) (es : List Edit) (rs : List Int) (ns : List Inl) (h : s.length ≤ 1000) (e : rfP s = ((k, a, b, es, rs, ns), false)), Ans X0 FSP [.d (.str s)] (.d (.bool true))
def spYes_T : Prop := ∀ (s : Str) (k a b : Int) (es : List Edit) (rs : List Int) (ns : List Inl) (h : s.length ≤ 1000) (e : rfP s = ((k, a, b, es, rs, ns), true)) (g1 : es.length ≤ 1000000) (g2 : rs.length ≤ 1000000) (g3 : ns.length ≤ 1000000), Ans X0 FSP [.d (.str s)] (.d (.bool true))
def sameZ_T : Prop := Ans X0 FSm [.d (opR 0 0 0 [] [] []), .d (opR 0 0 0 [] [] [])] (.d (.bool true))
theorem sameZ : sameZ_T := sameX 0 0 0 [] [] [] (by simp) (by simp) (by simp)
end Go.Proofs.YtgiahagbmgnmkaaDoor.Script
/- Script: paths, printed by a program of mine. -/
set_option maxRecDepth 100000
set_option linter.unusedSimpArgs false
set_option linter.unusedVariables false
namespace Go.Proofs.YtgiahagbmgnmkaaDoor.Script
open Go Pv G
set_option maxHeartbeats 4000000 in
theorem spBig : spBig_T := by
  intro s h
  have hx0 : (decide ((↑(ByteArray.size { data := (List.toArray s) }) : Int) > (1000 : Int))) = true := by (first | assumption | (((try simp only [SA] at *); (try simp (disch := omega) only [SB, reduceCtorEq] at *)) <;> first | omega | assumption | (refine ⟨?_, ?_⟩ <;> assumption) | (refine ⟨?_, ?_, ?_⟩ <;> assumption) | (intros; assumption) | (right; right; assumption) | (right; left; assumption) | (left; assumption)))
  exact pV 12 [(2, bt), (3, .v (V.d (D.bool true)))] (cC (@edits ) (cP hx0 nilE)) (by kernel_rfl) rfl rfl
set_option maxHeartbeats 4000000 in
theorem spNo : spNo_T := by
  intro s k a b es rs ns h e
  have hx0 : (decide ((↑(ByteArray.size { data := (List.toArray s) }) : Int) > (1000 : Int))) = false := by (first | assumption | (((try simp only [SA] at *); (try simp (disch := omega) only [SB, reduceCtorEq] at *)) <;> first | omega | assumption | (refine ⟨?_, ?_⟩ <;> assumption) | (refine ⟨?_, ?_, ?_⟩ <;> assumption) | (intros; assumption) | (right; right; assumption) | (right; left; assumption) | (left; assumption)))
  exact pV 12 [(2, bf), (3, .v (errR)), (4, .v (V.d (D.tup [(opR k a b es rs ns), (D.bool false)]))), (11, .v (V.d (D.bool true))), (14, .v (V.d (D.bool true)))] (cC (@edits ) (cC (@sameZ ) (cC (@refP (s) (k) (a) (b) (es) (rs) (ns) (false) (by (first | assumption | (((try simp only [SA] at *); (try simp (disch := omega) only [SB, reduceCtorEq] at *)) <;> first | omega | assumption | (refine ⟨?_, ?_⟩ <;> assumption) | (refine ⟨?_, ?_, ?_⟩ <;> assumption) | (intros; assumption) | (right; right; assumption) | (right; left; assumption) | (left; assumption)))) e) (cC (@psErr (s) ((k, a, b, es, rs, ns)) (by (first | assumption | (((try simp only [SA] at *); (try simp (disch := omega) only [SB, reduceCtorEq] at *)) <;> first | omega | assumption | (refine ⟨?_, ?_⟩ <;> assumption) | (refine ⟨?_, ?_, ?_⟩ <;> assumption) | (intros; assumption) | (right; right; assumption) | (right; left; assumption) | (left; assumption)))) e) (cP hx0 nilE))))) (by kernel_rfl) rfl rfl
set_option maxHeartbeats 4000000 in
theorem spYes : spYes_T := by
  intro s k a b es rs ns h e g1 g2 g3
  have hx0 : (decide ((↑(ByteArray.size { data := (List.toArray s) }) : Int) > (1000 : Int))) = false := by (first | assumption | (((try simp only [SA] at *); (try simp (disch := omega) only [SB, reduceCtorEq] at *)) <;> first | omega | assumption | (refine ⟨?_, ?_⟩ <;> assumption) | (refine ⟨?_, ?_, ?_⟩ <;> assumption) | (intros; assumption) | (right; right; assumption) | (right; left; assumption) | (left; assumption)))
  exact pV 12 [(2, bf), (3, .v (okR k a b es rs ns)), (4, .v (V.d (D.tup [(opR k a b es rs ns), (D.bool true)]))), (12, .v (V.d (D.bool true))), (15, .v (V.d (D.bool true)))] (cC (@edits ) (cC (@sameX (k) (a) (b) (es) (rs) (ns) (by (first | assumption | (((try simp only [SA] at *); (try simp (disch := omega) only [SB, reduceCtorEq] at *)) <;> first | omega | assumption | (refine ⟨?_, ?_⟩ <;> assumption) | (refine ⟨?_, ?_, ?_⟩ <;> assumption) | (intros; assumption) | (right; right; assumption) | (right; left; assumption) | (left; assumption)))) (by (first | assumption | (((try simp only [SA] at *); (try simp (disch := omega) only [SB, reduceCtorEq] at *)) <;> first | omega | assumption | (refine ⟨?_, ?_⟩ <;> assumption) | (refine ⟨?_, ?_, ?_⟩ <;> assumption) | (intros; assumption) | (right; right; assumption) | (right; left; assumption) | (left; assumption)))) (by (first | assumption | (((try simp only [SA] at *); (try simp (disch := omega) only [SB, reduceCtorEq] at *)) <;> first | omega | assumption | (refine ⟨?_, ?_⟩ <;> assumption) | (refine ⟨?_, ?_, ?_⟩ <;> assumption) | (intros; assumption) | (right; right; assumption) | (right; left; assumption) | (left; assumption))))) (cC (@refP (s) (k) (a) (b) (es) (rs) (ns) (true) (by (first | assumption | (((try simp only [SA] at *); (try simp (disch := omega) only [SB, reduceCtorEq] at *)) <;> first | omega | assumption | (refine ⟨?_, ?_⟩ <;> assumption) | (refine ⟨?_, ?_, ?_⟩ <;> assumption) | (intros; assumption) | (right; right; assumption) | (right; left; assumption) | (left; assumption)))) e) (cC (@psOk (s) (k) (a) (b) (es) (rs) (ns) (by (first | assumption | (((try simp only [SA] at *); (try simp (disch := omega) only [SB, reduceCtorEq] at *)) <;> first | omega | assumption | (refine ⟨?_, ?_⟩ <;> assumption) | (refine ⟨?_, ?_, ?_⟩ <;> assumption) | (intros; assumption) | (right; right; assumption) | (right; left; assumption) | (left; assumption)))) e) (cP hx0 nilE))))) (by kernel_rfl) rfl rfl
end Go.Proofs.YtgiahagbmgnmkaaDoor.Script
/- Script: what the row's list gives: the package-level variables that are known. -/
set_option linter.unusedSimpArgs false
set_option linter.unusedVariables false
namespace Go.Proofs.YtgiahagbmgnmkaaDoor.Script
open Go Pv
theorem strs_of_tab {H : Type} {enc : TypeId × Value → H} {P : Program} {w : World} {base : Nat} {sp : Nat → Bool} {held : Bool} {fuel : Nat} {t e : TypeId} {n : Nat} {cs : List Value} {ss : List (List UInt8)} {p : List MemPlace}
    (ht : P.underlying t = some (.array n e)) (he : P.underlying e = some .string) (hce : P.cellsOf e = 1) (hct : P.cellsOf t = n)
    (h : DataW.trod enc P w base sp held fuel t cs = some (.agg (ss.map fun s => .lit (.string s)), p)) : cs = ss.map fun s => Value.string ⟨s.toArray⟩ := by
  cases fuel with
  | zero => simp [DataW.trod] at h
  | succ fuel =>
    simp only [DataW.trod, ht, hce, hct, Nat.mul_one] at h
    split at h
    · rename_i hl
      obtain ⟨xs, hm, hx⟩ := Option.map_eq_some_iff.1 h
      have hxs : xs.map (·.1) = ss.map fun z => (DataW.lit (.string z) : DataW H) := by
        have := congrArg Prod.fst hx
        simpa using this
      have hxl : xs.length = n := by simpa using Lib.mapM_length hm
      have hzl : ss.length = n := by
        have := congrArg List.length hxs
        simp at this
        omega
      apply List.ext_getElem?
      intro i
      by_cases hi : i < n
      · obtain ⟨b, hb, hf⟩ := Lib.mapM_at hm i i (by simp [hi])
        obtain ⟨z, hc, rfl, _⟩ := DataW.trod_string he hf
        have h1 : cs[i]? = some (.string z) := by
          have := congrArg (·[0]?) hc
          simpa [List.getElem?_take, List.getElem?_drop] using this
        have h2 : (xs.map (·.1))[i]? = some (DataW.lit (.string z.data.toList) : DataW H) := by simp [hb]
        rw [hxs] at h2
        simp only [List.getElem?_map, Option.map_eq_some_iff, DataW.lit.injEq, Lit.string.injEq] at h2
        obtain ⟨z', hz', e'⟩ := h2
        subst e'
        simp [h1, hz']
      · rw [List.getElem?_eq_none (by omega), List.getElem?_eq_none (by simp; omega)]
    · cases h
theorem full_var {P : Program} {W : World} {n : String} {g : Nat} {cs : Array Value} (hg : P.globalNamed n = some g) (h : W.var? P n = some cs) : fullE W g = cs.size := by
  unfold World.var? at h
  rw [hg] at h
  simp only [Option.bind_some] at h
  unfold fullE
  split at h
  · rename_i c _ _ e
    rw [e]
    cases h
    rfl
  · cases h
theorem var_block {P : Program} {W : World} {n : String} {g : Nat} {cs : List Value} (hg : P.globalNamed n = some g) (h : W.var? P n = some cs.toArray) : ∃ T fz, W.heap[g]? = some (.cells ⟨cs⟩ T fz) := by
  unfold World.var? at h
  rw [hg] at h
  simp only [Option.bind_some] at h
  split at h
  · rename_i c T fz e
    cases h
    exact ⟨T, fz, e⟩
  · cases h
theorem topG_own {W : World} {g : Nat} {o : Obj} (h : W.heap[g]? = some o) : (topG W).own g = .fgn := by
  simp only [topG]
  rw [if_pos (Array.getElem?_eq_some_iff.1 h).1]
theorem ptd_strs (w : World) (e : Nat → Nat) (ss : List (List UInt8)) : PtD w e (ss.map fun s => .string ⟨s.toArray⟩) (ss.map D.str) := by
  refine ⟨by simp, fun j v d h1 h2 => ?_⟩
  simp only [List.getElem?_map, Option.map_eq_some_iff] at h1 h2
  obtain ⟨s, hs, rfl⟩ := h1
  obtain ⟨s', hs', rfl⟩ := h2
  rw [hs] at hs'
  cases hs'
  exact .str s
theorem ptd_ints (w : World) (e : Nat → Nat) (k : IntKind) (zs : List Int) : PtD w e (zs.map fun z => .int k z) (zs.map fun z => .int k z) := by
  refine ⟨by simp, fun j v d h1 h2 => ?_⟩
  simp only [List.getElem?_map, Option.map_eq_some_iff] at h1 h2
  obtain ⟨s, hs, rfl⟩ := h1
  obtain ⟨s', hs', rfl⟩ := h2
  rw [hs] at hs'
  cases hs'
  exact .int k s
theorem gPow : Tryd.prog.globalNamed "internal/strconv.uint64pow10" = some 3 := by kernel_rfl
theorem laidFacts {W : World} (h : laidMetH Tryd.prog Rows.scriptNoneRow.laid W) :
    W.var? Tryd.prog "internal/strconv.uint64pow10" = some (Lib.pow10Tab.map fun z => Value.int .u64 z).toArray := by
  have h' : laidMet Tryd.prog Rows.scriptNoneRow.laid W := h
  obtain ⟨ps, ⟨g1, t1, c1, f1, p1, q1, _, _, _, _, ⟨g2, t2, c2, f2, p2, q2, _, _, _, _, ⟨g3, t3, c3, f3, p3, q3, a3, b3, d3, e3, ⟨g4, t4, c4, f4, p4, q4, _, _, _, _, ⟨g5, t5, c5, f5, p5, q5, _, _, _, _, _, _⟩, _⟩, _⟩, _⟩, _⟩, _⟩ := h'
  obtain rfl := Option.some.inj (gPow.symm.trans a3)
  obtain rfl := Option.some.inj ((show (Tryd.prog.globals[3]?).map (·.type) = some 113 by kernel_rfl).symm.trans b3)
  rw [d3]
  have := Lib.cells_of_tab (k := .u64) (zs := Lib.pow10Tab) (n := 20) (e := 103) (by kernel_rfl) (by kernel_rfl) (by kernel_rfl) (by kernel_rfl) e3
  rw [← this]
set_option maxRecDepth 100000 in
theorem maxLenIs {W : World} (h : W.ShapedOpen Tryd.prog) : ∃ z : Int, (∃ T fz, W.heap[0]? = some (.cells ⟨[.int .i64 z]⟩ T fz)) ∧ 1 ≤ fullE W 0 := by
  obtain ⟨cs, e1, e2, e3⟩ := h.1 0 #[.int .i64 0] 3 (of_decide_eq_true (by kernel_rfl)) (by kernel_rfl)
  obtain ⟨ts, k1, _, k3⟩ := e3 (by kernel_rfl)
  have hts : ts = [3] := Option.some.inj (k1.symm.trans (by kernel_rfl))
  have hsz : cs.size = 1 := e2
  have hc : cs[0]? = some cs[0] := Array.getElem?_eq_getElem (by omega)
  obtain ⟨u, hu, hok⟩ := k3 0 cs[0] hc
  rw [hts] at hu
  have hu' : u = 3 := by
    simp only [List.length_singleton, Nat.mod_one, List.getElem?_cons_zero, Option.some.injEq] at hu
    exact hu.symm
  subst hu'
  have hz : ∃ z : Int, cs[0] = .int .i64 z := by
    have hund : Tryd.prog.underlying 3 = some (.int .i64) := by kernel_rfl
    unfold Cell.ok at hok
    rw [hund] at hok
    clear hund h e1 k1 k3 e3
    revert hok
    generalize cs[0] = v
    intro hok
    cases v with
    | int k n => exact ⟨n, by rw [hok.1]⟩
    | _ => exact False.elim hok
  obtain ⟨z, hz⟩ := hz
  refine ⟨z, ?_, ?_⟩
  · refine ⟨3, (0, 0), e1.trans ?_⟩
    have hcs : cs = ⟨[.int .i64 z]⟩ := by
      apply Array.ext'
      apply List.ext_getElem (by simp; omega)
      intro i h1 h2
      simp at h1
      obtain rfl : i = 0 := by omega
      simpa using hz
    rw [hcs]
  · unfold fullE
    rw [e1]
    simp only
    omega
theorem globAll {W : World} (hL : laidMetH Tryd.prog Rows.scriptNoneRow.laid W) (hS : W.ShapedOpen Tryd.prog) : GlobOk X0 W (topG W) := by
  have hP := laidFacts hL
  obtain ⟨z, hz, hz1⟩ := maxLenIs hS
  refine ⟨fun _ => z, fun k cs hk => ?_⟩
  rcases hk with hk | ⟨hk, rfl⟩
  · simp only [X0] at hk
    split at hk
    · rename_i e
      subst e
      cases hk
      obtain ⟨T, fz, hb⟩ := var_block gPow hP
      refine ⟨topG_own hb, _, T, fz, hb, ptd_ints W (topG W).e .u64 Lib.pow10Tab, ?_⟩
      show _ ≤ fullE W _
      rw [full_var gPow hP]
      simp [globPow]
    · cases hk
  · simp only [X0, List.mem_singleton] at hk
    subst hk
    obtain ⟨T, fz, hb⟩ := hz
    exact ⟨topG_own hb, _, T, fz, hb, ptd_ints W (topG W).e .i64 [z], hz1⟩
end Go.Proofs.YtgiahagbmgnmkaaDoor.Script
